/- For all beds, scores and gates made of bytes, the given function TopSureLeg returns true: both tables of who never misses are the same, and a leg that is thrown as Aim says ends after as many visits as the table says, by the laws of chapter 3. No conditions beyond those of the given statement. -/
import Derived.Test.YtgfbenanljjgaaaVJ12
import Derived.Test.YtgfbenanljjgaaaVJ8
import Derived.Test.YtgfbenanljjgaaaVJ11
import Derived.Test.YtgfbenanljjgaaaVJ5
import Derived.ChangeShapes
import Derived.WideShapes
import Derived.OpenShut
import Derived.ShutString
import Derived.ChangeOld
import Derived.Carry
import Derived.Below
import Derived.Test.YtgfbenanljjgaaaRows
import Derived.JoinedOf
set_option linter.unusedSectionVars false
set_option linter.unusedSimpArgs false
set_option linter.unusedVariables false
namespace Go.Proofs.Ytgfbenanljjgaaa.Du.Th.Ai
open Go Go.Oc
set_option maxRecDepth 8000
set_option maxHeartbeats 8000000
theorem lvisit_ok {st g left : Int} {B : List Int} {L : Nat → Int} (h : VisO g left B L) (hs : 2 ≤ st ∧ st ≤ 1001) (hg : 0 ≤ g ∧ g ≤ 2) (hl : lowG g ≤ left ∧ left ≤ st) :
 ACalls Try.prog 46 [cntR st g,.bo true,i64 left,ints B] (.tu [thrV (L B.length) (left - L B.length) B.length (decide (L B.length = 0)),i64 0]):=by
 have hlg:=lowG_le g
 have hth:=throw_ok (st:=st) h hg (by omega)
 have hco:=lcount_ok st g hs hg
 have hwi:=lwithin_ok (lowG g) st [left]
 have ew : withinL (lowG g) st [left] = true:=by simp [withinL];omega
 rw [ew] at hwi
 generalize hq1 : decide (L B.length = 0) = q1 at *
 generalize hq2 : left - L B.length = q2 at *
 generalize hq3 : L B.length = q3 at *
 generalize hq4 : (B.length : Int) = q4 at *
 refine zas (rs:=[thrV q3 q2 q4 q1,i64 0]) [.cell 8 94,.tmp 9] Try.func46 rfl (by kernel_rfl) Try.ntmps46 rfl (by simp) rfl fun C vs=>?_
 repeat apply zq
 refine zb fun K hK=>?_;simp only [go_sem];(try simp (disch:=omega) only [zI]);repeat first | intro _ | refine ⟨by omega,?_⟩
 apply hK;refine zw (zfP 4 4 [i64 st,i64 0,i64 g] (by omega) rfl rfl) ?_;apply zw (zk [1,2,3,4,8]);simp only [go_sem]
 repeat apply zq
 refine zb fun K hK=>?_;simp only [go_sem];(try simp (disch:=omega) only [zI]);repeat first | intro _ | refine ⟨by omega,?_⟩
 apply hK;apply zw (zk [1,2,3,4,8,10]);simp only [go_sem]
 repeat apply zq
 refine zb fun K hK=>?_;simp only [go_sem];(try simp (disch:=omega) only [zI]);repeat first | intro _ | refine ⟨by omega,?_⟩
 apply hK;apply zw (zk [1,2,3,4,8,10,13]);simp only [go_sem]
 repeat apply zq
 refine zaw (n:=47) (fun (_ : Unit) vs=>[(1,.r (.bo true)),(2,.r (i64 left)),(3,.r (ints B)),(4,.r (.rp [i64 st,i64 0,i64 g])),(8,.pt 8 (vs 8) 0),(10,.r (i64 (lowG g)))])
  (fun _ vs=>[(8,.box [.r (i64 0),.r (i64 0),.r (i64 0),.r (.bo false),.r (.bo false),.r (.bo false)])]) (fun _=>True) (fun _ h=>h) ?_ ?_
 · by_cases hg0 : g = 0
   · subst hg0
     repeat apply zq
     apply zc rfl <;> intro hc <;> (try simp only [go_sem] at hc)
     repeat apply zq
     refine zb fun K hK=>?_;simp only [go_sem];(try simp (disch:=omega) only [zI]);repeat first | intro _ | refine ⟨by omega,?_⟩
     apply hK
     refine ⟨(),trivial,zj [] ?_ ?_⟩
     · try simp only [go_sem]
       try rfl
     · try simp only [go_sem]
   · have e1 : (g == 0) = false:=by simpa using hg0
     have e2 : lowG g = 2:=by unfold lowG;rw [if_neg hg0]
     rw [e1,e2]
     repeat apply zq
     apply zc rfl <;> intro hc <;> (try simp only [go_sem] at hc)
     apply zx
     try simp only [go_sem]
     refine ⟨(),zj [] ?_ ?_⟩
     · try simp only [go_sem]
     · try simp only [go_sem]
 intro _ vs _
 repeat apply zq
 apply zd
 repeat apply zq
 refine zb fun K hK=>?_;simp only [go_sem];(try simp (disch:=omega) only [zI])
 refine zh (hco) rfl (by simp only [go_sem,i64,ints]) (by simp only [go_sem,i64,ints]) ?_
 (try simp only [go_sem]);(try simp (disch:=omega) only [zI]);repeat first | intro _ | refine ⟨by omega,?_⟩
 apply hK;apply zw (zk [1,2,3,4,8,10,14]);simp only [go_sem]
 repeat apply zq
 apply zc rfl <;> intro hc <;> (try simp only [go_sem] at hc)
 repeat apply zq
 refine zb fun K hK=>?_;simp only [go_sem];(try simp (disch:=omega) only [zI])
 refine zh (hwi) rfl (by simp only [go_sem,i64,ints]) (by simp only [go_sem,i64,ints]) ?_
 (try simp only [go_sem]);(try simp (disch:=omega) only [zI]);repeat first | intro _ | refine ⟨by omega,?_⟩
 apply hK;apply zw (zk [1,2,3,4,8,19]);simp only [go_sem]
 repeat apply zq
 refine zaw (n:=47) (fun (_ : Unit) vs=>[(1,.r (.bo true)),(2,.r (i64 left)),(3,.r (ints B)),(4,.r (.rp [i64 st,i64 0,i64 g])),(8,.pt 8 (vs 8) 0),(19,.r (.bo false))])
  (fun _ vs=>[(8,.box [.r (i64 0),.r (i64 0),.r (i64 0),.r (.bo false),.r (.bo false),.r (.bo false)])]) (fun _=>True) (fun _ h=>h) ?_ ?_
 · repeat apply zq
   apply zc rfl <;> intro hc <;> (try simp only [go_sem] at hc)
   repeat apply zq
   refine zb fun K hK=>?_;simp only [go_sem];(try simp (disch:=omega) only [zI]);repeat first | intro _ | refine ⟨by omega,?_⟩
   apply hK
   refine ⟨(),trivial,zj [] ?_ ?_⟩
   · try simp only [go_sem]
   · try simp only [go_sem]
 intro _ vs _
 repeat apply zq
 apply zc rfl <;> intro hc <;> (try simp only [go_sem] at hc)
 apply zx
 try simp only [go_sem]
 repeat apply zq
 refine zb fun K hK=>?_;simp only [go_sem];(try simp (disch:=omega) only [zI])
 refine zh (hth) rfl (by simp only [go_sem,i64,ints]) (by simp only [go_sem,i64,ints]) ?_
 (try simp only [go_sem]);(try simp (disch:=omega) only [zI]);repeat first | intro _ | refine ⟨by omega,?_⟩
 apply hK;apply zw (zk [8,9]);simp only [go_sem]
 repeat apply zq
 refine zb fun K hK=>?_;simp only [go_sem];(try simp (disch:=omega) only [zI]);repeat first | intro _ | refine ⟨by omega,?_⟩
 apply hK;apply zw (zk [8,9]);simp only [go_sem];apply ze;simp only [go_sem]
theorem ascoreB_ok (b : Int) (hb : 0 ≤ b ∧ b ≤ 499) : ACalls Try.prog 43 [i64 b] (i64 (scoreOf b)):=by
 have e1 : Int.tdiv b 100 = b / 100:=Int.tdiv_eq_ediv_of_nonneg hb.1
 have e2 : Int.tmod b 100 = b % 100:=Int.tmod_eq_emod_of_nonneg hb.1
 have w1 : IntKind.i64.wrap (b / 100) = b / 100:=by rw [zI] <;> omega
 have w2 : IntKind.i64.wrap (b % 100) = b % 100:=by rw [zI] <;> omega
 have h1 : 0 ≤ b / 100 ∧ b / 100 ≤ 4:=by omega
 have h2 : 0 ≤ b % 100 ∧ b % 100 ≤ 99:=by omega
 have h3:=Int.mul_nonneg h1.1 h2.1
 have h4:=Int.mul_le_mul h1.2 h2.2 h2.1 (show (0 : Int) ≤ 4 by omega)
 have w3 : IntKind.i64.wrap (b / 100 * (b % 100)) = b / 100 * (b % 100):=by rw [zI] <;> omega
 show ACalls Try.prog 43 [i64 b] (i64 (b / 100 * (b % 100)))
 refine zas (rs:=[i64 (b / 100 * (b % 100))]) [.tmp 2] Try.func43 rfl (by kernel_rfl) Try.ntmps43 rfl (by simp) rfl fun C vs=>?_
 repeat apply zq
 refine zb fun K hK=>?_;simp only [go_sem];(try simp (disch:=omega) only [zI]);repeat first | intro _ | refine ⟨by omega,?_⟩
 apply hK;apply zw (zk [0]);simp only [go_sem]
 repeat apply zq
 refine zb fun K hK=>?_;simp only [go_sem,e1,e2,w1,w2,w3];(try simp (disch:=omega) only [zI]);repeat first | intro _ | refine ⟨by omega,?_⟩
 repeat first | intro _ | refine ⟨by omega,?_⟩
 apply hK;apply zw (zk [2]);simp only [go_sem];apply ze;simp only [go_sem]
def armB : List Int:=[0,101,102,103,105,120,125,201,202,220,225,301,320]
theorem lawbeds_ok : ACalls Try.prog 39 [] (ints armB):=by
 refine zas (rs:=[ints armB]) [.tmp 0] Try.func39 rfl (by kernel_rfl) Try.ntmps39 rfl (by simp) rfl fun C vs=>?_
 repeat apply zq
 refine zb fun K hK=>?_;simp only [go_sem];(try simp (disch:=omega) only [zI]);repeat first | intro _ | refine ⟨by omega,?_⟩
 apply hK;apply zw (zk []);simp only [go_sem]
 repeat apply zq
 refine zb fun K hK=>?_;simp only [go_sem];(try simp (disch:=omega) only [zI]);repeat first | intro _ | refine ⟨by omega,?_⟩
 apply hK;apply zw (zk [0]);simp only [go_sem];apply ze;simp only [go_sem]
 try rfl
theorem aspan_ok (a b : Int) : ACalls Try.prog 40 [i64 a,i64 b] (.ag [i64 a,i64 b]):=by
 refine zas (rs:=[.ag [i64 a,i64 b]]) [.cell 4 66] Try.func40 rfl (by kernel_rfl) Try.ntmps40 rfl (by simp) rfl fun C vs=>?_
 repeat apply zq
 refine zb fun K hK=>?_;simp only [go_sem];(try simp (disch:=omega) only [zI]);repeat first | intro _ | refine ⟨by omega,?_⟩
 apply hK;apply zw (zk [0,1,4]);simp only [go_sem]
 repeat apply zq
 refine zb fun K hK=>?_;simp only [go_sem];(try simp (disch:=omega) only [zI]);repeat first | intro _ | refine ⟨by omega,?_⟩
 apply hK;apply zw (zk [4]);simp only [go_sem];apply ze;simp only [go_sem]
theorem armlow_ok (g : Int) : ACalls Try.prog 44 [i64 g] (i64 (lowG g)):=by
 refine zas (rs:=[i64 (lowG g)]) [.tmp 2] Try.func44 rfl (by kernel_rfl) Try.ntmps44 rfl (by simp) rfl fun C vs=>?_
 repeat apply zq
 refine zb fun K hK=>?_;simp only [go_sem];(try simp (disch:=omega) only [zI]);repeat first | intro _ | refine ⟨by omega,?_⟩
 apply hK;apply zw (zk [0]);simp only [go_sem]
 repeat apply zq
 refine zb fun K hK=>?_;simp only [go_sem];(try simp (disch:=omega) only [zI]);repeat first | intro _ | refine ⟨by omega,?_⟩
 apply hK;apply zw (zk [0,4]);simp only [go_sem]
 by_cases h : g = 0
 · subst h
   repeat apply zq
   apply zc rfl <;> intro hc <;> (try simp only [go_sem] at hc)
   repeat apply zq
   refine zb fun K hK=>?_;simp only [go_sem];(try simp (disch:=omega) only [zI]);repeat first | intro _ | refine ⟨by omega,?_⟩
   apply hK;apply zw (zk [2]);simp only [go_sem];apply ze;simp only [go_sem]
   rfl
 · have e : (g == 0) = false:=by simpa using h
   rw [e]
   repeat apply zq
   apply zc rfl <;> intro hc <;> (try simp only [go_sem] at hc)
   apply zx
   try simp only [go_sem]
   repeat apply zq
   refine zb fun K hK=>?_;simp only [go_sem];(try simp (disch:=omega) only [zI]);repeat first | intro _ | refine ⟨by omega,?_⟩
   apply hK;apply zw (zk [2]);simp only [go_sem];apply ze;simp only [go_sem]
   simp [lowG,h]
def dbK : Rk:=⟨2,[⟨201,[⟨0,1,1⟩,⟨201,1,1⟩]⟩],2,1⟩
theorem dbK_ok : ROk dbK:=(checkR_zero (by decide +kernel)).2
theorem vokK {l : List Int} (h : l.all (fun x=>decide (0 ≤ x) && decide (x ≤ 1000000000) || decide (x = 2000000000)) = true) : ∀ x ∈ l,VOk x:=fun x hx=>by
 have:=List.all_eq_true.1 h x hx
 simp at this
 exact this
theorem ku : tabT dbK false = [0,0,1142858]:=by
 have h1 : numA dbK false [0,0,0] 2 = 1142858:=numA_upper dbK_ok (vokK (by decide)) (by decide) (by decide) (by omega) (by decide +kernel) (.inr (by decide +kernel))
 show ([0,0,0] : List Int).set 2 (numA dbK false [0,0,0] 2) = _
 rw [h1];rfl
theorem kl : tabT dbK true = [0,0,1142857]:=by
 have h1 : numA dbK true [0,0,0] 2 = 1142857:=numA_lower dbK_ok (vokK (by decide)) (by decide) (by decide) (by omega) (.inr (by decide +kernel)) (.inr (by decide +kernel))
 show ([0,0,0] : List Int).set 2 (numA dbK true [0,0,0] 2) = _
 rw [h1];rfl
theorem wfK (d : Int) (hd : d = 2) : WfL d [⟨201,[⟨0,1,1⟩,⟨201,1,1⟩]⟩]:=by
 subst hd
 refine ⟨by unfold I64;omega,fun a ha=>?_⟩
 simp only [List.mem_singleton] at ha
 subst ha
 refine ⟨by unfold I64;decide,fun c hc=>?_⟩
 simp only [List.mem_cons,List.not_mem_nil,or_false] at hc
 rcases hc with rfl | rfl <;> (unfold I64;decide)
theorem knownaim_ok : ACalls Try.prog 42 [] (.bo true):=by
 have hck : checkR dbK = 0:=by decide +kernel
 have htb:=table_ok dbK (wfK 2 rfl)
 rw [if_pos hck,if_pos hck,hck,ku,kl] at htb
 have htb' : ACalls Try.prog 17 [.ag [.it .i64 2,.sl 2 [[.it .i64 201,.sl 3 [[.it .i64 0,i64 1,i64 1],[.it .i64 201,i64 1,i64 1]]]],.it .i64 2,.it .i64 1]] (.tu [ints [0,0,1142858],ints [0,0,1142857],i64 0]):=htb
 have h1:=aspan_ok 1 1
 refine zas (rs:=[.bo true]) [.tmp 0] Try.func42 rfl (by kernel_rfl) Try.ntmps42 rfl (by simp) rfl fun C vs=>?_
 repeat apply zq
 refine zb fun K hK=>?_;simp only [go_sem];(try simp (disch:=omega) only [zI]);repeat first | intro _ | refine ⟨by omega,?_⟩
 apply hK;apply zw (zk []);simp only [go_sem]
 repeat apply zq
 refine zb fun K hK=>?_;simp only [go_sem];(try simp (disch:=omega) only [zI])
 refine zh (h1) rfl (by simp only [go_sem,i64,ints]) (by simp only [go_sem,i64,ints]) ?_
 (try simp only [go_sem]);(try simp (disch:=omega) only [zI])
 refine zh (h1) rfl (by simp only [go_sem,i64,ints]) (by simp only [go_sem,i64,ints]) ?_
 (try simp only [go_sem]);(try simp (disch:=omega) only [zI])
 refine zh (htb') rfl (by simp only [go_sem,i64,ints]) (by simp only [go_sem,i64,ints]) ?_
 (try simp only [go_sem]);(try simp (disch:=omega) only [zI]);repeat first | intro _ | refine ⟨by omega,?_⟩
 apply hK;apply zw (zk [1,2,3]);simp only [go_sem]
 have e0 : ((0 : Int) == 0) = true:=rfl
 have e1 : ((3 : Int) == 3) = true:=rfl
 have e2 : ((1142858 : Int) == 1142858) = true:=rfl
 have e3 : ((1142857 : Int) == 1142857) = true:=rfl
 repeat apply zq
 refine zb fun K hK=>?_;simp only [go_sem,e0,e1,e2,e3,List.map_cons,List.map_nil,List.length_cons,List.length_nil];(try simp (disch:=omega) only [zI])
 (try intros)
 repeat first | intro _ | refine ⟨by omega,?_⟩
 apply hK;apply zw (zk [0]);simp only [go_sem];apply ze;simp only [go_sem]
def legK (i : Nat) : Int:=([101,41,40,0] : List Int).getD i 0
theorem legK_ok : VisO 1 101 [320,101,220] legK:=by
 refine ⟨rfl,fun i b hb=>?_,by decide,fun i hi=>?_,.inr ⟨rfl,fun b hb=>?_⟩,by decide,by decide⟩
 · match i,hb with
   | 0,hb=>injection hb with hb;subst hb;rfl
   | 1,hb=>injection hb with hb;subst hb;rfl
   | 2,hb=>injection hb with hb;subst hb;rfl
   | n + 3,hb=>simp at hb
 · simp only [List.length_cons,List.length_nil] at hi
   match i,hi with
   | 0,_=>decide
   | 1,_=>decide
   | n + 2,hi=>omega
 · injection hb with hb;subst hb;rfl
theorem knownleg_ok : ACalls Try.prog 41 [] (.bo true):=by
 have h:=lvisit_ok (st:=101) legK_ok (by omega) (by omega) ⟨by decide,by omega⟩
 have h' : ACalls Try.prog 46 [cntR 101 1,.bo true,i64 101,.sl 1 [[i64 320],[i64 101],[i64 220]]] (.tu [thrV 0 101 3 true,i64 0]):=h
 refine zas (rs:=[.bo true]) [.tmp 0] Try.func41 rfl (by kernel_rfl) Try.ntmps41 rfl (by simp) rfl fun C vs=>?_
 repeat apply zq
 refine zb fun K hK=>?_;simp only [go_sem];(try simp (disch:=omega) only [zI]);repeat first | intro _ | refine ⟨by omega,?_⟩
 apply hK;apply zw (zk []);simp only [go_sem]
 repeat apply zq
 refine zb fun K hK=>?_;simp only [go_sem];(try simp (disch:=omega) only [zI])
 refine zh (h') rfl (by simp only [go_sem,i64,ints]) (by simp only [go_sem,i64,ints]) ?_
 (try simp only [go_sem]);(try simp (disch:=omega) only [zI]);repeat first | intro _ | refine ⟨by omega,?_⟩
 apply hK;refine zw (zfP 1 1 [i64 0,i64 101,i64 3,.bo true,.bo false,.bo true] (by omega) rfl rfl) ?_;apply zw (zk [1,2]);simp only [go_sem]
 repeat apply zq
 refine zb fun K hK=>?_;simp only [go_sem];(try simp (disch:=omega) only [zI]);repeat first | intro _ | refine ⟨by omega,?_⟩
 apply hK;apply zw (zk [0]);simp only [go_sem];apply ze;simp only [go_sem]
theorem aropens_ok (b g : Int) (hv : bedOk b = true) (hg : 0 ≤ g ∧ g ≤ 2) (ho : opensD g b = true) : ACalls Try.prog 45 [i64 b,i64 g] (.bo true):=by
 have hb:=bed_range hv
 have e1 : Int.tdiv b 100 = b / 100:=Int.tdiv_eq_ediv_of_nonneg hb.1
 have w1 : IntKind.i64.wrap (b / 100) = b / 100:=by rw [zI] <;> omega
 have n0 : (b != 0) = true:=by
  rw [bne_iff_ne];intro e;subst e;exact absurd hv (by decide)
 refine zas (rs:=[.bo true]) [.tmp 4] Try.func45 rfl (by kernel_rfl) Try.ntmps45 rfl (by simp) rfl fun C vs=>?_
 repeat apply zq
 refine zb fun K hK=>?_;simp only [go_sem];(try simp (disch:=omega) only [zI]);repeat first | intro _ | refine ⟨by omega,?_⟩
 apply hK;apply zw (zk [0,1]);simp only [go_sem]
 have hg3 : g = 0 ∨ g = 1 ∨ g = 2:=by omega
 rcases hg3 with rfl | rfl | rfl
 · repeat apply zq
   refine zb fun K hK=>?_;simp only [go_sem,n0];(try simp (disch:=omega) only [zI]);repeat first | intro _ | refine ⟨by omega,?_⟩
   apply hK;apply zw (zk [4]);simp only [go_sem];apply ze;simp only [go_sem]
 · have h2 : (b / 100 == 2) = true:=by simpa [opensD] using ho
   repeat apply zq
   refine zb fun K hK=>?_;simp only [go_sem,n0,e1,w1,h2];(try simp (disch:=omega) only [zI]);repeat first | intro _ | refine ⟨by omega,?_⟩
   apply hK;apply zw (zk [4]);simp only [go_sem];apply ze;simp only [go_sem]
 · have h2 : decide (2 ≤ b / 100) = true:=by simpa [opensD] using ho
   repeat apply zq
   refine zb fun K hK=>?_;simp only [go_sem,n0,e1,w1,h2];(try simp (disch:=omega) only [zI]);repeat first | intro _ | refine ⟨by omega,?_⟩
   apply hK;apply zw (zk [4]);simp only [go_sem];apply ze;simp only [go_sem]
theorem sure_both {bs : List Int} {st g : Int} (hB : ∀ b ∈ bs,bedOk b = true) (hne : bs ≠ []) (hr : ROk (suK bs st g)) {s : Nat} (h1 : lowG g ≤ s) (h2 : (s : Int) ≤ st) (h60 : s ≤ 60) :
 (∃ v : Nat,1 ≤ v ∧ v ≤ 60 ∧ (tabT (suK bs st g) false).getD s 0 = (v : Int) * 1000000 ∧ (tabT (suK bs st g) true).getD s 0 = (v : Int) * 1000000) ∨
  ((tabT (suK bs st g) false).getD s 0 = 2000000000 ∧ (tabT (suK bs st g) true).getD s 0 = 1000000000):=by
 rcases sure_at hB hne hr false s h1 h2 with ⟨v,v1,v2,v3,v4⟩ | ⟨v2,v3⟩
 · have hle : v ≤ 60:=by
    refine Nat.not_lt.1 fun hlt=>?_
    have:=end_le (end_self hB s s (Nat.le_refl _) _ v3) (show s ≤ 3 * (v - 1) by omega)
    rw [v4] at this;cases this
   rcases sure_at hB hne hr true s h1 h2 with ⟨w,w1,w2,w3,w4⟩ | ⟨w2,w3⟩
   · have e : v = w:=by
      rcases Nat.lt_trichotomy v w with h | h | h
      · have:=end_le v3 (show 3 * v ≤ 3 * (w - 1) by omega)
        rw [w4] at this;cases this
      · exact h
      · have:=end_le w3 (show 3 * w ≤ 3 * (v - 1) by omega)
        rw [v4] at this;cases this
     subst e
     exact .inl ⟨v,v1,hle,v2,w2⟩
   · rw [w3] at v3;cases v3
 · rcases sure_at hB hne hr true s h1 h2 with ⟨w,w1,w2,w3,w4⟩ | ⟨w2,w3⟩
   · rw [v3] at w3;cases w3
   · exact .inr ⟨v2,w2⟩
section
variable {bs : List Int} {st g : Int} (hB : ∀ b ∈ bs,bedOk b = true) (hne : bs ≠ []) (hck : checkR (suK bs st g) = 0) (hr : ROk (suK bs st g)) {s v : Nat} (h1 : lowG g ≤ s) (h3 : (s : Int) ≤ st) (h60 : s ≤ 60)
 (hv : (tabT (suK bs st g) false).getD s 0 = (v : Int) * 1000000) (hv60 : v ≤ 60) (hv1 : 1 ≤ v)
include hB hne hck hr h1 h3 h60 hv hv60 hv1
theorem darts_inv : ∀ i,i ≤ 3 → DartI bs st g s v i (dartS (suK bs st g) bs s i)
 | 0,_=>⟨Nat.le_refl _,fun _=>rfl,⟨fun _=>s,rfl,rfl,fun j b h=>(by simp [dartS] at h),fun j h=>(by simp [dartS] at h)⟩,fun b h=>(by simp [dartS] at h),.inl ⟨h1,Int.le_refl _,(val_start hB hne hr false h1 h3 hv hv60).2⟩⟩
 | i + 1, hi => by
   have ih:=darts_inv i (by omega)
   have hlg:=lowG_le g
   unfold dartS
   generalize hX : dartS (suK bs st g) bs s i = X at *
   split
   · rename_i h0
     refine ⟨by have:=ih.len;omega,fun h=>absurd h0 h,ih.ex,ih.beds,?_⟩
     rcases ih.now with ⟨n1,_⟩ | n
     · omega
     · exact .inr n
   · rename_i h0
     obtain ⟨k,b,a1,a2,a3,_⟩:=dart_step hB hck hr (by omega) h3 hv hv60 hv1 ih (fun e=>by subst e;rw [← hX];rfl) h0
     rw [a2]
     have e : bs.getD (((k : Int),((v - 1 : Nat) : Int) * 1000000,(0 : Int)).1.toNat) 0 = b:=by
      rw [show (((k : Int),((v - 1 : Nat) : Int) * 1000000,(0 : Int)).1.toNat) = k from Int.toNat_natCast k,List.getD_eq_getElem?_getD,a1];rfl
     rw [e]
     exact a3
theorem dart_at {i : Nat} (hi : i < 3) (h0 : (dartS (suK bs st g) bs s i).2 ≠ 0) :
 ∃ (k : Nat) (b : Int), bs[k]? = some b ∧ aimQ (suK bs st g) ⟨s, (dartS (suK bs st g) bs s i).2, 3 - (i : Int)⟩ = ((k : Int), ((v - 1 : Nat) : Int) * 1000000, 0) ∧
   dartS (suK bs st g) bs s (i + 1) = ((dartS (suK bs st g) bs s i).1 ++ [b],(dartS (suK bs st g) bs s i).2 - scoreOf b) ∧
   (((dartS (suK bs st g) bs s i).2 - scoreOf b = 0 ∧ opensD g b = true) ∨ lowG g ≤ (dartS (suK bs st g) bs s i).2 - scoreOf b) ∧
   lowG g ≤ (dartS (suK bs st g) bs s i).2 ∧ (dartS (suK bs st g) bs s i).2 ≤ s ∧ (dartS (suK bs st g) bs s i).1.length = i:=by
 have ih:=darts_inv hB hne hck hr h1 h3 h60 hv hv60 hv1 i (by omega)
 have hX : ∀ X,dartS (suK bs st g) bs s i = X → dartS (suK bs st g) bs s (i + 1) = if X.2 = 0 then X else (X.1 ++ [bs.getD (aimQ (suK bs st g) ⟨s,X.2,3 - (i : Int)⟩).1.toNat 0],X.2 - scoreOf (bs.getD (aimQ (suK bs st g) ⟨s,X.2,3 - (i : Int)⟩).1.toNat 0)):=fun X h=>by subst h;rfl
 have hst : i = 0 → (dartS (suK bs st g) bs s i).2 = s:=fun e=>by subst e;rfl
 generalize dartS (suK bs st g) bs s i = X at *
 obtain ⟨k,b,a1,a2,a3,a4,a5,a6⟩:=dart_step hB hck hr (by omega) h3 hv hv60 hv1 ih hst h0
 refine ⟨k,b,a1,a2,?_,a4,a5,a6,ih.full h0⟩
 have e : bs.getD (((k : Int),((v - 1 : Nat) : Int) * 1000000,(0 : Int)).1.toNat) 0 = b:=by
  rw [show (((k : Int),((v - 1 : Nat) : Int) * 1000000,(0 : Int)).1.toNat) = k from Int.toNat_natCast k,List.getD_eq_getElem?_getD,a1];rfl
 rw [hX X rfl,if_neg h0,a2,e]
theorem visit_end : ∃ L,VisO g s (dartS (suK bs st g) bs s 3).1 L ∧ L (dartS (suK bs st g) bs s 3).1.length = (dartS (suK bs st g) bs s 3).2 ∧
 (tabT (suK bs st g) false).getD (dartS (suK bs st g) bs s 3).2.toNat 0 = ((v - 1 : Nat) : Int) * 1000000 ∧
 ((lowG g ≤ (dartS (suK bs st g) bs s 3).2 ∧ (dartS (suK bs st g) bs s 3).2 ≤ s ∧ 2 ≤ v) ∨ ((dartS (suK bs st g) bs s 3).2 = 0 ∧ v = 1)):=by
 have ih:=darts_inv hB hne hck hr h1 h3 h60 hv hv60 hv1 3 (Nat.le_refl _)
 have hlg:=lowG_le g
 generalize dartS (suK bs st g) bs s 3 = X at *
 obtain ⟨L,l0,l1,l2,l3⟩:=ih.ex
 have hb : ∀ b ∈ X.1,bedOk b = true:=fun b hb=>hB b (ih.beds b hb)
 rcases ih.now with ⟨n1,n2,n3⟩ | ⟨n1,n2,n3,n4⟩
 · have hlen:=ih.full (by omega)
   have hT : (tabT (suK bs st g) false).getD X.2.toNat 0 = ((v - 1 : Nat) : Int) * 1000000:=n3
   refine ⟨L,⟨l0,l2,hb,l3,.inl ⟨hlen,by rw [l1];exact n1⟩,by omega⟩,l1,hT,.inl ⟨n1,n2,?_⟩⟩
   obtain ⟨y,hy⟩ : ∃ y : Nat,X.2 = y:=⟨X.2.toNat,by omega⟩
   rw [hy,Int.toNat_natCast] at hT
   rcases sure_at hB hne hr false y (by omega) (by omega) with ⟨w,w1,w2,_⟩ | ⟨w2,_⟩
   · rw [hT] at w2;omega
   · have : nvS false = 2000000000:=rfl
     rw [hT] at w2;omega
 · have hl3:=ih.len
   refine ⟨L,⟨l0,l2,hb,l3,.inr ⟨by rw [l1];exact n1,n4⟩,n2,hl3⟩,l1,?_,.inr ⟨n1,n3⟩⟩
   rw [n1,n3]
   exact tabT0 _ _ hlg.1
end
def legS (r : Rk) (bs : List Int) : Nat → Int
 | 0=>r.start
 | j + 1=>(dartS r bs (legS r bs j) 3).2
theorem leg_inv {bs : List Int} {st g : Int} (hB : ∀ b ∈ bs,bedOk b = true) (hne : bs ≠ []) (hck : checkR (suK bs st g) = 0) (hr : ROk (suK bs st g)) (h0 : lowG g ≤ st) (h60 : st ≤ 60) {V : Nat} (hV : 1 ≤ V) (hV60 : V ≤ 60)
 (hT : (tabT (suK bs st g) false).getD st.toNat 0 = (V : Int) * 1000000) : ∀ j,j ≤ V →
 ((lowG g ≤ legS (suK bs st g) bs j ∧ legS (suK bs st g) bs j ≤ st ∧ j < V) ∨ (legS (suK bs st g) bs j = 0 ∧ j = V)) ∧ (tabT (suK bs st g) false).getD (legS (suK bs st g) bs j).toNat 0 = ((V - j : Nat) : Int) * 1000000
 | 0,_=>⟨.inl ⟨h0,Int.le_refl _,by omega⟩,hT⟩
 | j + 1, hj => by
   obtain ⟨h1,h2⟩:=leg_inv hB hne hck hr h0 h60 hV hV60 hT j (by omega)
   have hlg:=lowG_le g
   rcases h1 with ⟨a1,a2,a3⟩ | ⟨_,a2⟩
   · obtain ⟨s,hs⟩ : ∃ s : Nat,legS (suK bs st g) bs j = s:=⟨(legS (suK bs st g) bs j).toNat,by omega⟩
     have hx : legS (suK bs st g) bs (j + 1) = (dartS (suK bs st g) bs (legS (suK bs st g) bs j) 3).2:=rfl
     rw [hx]
     rw [hs] at a1 a2 h2 ⊢
     rw [Int.toNat_natCast] at h2
     obtain ⟨L,e1,e2,e3,e4⟩:=visit_end hB hne hck hr a1 a2 (by omega) h2 (by omega) (by omega)
     refine ⟨?_,by rw [e3];congr 2⟩
     rcases e4 with ⟨q1,q2,q3⟩ | ⟨q1,q2⟩
     · exact .inl ⟨q1,by omega,by omega⟩
     · exact .inr ⟨q1,by omega⟩
   · omega
def addT (w : Int) (k : Nat) (L : List Int) : List Int:=if L.length < 4 ∧ (hasB w k = true ∨ (k = 8 ∧ L = [])) then L ++ [armB.getD k 0] else L
def iterT (w : Int) : Nat → List Int
 | 0=>[]
 | j + 1=>addT w (j + 1) (iterT w j)
def bsT (w : Int) : List Int:=iterT w 12
theorem iterT_full (w : Int) (j : Nat) (h : ¬ (iterT w j).length < 4) : ∀ m,iterT w (j + m) = iterT w j
 | 0=>rfl
 | m + 1 => by
   show addT w (j + m + 1) (iterT w (j + m)) = _
   rw [iterT_full w j h m]
   unfold addT
   rw [if_neg fun h'=>h h'.1]
theorem armB_ok {k : Nat} (h1 : 1 ≤ k) (h2 : k ≤ 12) : bedOk (armB.getD k 0) = true:=by
 have : ∀ k,k < 13 → 1 ≤ k → bedOk (armB.getD k 0) = true:=by decide
 exact this k (by omega) h1
theorem iterT_ok (w : Int) : ∀ j,j ≤ 12 → (iterT w j).length ≤ 4 ∧ (∀ b ∈ iterT w j,bedOk b = true) ∧ (8 ≤ j → iterT w j ≠ [])
 | 0,_=>⟨by simp [iterT],fun b hb=>by simp [iterT] at hb,fun h=>by omega⟩
 | j + 1, hj => by
   obtain ⟨h1,h2,h3⟩:=iterT_ok w j (by omega)
   show (addT w (j + 1) (iterT w j)).length ≤ 4 ∧ (∀ b ∈ addT w (j + 1) (iterT w j),bedOk b = true) ∧ (8 ≤ j + 1 → addT w (j + 1) (iterT w j) ≠ [])
   unfold addT
   split
   · rename_i h
     refine ⟨by rw [List.length_append];simp;omega,fun b hb=>?_,fun _=>by simp⟩
     rcases List.mem_append.1 hb with hb | hb
     · exact h2 b hb
     · rw [List.mem_singleton] at hb
       subst hb
       exact armB_ok (by omega) hj
   · rename_i h
     refine ⟨h1,h2,fun h8 hn=>?_⟩
     by_cases e : j + 1 = 8
     · exact h ⟨by rw [hn];simp,.inr ⟨e,hn⟩⟩
     · exact h3 (by omega) hn
theorem bsT_ok (w : Int) : (∀ b ∈ bsT w,bedOk b = true) ∧ bsT w ≠ [] ∧ (bsT w).length ≤ 4:=by
 obtain ⟨h1,h2,h3⟩:=iterT_ok w 12 (Nat.le_refl _)
 exact ⟨h2,h3 (by omega),h1⟩
end Go.Proofs.Ytgfbenanljjgaaa.Du.Th.Ai

namespace Go.Proofs.Ytgfbenanljjgaaa.Du.Th
open Go Go.Oc
set_option maxRecDepth 8000
end Go.Proofs.Ytgfbenanljjgaaa.Du.Th

namespace Go.Proofs.Ytgfbenanljjgaaa.Du.Th.Ai
open Go Go.Oc
set_option maxRecDepth 8000
set_option maxHeartbeats 4000000
set_option maxHeartbeats 8000000
theorem law_sureleg (w : Int) (v1 v2 : Nat) (h1 : v1 < 256) (h2 : v2 < 256) : ACalls Try.prog 11 [.it .u16 w,.it .u8 (v1 : Int),.it .u8 (v2 : Int)] (.bo true):=by
 have hk1:=knownleg_ok
 have hk2:=knownaim_ok
 have hlb:=lawbeds_ok
 have hsp:=aspan_ok 1 1
 obtain ⟨hB,hne,hlen⟩:=bsT_ok w
 have m1:=Nat.mod_lt v1 (show 8 > 0 by omega)
 have m2:=Nat.mod_lt v2 (show 3 > 0 by omega)
 have k0 : IntKind.i64.wrap (v1 : Int) = v1:=by rw [zI] <;> omega
 have r0 : Int.tmod (v1 : Int) 8 = ((v1 % 8 : Nat) : Int):=rfl
 have r1 : Int.tmod (v2 : Int) 3 = ((v2 % 3 : Nat) : Int):=rfl
 have w0 : IntKind.i64.wrap (2 + ((v1 % 8 : Nat) : Int)) = ((2 + v1 % 8 : Nat) : Int):=by rw [zI] <;> omega
 have w1 : IntKind.i64.wrap ((v2 % 3 : Nat) : Int) = ((v2 % 3 : Nat) : Int):=by rw [zI] <;> omega
 generalize hst : 2 + v1 % 8 = st at *
 generalize hg : v2 % 3 = g at *
 refine zas (rs:=[.bo true]) [.tmp 6] Try.func11 rfl (by kernel_rfl) Try.ntmps11 rfl (by simp) rfl fun C vs=>?_
 repeat apply zq
 refine zb fun K hK=>?_;simp only [go_sem];(try simp (disch:=omega) only [zI]);repeat first | intro _ | refine ⟨by omega,?_⟩
 apply hK;apply zw (zk [0,1,2]);simp only [go_sem]
 repeat apply zq
 refine zb fun K hK=>?_;simp only [go_sem];(try simp (disch:=omega) only [zI])
 refine zh (hlb) rfl (by simp only [go_sem,i64,ints]) (by simp only [go_sem,i64,ints]) ?_
 (try simp only [go_sem]);(try simp (disch:=omega) only [zI]);repeat first | intro _ | refine ⟨by omega,?_⟩
 apply hK;apply zw (zk [0,1,2,7,8]);simp only [go_sem];refine zw (sub_ownB 7 1 69 63 2 (by omega) (by omega) rfl (by simp only [go_sem,List.getElem?_cons_succ,List.getElem?_cons_zero])) ?_
 try simp only [go_sem]
 repeat apply zq
 refine zb fun K hK=>?_;simp only [go_sem];(try simp (disch:=omega) only [zI]);repeat first | intro _ | refine ⟨by omega,?_⟩
 apply hK;apply zw (zk [0,1,2,7,8,9]);simp only [go_sem]
 repeat apply zq
 refine zaw (n:=298) (fun (_ : Unit) vs=>[(1,.r (.it .u8 (v1 : Int))),(2,.r (.it .u8 (v2 : Int))),(7,.pt 7 (vs 7) 0)])
  (fun _ vs=>[(7,.box [.r (i64 1),.os 69 (vs 69) 2 0 (bsT w).length]),(69,.arr 63 2 ((sureL (bsT w)).map aimR))]) (fun _=>True) (fun _ h=>h) ?_ ?_
 · repeat apply zq
   apply zd
   refine zuv (n:=298) 12 (fun i vs=>[(0,.r (.it .u16 w)),(1,.r (.it .u8 (v1 : Int))),(2,.r (.it .u8 (v2 : Int))),(7,.pt 7 (vs 7) 0),(8,.r (ints armB)),(9,.r (i64 ((i : Int) + 1)))])
    (fun i vs=>[(7,.box [.r (i64 1),.os 69 (vs 69) 2 0 (iterT w i).length]),(69,.arr 63 2 ((sureL (iterT w i)).map aimR))]) (fun _=>True) 0 (zj [] ?_ ?_) (Nat.zero_le _) trivial ?_
   · try simp only [go_sem]
     try rfl
   · try simp only [go_sem]
     try rfl
   intro i vs hi _
   obtain ⟨Lc,hLc⟩ : ∃ Lc,Lc = iterT w i:=⟨_,rfl⟩
   have hst : iterT w (i + 1) = addT w (i + 1) Lc:=by rw [hLc];rfl
   have hfull:=iterT_full w i
   rw [← hLc] at hfull ⊢
   have hsl : (sureL Lc).length = Lc.length:=by simp [sureL]
   obtain ⟨k,hk⟩ : ∃ k,k = i + 1:=⟨_,rfl⟩
   have hki : (i : Int) + 1 = (k : Int):=by omega
   rw [hst,← hk,hki]
   have wk : IntKind.i64.wrap ((k : Int) + 1) = ((i + 1 : Nat) : Int) + 1:=by rw [zI] <;> omega
   by_cases hgo : Lc.length < 4 ∧ i < 12
   · obtain ⟨hl4,h12⟩:=hgo
     have c2 : decide ((Lc.length : Int) < 4) = true:=decide_eq_true (by omega)
     have c1 : decide ((k : Int) < 13) = true:=decide_eq_true (by omega)
     have h13 : armB.length = 13:=rfl
     obtain ⟨b,hb⟩:=zol (show k < armB.length by omega)
     have hkl : k < armB.length:=by omega
     have hbd : armB.getD k 0 = b:=by simp [List.getD,hb]
     repeat apply zq
     refine zb fun K hK=>?_;simp only [go_sem,c1,c2,hsl,List.length_map];(try simp (disch:=omega) only [zI])
     (try intros)
     repeat first | intro _ | refine ⟨by omega,?_⟩
     apply hK;apply zw (zk [0,1,2,7,8,9,35]);simp only [go_sem]
     repeat apply zq
     apply zc rfl <;> intro hc <;> (try simp only [go_sem] at hc)
     apply zx
     try simp only [go_sem]
     repeat apply zq
     apply zd
     by_cases hC : hasB w k = true ∨ (k = 8 ∧ Lc = [])
     · have hadd : addT w k Lc = Lc ++ [b]:=by unfold addT;rw [if_pos ⟨hl4,hC⟩,hbd]
       rw [hadd]
       repeat apply zq
       refine zaw (n:=298) (fun (_ : Unit) vs=>[(0,.r (.it .u16 w)),(1,.r (.it .u8 (v1 : Int))),(2,.r (.it .u8 (v2 : Int))),(7,.pt 7 (vs 7) 0),(8,.r (ints armB)),(9,.r (i64 (k : Int))),(53,.r (.bo true))])
        (fun _ vs=>[(7,.box [.r (i64 1),.os 69 (vs 69) 2 0 Lc.length]),(69,.arr 63 2 ((sureL Lc).map aimR))]) (fun _=>True) (fun _ h=>h) ?_ ?_
       · cases hB : hasB w k
         · have hB' : (bitAnd IntKind.u16 (shrI IntKind.u16 w (IntKind.u64.wrap (k : Int))) 1 == 1) = false:=hB
           have hC2 : k = 8 ∧ Lc = []:=by
            rcases hC with h | h
            · rw [hB] at h;cases h
            · exact h
           have d1 : ((k : Int) == 8) = true:=by simp;omega
           have d2 : ((Lc.length : Int) == 0) = true:=by simp [hC2.2]
           repeat apply zq
           refine zb fun K hK=>?_;simp only [go_sem,hB',d1,d2,hsl,List.length_map];(try simp (disch:=omega) only [zI])
           (try intros)
           repeat first | intro _ | refine ⟨by omega,?_⟩
           apply hK
           refine ⟨(),trivial,zj [] ?_ ?_⟩
           · try simp only [go_sem]
           · try simp only [go_sem]
         · have hB' : (bitAnd IntKind.u16 (shrI IntKind.u16 w (IntKind.u64.wrap (k : Int))) 1 == 1) = true:=hB
           repeat apply zq
           refine zb fun K hK=>?_;simp only [go_sem,hB',hsl,List.length_map];(try simp (disch:=omega) only [zI])
           (try intros)
           repeat first | intro _ | refine ⟨by omega,?_⟩
           apply hK
           refine ⟨(),trivial,zj [] ?_ ?_⟩
           · try simp only [go_sem]
           · try simp only [go_sem]
       intro _ vs _
       repeat apply zq
       apply zc rfl <;> intro hc <;> (try simp only [go_sem] at hc)
       repeat apply zq
       refine awp_dreg3 [(7,some 7),(8,none),(9,none)] [7] follows (by decide +kernel) (by kernel_rfl) (by simp only [keysOk,List.mem_cons,List.not_mem_nil,forall_eq_or_imp,Oc.keyOf,go_sem];simp) (by intro k hk;simp only [List.mem_cons,List.not_mem_nil,or_false] at hk;first | (subst hk;exact ⟨_,rfl⟩) | (rcases hk with rfl | rfl <;> exact ⟨_,rfl⟩) | (rcases hk with rfl | rfl | rfl <;> exact ⟨_,rfl⟩)) fun K hK=>?_
       simp only [go_sem,hb,hkl,hsl,List.length_map];(try simp (disch:=omega) only [zI]);repeat first | intro _ | refine ⟨by omega,?_⟩
       refine zh (hsp) rfl (by simp only [go_sem,i64,ints,hb,hkl,hsl,List.length_map]) (by simp only [go_sem,i64,ints,hb,hkl,hsl,List.length_map]) ?_
       (try simp only [go_sem,hb,hkl,hsl,List.length_map]);(try simp (disch:=omega) only [zI]);repeat first | intro _ | refine ⟨by omega,?_⟩
       repeat first | intro _ | refine ⟨by omega,?_⟩
       apply hK;apply zw (zk [0,1,2,7,8,9]);simp only [go_sem]
       repeat apply zq
       refine zb fun K hK=>?_;simp only [go_sem,wk];(try simp (disch:=omega) only [zI]);repeat first | intro _ | refine ⟨by omega,?_⟩
       apply hK
       try simp only [go_sem]
       refine ⟨by omega,zj [] ?_ ?_⟩
       · try simp only [go_sem]
         try simp
         try omega
       · try simp only [go_sem]
         try simp [sureL,sureA,aimR,bedR]
     · have hadd : addT w k Lc = Lc:=by unfold addT;rw [if_neg fun h=>hC h.2]
       rw [hadd]
       have hB : hasB w k = false:=by
        cases h : hasB w k
        · rfl
        · exact absurd (.inl h) hC
       have hB' : (bitAnd IntKind.u16 (shrI IntKind.u16 w (IntKind.u64.wrap (k : Int))) 1 == 1) = false:=hB
       repeat apply zq
       refine zaw (n:=298) (fun (_ : Unit) vs=>[(0,.r (.it .u16 w)),(1,.r (.it .u8 (v1 : Int))),(2,.r (.it .u8 (v2 : Int))),(7,.pt 7 (vs 7) 0),(8,.r (ints armB)),(9,.r (i64 (k : Int))),(53,.r (.bo false))])
        (fun _ vs=>[(7,.box [.r (i64 1),.os 69 (vs 69) 2 0 Lc.length]),(69,.arr 63 2 ((sureL Lc).map aimR))]) (fun _=>True) (fun _ h=>h) ?_ ?_
       · by_cases hk12 : k = 8
         · have d1 : ((k : Int) == 8) = true:=by simp;omega
           have hne : Lc ≠ []:=fun e=>hC (.inr ⟨hk12,e⟩)
           have hp:=List.length_pos_iff.2 hne
           have d2 : ((Lc.length : Int) == 0) = false:=by rw [beq_eq_false_iff_ne];omega
           repeat apply zq
           refine zb fun K hK=>?_;simp only [go_sem,hB',d1,d2,hsl,List.length_map];(try simp (disch:=omega) only [zI])
           (try intros)
           repeat first | intro _ | refine ⟨by omega,?_⟩
           apply hK
           refine ⟨(),trivial,zj [] ?_ ?_⟩
           · try simp only [go_sem]
           · try simp only [go_sem]
         · have d1 : ((k : Int) == 8) = false:=by rw [beq_eq_false_iff_ne];omega
           repeat apply zq
           refine zb fun K hK=>?_;simp only [go_sem,hB',d1,hsl,List.length_map];(try simp (disch:=omega) only [zI])
           (try intros)
           repeat first | intro _ | refine ⟨by omega,?_⟩
           apply hK
           refine ⟨(),trivial,zj [] ?_ ?_⟩
           · try simp only [go_sem]
           · try simp only [go_sem]
       intro _ vs _
       repeat apply zq
       apply zc rfl <;> intro hc <;> (try simp only [go_sem] at hc)
       apply zx
       try simp only [go_sem]
       repeat apply zq
       refine zb fun K hK=>?_;simp only [go_sem,wk];(try simp (disch:=omega) only [zI]);repeat first | intro _ | refine ⟨by omega,?_⟩
       apply hK
       try simp only [go_sem]
       refine ⟨by omega,zj [] ?_ ?_⟩
       · try simp only [go_sem]
         try omega
       · try simp only [go_sem]
   · have hfin : bsT w = Lc:=by
      by_cases hl4 : Lc.length < 4
      · unfold bsT;rw [hLc,show i = 12 by omega]
      · have:=hfull hl4 (12 - i)
        rw [show i + (12 - i) = 12 by omega] at this
        exact this
     rw [hfin]
     repeat apply zq
     refine zaw (n:=298) (fun (_ : Unit) vs=>[(0,.r (.it .u16 w)),(1,.r (.it .u8 (v1 : Int))),(2,.r (.it .u8 (v2 : Int))),(7,.pt 7 (vs 7) 0),(35,.r (.bo false))])
      (fun _ vs=>[(7,.box [.r (i64 1),.os 69 (vs 69) 2 0 Lc.length]),(69,.arr 63 2 ((sureL Lc).map aimR))]) (fun _=>True) (fun _ h=>h) ?_ ?_
     · by_cases h12 : i < 12
       · have c1 : decide ((k : Int) < 13) = true:=decide_eq_true (by omega)
         have c2 : decide ((Lc.length : Int) < 4) = false:=decide_eq_false (by omega)
         repeat apply zq
         refine zb fun K hK=>?_;simp only [go_sem,c1,c2,hsl,List.length_map];(try simp (disch:=omega) only [zI])
         (try intros)
         repeat first | intro _ | refine ⟨by omega,?_⟩
         apply hK
         refine ⟨(),trivial,zj [] ?_ ?_⟩
         · try simp only [go_sem]
         · try simp only [go_sem]
       · have c1 : decide ((k : Int) < 13) = false:=decide_eq_false (by omega)
         repeat apply zq
         refine zb fun K hK=>?_;simp only [go_sem,c1,hsl,List.length_map];(try simp (disch:=omega) only [zI])
         (try intros)
         repeat first | intro _ | refine ⟨by omega,?_⟩
         apply hK
         refine ⟨(),trivial,zj [] ?_ ?_⟩
         · try simp only [go_sem]
         · try simp only [go_sem]
     intro _ vs _
     repeat apply zq
     apply zc rfl <;> intro hc <;> (try simp only [go_sem] at hc)
     apply zf;simp only [go_sem]
     refine ⟨(),zj [] ?_ ?_⟩
     · try simp only [go_sem]
     · try simp only [go_sem]
 intro _ vs _
 generalize bsT w = bs at *
 refine zw (sub_frzB 7 1 69 (ty:=63) (sz:=2) (off:=0) (m:=bs.length) (es:=(sureL bs).map aimR) (by omega) (by omega) rfl (by simp only [go_sem,List.getElem?_cons_succ,List.getElem?_cons_zero]) (by rfl) (by simp [sureL])) ?_
 have htk2 : ((sureL bs).map aimR).take bs.length = (sureL bs).map aimR:=List.take_of_length_le (by simp [sureL])
 simp only [go_sem,List.drop_zero,htk2,List.set_cons_succ,List.set_cons_zero];refine zw (zfP 7 7 [i64 1,aimsR (sureL bs)] (by omega) (by try simp only [go_sem]) (by try simp only [go_sem])) ?_;apply zw (zk [1,2,7]);simp only [go_sem]
 have hsl : (sureL bs).length = bs.length:=by simp [sureL]
 have hbp:=List.length_pos_iff.2 hne
 have z1 : ((bs.length : Int) == 0) = false:=by rw [beq_eq_false_iff_ne];omega
 have hst2 : 2 ≤ st ∧ st ≤ 9:=by omega
 have hck : checkR (suK bs st g) = 0:=su_ok hB ⟨by omega,by omega⟩ (by omega) (by omega)
 have hwf : WfL (suK bs st g).d (suK bs st g).aims:=wfL_chk (checkR_zero hck).1 (by show (0 : Int) ≤ 1 ∧ (1 : Int) ≤ 3000;omega)
 have hr:=(checkR_zero hck).2
 have htb:=table_ok (suK bs st g) hwf
 rw [if_pos hck,if_pos hck,hck] at htb
 have htb2 : ACalls Try.prog 17 [.ag [.it .i64 1,aimsR (sureL bs),.it .i64 (st : Int),.it .i64 (g : Int)]] (.tu [ints (tabT (suK bs st g) false),ints (tabT (suK bs st g) true),i64 0]):=htb
 have haim:=fun (s x d : Int)=>aim_ok (suK bs st g) ⟨s,x,d⟩ hwf
 have hlU:=tabT_len hr false
 have hlL:=tabT_len hr true
 have hstE : (suK bs st g).start = (st : Int):=rfl
 rw [hstE] at hlU hlL
 have hlg:=lowG_le (g : Int)
 have hbo:=sure_both hB hne hr (s:=st) (by omega) (by omega) (by omega)
 have hinv:=fun {V : Nat} (q1 : 1 ≤ V) (q2 : V ≤ 60) (q3 : (tabT (suK bs st g) false).getD (st : Int).toNat 0 = (V : Int) * 1000000)=>leg_inv hB hne hck hr (by omega) (by omega) q1 q2 q3
 have hlegS : ∀ j,legS (suK bs st g) bs (j + 1) = (dartS (suK bs st g) bs (legS (suK bs st g) bs j) 3).2:=fun _=>rfl
 have hleg0 : legS (suK bs st g) bs 0 = (st : Int):=rfl
 have hda:=fun {s v : Nat} (q1 : lowG (g : Int) ≤ s) (q2 : (s : Int) ≤ (st : Int)) (q3 : (tabT (suK bs st g) false).getD s 0 = (v : Int) * 1000000) (q4 : v ≤ 60) (q5 : 1 ≤ v)=>@dart_at bs st g hB hne hck hr s v q1 q2 (by omega) q3 q4 q5
 have hve:=fun {s v : Nat} (q1 : lowG (g : Int) ≤ s) (q2 : (s : Int) ≤ (st : Int)) (q3 : (tabT (suK bs st g) false).getD s 0 = (v : Int) * 1000000) (q4 : v ≤ 60) (q5 : 1 ≤ v)=>visit_end hB hne hck hr q1 q2 (by omega) q3 q4 q5
 have hds0 : ∀ s : Int,dartS (suK bs st g) bs s 0 = ([],s):=fun _=>rfl
 have hdsS : ∀ (s : Int) (i : Nat),(dartS (suK bs st g) bs s i).2 = 0 → dartS (suK bs st g) bs s (i + 1) = dartS (suK bs st g) bs s i:=fun s i h=>by
  conv=>lhs;unfold dartS
  rw [if_pos h]
 have hlow:=armlow_ok (g : Int)
 generalize hU : tabT (suK bs st g) false = U at *
 generalize hL : tabT (suK bs st g) true = L at *
 have lU : U.length = st + 1:=by omega
 have lL : L.length = st + 1:=by omega
 have ws : IntKind.i64.wrap ((st : Int) + 1) = ((st + 1 : Nat) : Int):=by rw [zI] <;> omega
 have z0 : ((0 : Int) != 0) = false:=rfl
 have zl : (((st + 1 : Nat) : Int) != ((st + 1 : Nat) : Int)) = false:=by simp
 have zl2 : ((st : Int) + 1 != (st : Int) + 1) = false:=by simp
 have hsU : st < U.length:=by omega
 have hsL : st < L.length:=by omega
 obtain ⟨u,hu⟩:=zol hsU
 obtain ⟨l,hl⟩:=zol hsL
 have gu : U.getD st 0 = u:=by simp [List.getD,hu]
 have gl : L.getD st 0 = l:=by simp [List.getD,hl]
 repeat apply zq
 refine zb fun K hK=>?_;simp only [go_sem,hsl,z1,List.length_map];(try simp (disch:=omega) only [zI]);repeat first | intro _ | refine ⟨by omega,?_⟩
 apply hK;apply zw (zk [1,2,7,74]);simp only [go_sem]
 repeat apply zq
 apply zc rfl <;> intro hc <;> (try simp only [go_sem] at hc)
 apply zx
 try simp only [go_sem]
 repeat apply zq
 refine zb fun K hK=>?_;simp only [go_sem,k0,r0,r1,w0,w1];(try simp (disch:=omega) only [zI]);repeat first | intro _ | refine ⟨by omega,?_⟩
 repeat first | intro _ | refine ⟨by omega,?_⟩
 apply hK;refine zw (zfP 10 10 [i64 1,aimsR (sureL bs),i64 (st : Int),i64 (g : Int)] (by omega) (by try simp only [go_sem]) (by try simp only [go_sem])) ?_;apply zw (zk [7,10]);simp only [go_sem]
 repeat apply zq
 refine zb fun K hK=>?_;simp only [go_sem];(try simp (disch:=omega) only [zI])
 refine zh (htb2) rfl (by simp only [go_sem,i64,ints]) (by simp only [go_sem,i64,ints]) ?_
 (try simp only [go_sem]);(try simp (disch:=omega) only [zI]);repeat first | intro _ | refine ⟨by omega,?_⟩
 apply hK;apply zw (zk [7,10,11,12,13]);simp only [go_sem]
 repeat apply zq
 refine zb fun K hK=>?_;simp only [go_sem,z0,lU,lL,ws,zl,zl2,List.length_map];(try simp (disch:=omega) only [zI])
 (try intros)
 repeat first | intro _ | refine ⟨by omega,?_⟩
 apply hK;apply zw (zk [7,10,11,12,113]);simp only [go_sem]
 repeat apply zq
 apply zc rfl <;> intro hc <;> (try simp only [go_sem] at hc)
 apply zx
 try simp only [go_sem]
 repeat apply zq
 refine zb fun K hK=>?_;simp only [go_sem];(try simp (disch:=omega) only [zI]);repeat first | intro _ | refine ⟨by omega,?_⟩
 apply hK;apply zw (zk [7,10,11,12,14]);simp only [go_sem]
 rcases hbo with ⟨v,hv1,hv60,hbu,hbl⟩ | ⟨hbu,hbl⟩
 rotate_left
 · have e1 : u = 2000000000:=by rw [← gu,hbu]
   have e2 : l = 1000000000:=by rw [← gl,hbl]
   subst e1 e2
   repeat apply zq
   refine zb fun K hK=>?_;simp only [go_sem,hu,hsU,List.length_map];(try simp (disch:=omega) only [zI]);repeat first | intro _ | refine ⟨by omega,?_⟩
   apply hK;apply zw (zk [12,14,120]);simp only [go_sem]
   repeat apply zq
   apply zc rfl <;> intro hc <;> (try simp only [go_sem] at hc)
   repeat apply zq
   refine zb fun K hK=>?_;simp only [go_sem,hl,hsL,List.length_map];(try simp (disch:=omega) only [zI])
   refine zh (hk1) rfl (by simp only [go_sem,i64,ints]) (by simp only [go_sem,i64,ints]) ?_
   (try simp only [go_sem]);(try simp (disch:=omega) only [zI])
   refine zh (hk2) rfl (by simp only [go_sem,i64,ints]) (by simp only [go_sem,i64,ints]) ?_
   (try simp only [go_sem]);(try simp (disch:=omega) only [zI]);repeat first | intro _ | refine ⟨by omega,?_⟩
   apply hK;apply zw (zk [6]);simp only [go_sem];apply ze;simp only [go_sem]
 obtain ⟨X,hX⟩ : ∃ X : Int,X = (v : Int) * 1000000:=⟨_,rfl⟩
 have e1 : u = X:=by rw [← gu,hbu,hX]
 have e2 : l = X:=by rw [← gl,hbl,hX]
 subst e1
 rw [e2] at hl
 have y1 : (u == 2000000000) = false:=by rw [beq_eq_false_iff_ne];omega
 have y2 : (u != u) = false:=by simp
 have y3 : u.tmod 1000000 = 0:=by rw [hX,Int.tmod_eq_emod_of_nonneg (by omega)];omega
 have y4 : decide (u < 1000000) = false:=decide_eq_false (by omega)
 have y5 : u.tdiv 1000000 = (v : Int):=by rw [hX,Int.tdiv_eq_ediv_of_nonneg (by omega)];omega
 have y6 : IntKind.i64.wrap (v : Int) = (v : Int):=by rw [zI] <;> omega
 repeat apply zq
 refine zb fun K hK=>?_;simp only [go_sem,hu,hsU,y1,List.length_map];(try simp (disch:=omega) only [zI]);repeat first | intro _ | refine ⟨by omega,?_⟩
 apply hK;apply zw (zk [7,10,11,12,14,120]);simp only [go_sem]
 repeat apply zq
 apply zc rfl <;> intro hc <;> (try simp only [go_sem] at hc)
 apply zx
 try simp only [go_sem]
 repeat apply zq
 refine zg follows (by decide +kernel) (by kernel_rfl) fun K hK=>?_;simp only [go_sem,hu,hl,hsU,hsL,y2,y3,y4,z0,List.length_map];(try simp (disch:=omega) only [zI])
 (try intros)
 repeat first | intro _ | refine ⟨by omega,?_⟩
 apply hK;apply zw (zk [7,10,11,14,155]);simp only [go_sem]
 repeat apply zq
 apply zc rfl <;> intro hc <;> (try simp only [go_sem] at hc)
 apply zx
 try simp only [go_sem]
 repeat apply zq
 refine zb fun K hK=>?_;simp only [go_sem,hu,hsU,y5,y6,List.length_map];(try simp (disch:=omega) only [zI]);repeat first | intro _ | refine ⟨by omega,?_⟩
 apply hK;apply zw (zk [7,10,11,14,15]);simp only [go_sem]
 repeat apply zq
 refine zb fun K hK=>?_;simp only [go_sem];(try simp (disch:=omega) only [zI]);repeat first | intro _ | refine ⟨by omega,?_⟩
 apply hK;apply zw (zk [7,10,11,14,15,16]);simp only [go_sem]
 repeat apply zq
 apply zd
 have hinv2:=hinv hv1 hv60 (by rw [Int.toNat_natCast];exact hbu)
 refine zuv (n:=298) v (fun j vs=>[(7,.r (.rp [i64 1,aimsR (sureL bs)])),(10,.r (.rp [i64 1,aimsR (sureL bs),i64 (st : Int),i64 (g : Int)])),(11,.r (ints U)),(14,.r (i64 (legS (suK bs st g) bs j))),(15,.r (i64 (v : Int))),(16,.r (i64 (j : Int)))])
  (fun j vs=>[]) (fun _=>True) 0 (zj [] ?_ ?_) (Nat.zero_le _) trivial ?_
 · simp only [hleg0]
   try simp only [go_sem]
 · try simp only [go_sem]
 intro j vs hj _
 obtain ⟨hin1,hin2⟩:=hinv2 j hj
 by_cases hjv : j < v
 rotate_left
 · have hje : j = v:=by omega
   subst hje
   have hz : legS (suK bs st g) bs j = 0:=by
    rcases hin1 with ⟨_,_,q⟩ | ⟨q,_⟩
    · omega
    · exact q
   rw [hz]
   repeat apply zq
   refine zb fun K hK=>?_;simp only [go_sem,Int.lt_irrefl];(try simp (disch:=omega) only [zI]);repeat first | intro _ | refine ⟨by omega,?_⟩
   apply hK;apply zw (zk [14,163]);simp only [go_sem]
   repeat apply zq
   apply zc rfl <;> intro hc <;> (try simp only [go_sem] at hc)
   apply zf;simp only [go_sem]
   repeat apply zq
   refine zb fun K hK=>?_;simp only [go_sem];(try simp (disch:=omega) only [zI])
   refine zh (hk1) rfl (by simp only [go_sem,i64,ints]) (by simp only [go_sem,i64,ints]) ?_
   (try simp only [go_sem]);(try simp (disch:=omega) only [zI])
   refine zh (hk2) rfl (by simp only [go_sem,i64,ints]) (by simp only [go_sem,i64,ints]) ?_
   (try simp only [go_sem]);(try simp (disch:=omega) only [zI]);repeat first | intro _ | refine ⟨by omega,?_⟩
   apply hK;apply zw (zk [6]);simp only [go_sem];apply ze;simp only [go_sem]
 rcases hin1 with ⟨a1,a2,_⟩ | ⟨_,a2⟩
 rotate_left
 · omega
 obtain ⟨s,hs⟩ : ∃ s : Nat,legS (suK bs st g) bs j = s:=⟨(legS (suK bs st g) bs j).toNat,by omega⟩
 have hnx:=hlegS j
 rw [hs] at a1 a2 hin2 hnx ⊢
 rw [Int.toNat_natCast] at hin2
 obtain ⟨V,hV⟩ : ∃ V,V = v - j:=⟨_,rfl⟩
 rw [← hV] at hin2
 have hda2:=fun i=>@hda s V a1 a2 hin2 (by omega) (by omega) i
 have hve2:=@hve s V a1 a2 hin2 (by omega) (by omega)
 rw [hnx]
 have cj : decide ((j : Int) < (v : Int)) = true:=decide_eq_true (by omega)
 have wj : IntKind.i64.wrap ((j : Int) + 1) = (j : Int) + 1:=by rw [zI] <;> omega
 repeat apply zq
 refine zb fun K hK=>?_;simp only [go_sem,cj];(try simp (disch:=omega) only [zI]);repeat first | intro _ | refine ⟨by omega,?_⟩
 apply hK;apply zw (zk [7,10,11,14,15,16,163]);simp only [go_sem]
 repeat apply zq
 apply zc rfl <;> intro hc <;> (try simp only [go_sem] at hc)
 rotate_left
 · exact absurd hjv hc
 apply zx
 try simp only [go_sem]
 repeat apply zq
 apply zd
 repeat apply zq
 refine zb fun K hK=>?_;simp only [go_sem];(try simp (disch:=omega) only [zI]);repeat first | intro _ | refine ⟨by omega,?_⟩
 apply hK;refine zw (sub_own 17 207 60 1 (by omega) (by rfl)) ?_;apply zw (zk [7,10,11,14,15,16,17,18]);simp only [go_sem]
 repeat apply zq
 refine zb fun K hK=>?_;simp only [go_sem];(try simp (disch:=omega) only [zI]);repeat first | intro _ | refine ⟨by omega,?_⟩
 apply hK;apply zw (zk [7,10,11,14,15,16,17,18,19]);simp only [go_sem]
 repeat apply zq
 refine zaw (n:=298) (fun (_ : Unit) vs=>[(7,.r (.rp [i64 1,aimsR (sureL bs)])),(10,.r (.rp [i64 1,aimsR (sureL bs),i64 (st : Int),i64 (g : Int)])),(11,.r (ints U)),(14,.r (i64 (s : Int))),(15,.r (i64 (v : Int))),(16,.r (i64 (j : Int))),(17,.os 207 (vs 207) 1 0 (dartS (suK bs st g) bs s 3).1.length),(18,.r (i64 (dartS (suK bs st g) bs s 3).2))])
  (fun _ vs=>[(207,.arr 60 1 (arrV (dartS (suK bs st g) bs s 3).1))]) (fun _=>True) (fun _ h=>h) ?_ ?_
 · repeat apply zq
   apply zd
   refine zuv (n:=298) 3 (fun i vs=>[(7,.r (.rp [i64 1,aimsR (sureL bs)])),(10,.r (.rp [i64 1,aimsR (sureL bs),i64 (st : Int),i64 (g : Int)])),(11,.r (ints U)),(14,.r (i64 (s : Int))),(15,.r (i64 (v : Int))),(16,.r (i64 (j : Int))),(17,.os 207 (vs 207) 1 0 (dartS (suK bs st g) bs s i).1.length),(18,.r (i64 (dartS (suK bs st g) bs s i).2)),(19,.r (i64 (3 - (i : Int))))])
    (fun i vs=>[(207,.arr 60 1 (arrV (dartS (suK bs st g) bs s i).1))]) (fun _=>True) 0 (zj [] ?_ ?_) (Nat.zero_le _) trivial ?_
   · simp only [hds0]
     try simp only [go_sem]
     try rfl
   · simp only [hds0]
     try simp only [go_sem]
     try rfl
   intro i vs hi _
   by_cases hgo : i < 3 ∧ (dartS (suK bs st g) bs s i).2 ≠ 0
   · obtain ⟨hi3,h0⟩:=hgo
     obtain ⟨k,b,b1,b2,b3,b4,b5,b6,b7⟩:=hda2 i hi3 h0
     have ha:=haim (s : Int) (dartS (suK bs st g) bs s i).2 (3 - (i : Int))
     rw [b2] at ha
     rw [b3]
     generalize dartS (suK bs st g) bs s i = Y at *
     obtain ⟨D,y⟩:=Y
     simp only at b1 b2 b3 b4 b5 b6 b7 ha h0 ⊢
     have hbo:=hB b (zmo b1)
     have hrg:=bed_range hbo
     have hscl:=score_le hrg.1 hrg.2
     have hak : (sureL bs)[k]? = some (sureA b):=by unfold sureL;rw [List.getElem?_map,b1];rfl
     have hkl : k < bs.length:=(List.getElem?_eq_some_iff.1 b1).1
     have hkl2 : k < (sureL bs).length:=by omega
     have hsc:=ascoreB_ok b hrg
     have ha2 : ACalls Try.prog 26 [.ag [.it .i64 1,aimsR (sureL bs),.it .i64 (st : Int),.it .i64 (g : Int)],.ag [.it .i64 (s : Int),.it .i64 y,.it .i64 (3 - (i : Int))]] (.tu [i64 (k : Int),i64 (((V - 1 : Nat) : Int) * 1000000),i64 0]):=ha
     have c1 : decide (0 < 3 - (i : Int)) = true:=decide_eq_true (by omega)
     have c2 : decide (0 < y) = true:=decide_eq_true (by omega)
     have c3 : decide ((k : Int) < 0) = false:=decide_eq_false (by omega)
     have c4 : decide ((bs.length : Int) ≤ (k : Int)) = false:=decide_eq_false (by omega)
     have c5 : ¬ bs.length ≤ k:=by omega
     have wy : IntKind.i64.wrap (y - scoreOf b) = y - scoreOf b:=by rw [zI] <;> omega
     have wd : IntKind.i64.wrap (3 - (i : Int) - 1) = 3 - ((i + 1 : Nat) : Int):=by rw [zI] <;> omega
     repeat apply zq
     refine zb fun K hK=>?_;simp only [go_sem,c1,c2];(try simp (disch:=omega) only [zI]);repeat first | intro _ | refine ⟨by omega,?_⟩
     apply hK;apply zw (zk [7,10,11,14,15,16,17,18,19,173]);simp only [go_sem]
     repeat apply zq
     apply zc rfl <;> intro hc <;> (try simp only [go_sem] at hc)
     apply zx
     try simp only [go_sem]
     repeat apply zq
     apply zd
     repeat apply zq
     refine zb fun K hK=>?_;simp only [go_sem];(try simp (disch:=omega) only [zI])
     refine zh (ha2) rfl (by simp only [go_sem,i64,ints]) (by simp only [go_sem,i64,ints]) ?_
     (try simp only [go_sem]);(try simp (disch:=omega) only [zI]);repeat first | intro _ | refine ⟨by omega,?_⟩
     apply hK;apply zw (zk [7,10,11,14,15,16,17,18,19,20,22]);simp only [go_sem]
     repeat apply zq
     refine zb fun K hK=>?_;simp only [go_sem,z0,c3,c4,c5,hsl,List.length_map];(try simp (disch:=omega) only [zI])
     (try intros)
     repeat first | intro _ | refine ⟨by omega,?_⟩
     apply hK;apply zw (zk [7,10,11,14,15,16,17,18,19,20,198]);simp only [go_sem]
     repeat apply zq
     apply zc rfl <;> intro hc <;> (try simp only [go_sem] at hc)
     apply zx
     try simp only [go_sem]
     repeat apply zq
     refine zb fun K hK=>?_;simp only [go_sem,hak,hkl,hkl2,hsl,sureA,aimR,List.length_map];(try simp (disch:=omega) only [zI]);repeat first | intro _ | refine ⟨by omega,?_⟩
     repeat first | intro _ | refine ⟨by omega,?_⟩
     apply hK;apply zw (zk [7,10,11,14,15,16,17,18,19,20]);simp only [go_sem]
     repeat apply zq
     refine zb fun K hK=>?_;simp only [go_sem,hak,hkl,hkl2,hsl,sureA,aimR,wy,List.length_map];(try simp (disch:=omega) only [zI]);repeat first | intro _ | refine ⟨by omega,?_⟩
     refine zh (hsc) rfl (by simp only [go_sem,i64,ints]) (by simp only [go_sem,i64,ints]) ?_
     (try simp only [go_sem]);(try simp (disch:=omega) only [zI]);repeat first | intro _ | refine ⟨by omega,?_⟩
     apply hK;apply zw (zk [7,10,11,14,15,16,17,19,20,23]);simp only [go_sem]
     repeat apply zq
     refine zaw (n:=298) (fun (_ : Unit) vs=>[(7,.r (.rp [i64 1,aimsR (sureL bs)])),(10,.r (.rp [i64 1,aimsR (sureL bs),i64 (st : Int),i64 (g : Int)])),(11,.r (ints U)),(14,.r (i64 (s : Int))),(15,.r (i64 (v : Int))),(16,.r (i64 (j : Int))),(17,.os 207 (vs 207) 1 0 (D ++ [b]).length),(19,.r (i64 (3 - (i : Int)))),(23,.r (i64 (y - scoreOf b))),(237,.r (.bo false))])
      (fun _ vs=>[(207,.arr 60 1 (arrV (D ++ [b])))]) (fun _=>True) (fun _ h=>h) ?_ ?_
     · rcases b4 with ⟨q1,q2⟩ | q1
       · have d1 : decide (y - scoreOf b < lowG (g : Int)) = true:=decide_eq_true (by omega)
         have d2 : (y - scoreOf b == 0) = true:=by rw [beq_iff_eq];exact q1
         have hop:=aropens_ok b g hbo (by omega) q2
         repeat apply zq
         refine zg follows (by decide +kernel) (by kernel_rfl) fun K hK=>?_;simp only [go_sem,d1,d2,hak,hkl,hkl2,hsl,sureA,aimR,List.length_map];(try simp (disch:=omega) only [zI])
         refine zh (hlow) rfl (by simp only [go_sem,i64,ints,d1,d2,hak,hkl,hkl2,hsl,sureA,aimR,List.length_map]) (by simp only [go_sem,i64,ints,d1,d2,hak,hkl,hkl2,hsl,sureA,aimR,List.length_map]) ?_
         (try simp only [go_sem,d1,d2,hak,hkl,hkl2,hsl,sureA,aimR,List.length_map]);(try simp (disch:=omega) only [zI]);repeat first | intro _ | refine ⟨by omega,?_⟩
         refine zh (hop) rfl (by simp only [go_sem,i64,ints]) (by simp only [go_sem,i64,ints]) ?_
         (try simp only [go_sem]);(try simp (disch:=omega) only [zI]);repeat first | intro _ | refine ⟨by omega,?_⟩
         apply hK
         refine ⟨(),trivial,zj [] ?_ ?_⟩
         · try simp only [go_sem]
           try simp
         · try simp only [go_sem]
           try simp
       · have d1 : decide (y - scoreOf b < lowG (g : Int)) = false:=decide_eq_false (by omega)
         repeat apply zq
         refine zg follows (by decide +kernel) (by kernel_rfl) fun K hK=>?_;simp only [go_sem,d1,hak,hkl,hkl2,hsl,sureA,aimR,List.length_map];(try simp (disch:=omega) only [zI])
         refine zh (hlow) rfl (by simp only [go_sem,i64,ints,d1]) (by simp only [go_sem,i64,ints,d1]) ?_
         (try simp only [go_sem,d1]);(try simp (disch:=omega) only [zI]);repeat first | intro _ | refine ⟨by omega,?_⟩
         apply hK
         refine ⟨(),trivial,zj [] ?_ ?_⟩
         · try simp only [go_sem]
           try simp
         · try simp only [go_sem]
           try simp
     intro _ vs _
     repeat apply zq
     apply zc rfl <;> intro hc <;> (try simp only [go_sem] at hc)
     apply zx
     try simp only [go_sem]
     repeat apply zq
     refine zb fun K hK=>?_;simp only [go_sem];(try simp (disch:=omega) only [zI]);repeat first | intro _ | refine ⟨by omega,?_⟩
     apply hK;apply zw (zk [7,10,11,14,15,16,17,18,19]);simp only [go_sem]
     repeat apply zq
     refine zb fun K hK=>?_;simp only [go_sem,wd];(try simp (disch:=omega) only [zI]);repeat first | intro _ | refine ⟨by omega,?_⟩
     apply hK
     try simp only [go_sem]
     refine ⟨by omega,zj [] ?_ ?_⟩
     · try simp only [go_sem]
     · try simp only [go_sem]
   · have hfin : dartS (suK bs st g) bs s 3 = dartS (suK bs st g) bs s i:=by
      by_cases h3 : i = 3
      · rw [h3]
      · have hz : (dartS (suK bs st g) bs s i).2 = 0:=by
         rcases Classical.em ((dartS (suK bs st g) bs s i).2 = 0) with e | e
         · exact e
         · exact absurd ⟨by omega,e⟩ hgo
        have q1:=hdsS s i hz
        have q2:=hdsS s (i + 1) (by rw [q1];exact hz)
        have q3:=hdsS s (i + 1 + 1) (by rw [q2,q1];exact hz)
        have : i = 0 ∨ i = 1 ∨ i = 2:=by omega
        rcases this with rfl | rfl | rfl
        · rw [q3,q2,q1]
        · rw [q2,q1]
        · rw [q1]
     rw [hfin]
     repeat apply zq
     refine zaw (n:=298) (fun (_ : Unit) vs=>[(7,.r (.rp [i64 1,aimsR (sureL bs)])),(10,.r (.rp [i64 1,aimsR (sureL bs),i64 (st : Int),i64 (g : Int)])),(11,.r (ints U)),(14,.r (i64 (s : Int))),(15,.r (i64 (v : Int))),(16,.r (i64 (j : Int))),(17,.os 207 (vs 207) 1 0 (dartS (suK bs st g) bs s i).1.length),(18,.r (i64 (dartS (suK bs st g) bs s i).2)),(173,.r (.bo false))])
      (fun _ vs=>[(207,.arr 60 1 (arrV (dartS (suK bs st g) bs s i).1))]) (fun _=>True) (fun _ h=>h) ?_ ?_
     · by_cases h3 : i < 3
       · have c1 : decide (0 < 3 - (i : Int)) = true:=decide_eq_true (by omega)
         have hz : (dartS (suK bs st g) bs s i).2 = 0:=by
          rcases Classical.em ((dartS (suK bs st g) bs s i).2 = 0) with e | e
          · exact e
          · exact absurd ⟨h3,e⟩ hgo
         rw [hz]
         repeat apply zq
         refine zb fun K hK=>?_;simp only [go_sem,c1];(try simp (disch:=omega) only [zI]);repeat first | intro _ | refine ⟨by omega,?_⟩
         apply hK
         refine ⟨(),trivial,zj [] ?_ ?_⟩
         · try simp only [go_sem]
         · try simp only [go_sem]
       · have c1 : decide (0 < 3 - (i : Int)) = false:=decide_eq_false (by omega)
         repeat apply zq
         refine zb fun K hK=>?_;simp only [go_sem,c1];(try simp (disch:=omega) only [zI]);repeat first | intro _ | refine ⟨by omega,?_⟩
         apply hK
         refine ⟨(),trivial,zj [] ?_ ?_⟩
         · try simp only [go_sem]
         · try simp only [go_sem]
     intro _ vs _
     repeat apply zq
     apply zc rfl <;> intro hc <;> (try simp only [go_sem] at hc)
     apply zf;simp only [go_sem]
     refine ⟨(),zj [] ?_ ?_⟩
     · try simp only [go_sem]
     · try simp only [go_sem]
 intro _ vs _
 obtain ⟨Lf,e1,e2,e3,e4⟩:=hve2
 have hvis:=lvisit_ok (st:=(st : Int)) e1 ⟨by omega,by omega⟩ ⟨by omega,by omega⟩ ⟨a1,a2⟩
 rw [e2] at hvis
 generalize dartS (suK bs st g) bs s 3 = Y at *
 obtain ⟨D,y⟩:=Y
 simp only at hvis e1 e2 e3 e4 ⊢
 generalize hq2 : (s : Int) - y = q2 at *
 generalize hq4 : (D.length : Int) = q4 at *
 refine zw (sub_frz 17 207 (ty:=60) (sz:=1) (off:=0) (m:=D.length) (es:=arrV D) (by omega) rfl (by rfl) (by simp)) ?_
 have htk : (arrV D).take D.length = arrV D:=List.take_of_length_le (by simp)
 rw [List.drop_zero,htk]
 apply zw (zk [7,10,11,14,15,16,17,18]);simp only [go_sem]
 repeat apply zq
 refine awp_dregC [249] [(10,none),(14,none),(17,none)] follows (by decide +kernel) (by kernel_rfl) (by simp only [keysOk,List.mem_cons,List.not_mem_nil,forall_eq_or_imp,Oc.keyOf,go_sem];simp) fun K hK=>?_
 simp only [go_sem,List.append_nil,List.nil_append];(try simp (disch:=omega) only [zI])
 have hDl:=e1.len.2
 repeat first | intro _ | refine ⟨by omega,?_⟩
 refine zh (hvis) rfl (by simp only [go_sem,i64,ints]) (by simp only [go_sem,i64,ints]) ?_
 (try simp only [go_sem]);(try simp (disch:=omega) only [zI]);repeat first | intro _ | refine ⟨by omega,?_⟩
 apply hK;refine zw (zfP 24 24 [i64 y,i64 q2,i64 q4,.bo true,.bo false,.bo (decide (y = 0))] (by omega) (by try simp only [go_sem]) (by try simp only [go_sem])) ?_;apply zw (zk [7,10,11,14,15,16,18,24,25]);simp only [go_sem]
 have hy : 0 ≤ y ∧ y ≤ s:=by omega
 obtain ⟨z,hz⟩ : ∃ z : Nat,y = z:=⟨y.toNat,by omega⟩
 subst hz
 rw [Int.toNat_natCast] at e3
 have hzU : z < U.length:=by omega
 have hsU2 : s < U.length:=by omega
 obtain ⟨x1,hx1⟩:=zol hzU
 obtain ⟨x2,hx2⟩:=zol hsU2
 have gx1 : x1 = ((V - 1 : Nat) : Int) * 1000000:=by rw [← e3];simp [List.getD,hx1]
 have gx2 : x2 = (V : Int) * 1000000:=by rw [← hin2];simp [List.getD,hx2]
 have wx : IntKind.i64.wrap (x2 - 1000000) = x1:=by rw [zI] <;> omega
 have y7 : (x1 != x1) = false:=by simp
 have y8 : ((z : Int) != (z : Int)) = false:=by simp
 have yb1 : (!(false == false)) = false:=rfl
 have yb2 : (!(true == true)) = false:=rfl
 have wv : IntKind.i64.wrap ((v : Int) - 1) = (v : Int) - 1:=by rw [zI] <;> omega
 repeat apply zq
 refine zaw (n:=298) (fun (_ : Unit) vs=>[(7,.r (.rp [i64 1,aimsR (sureL bs)])),(10,.r (.rp [i64 1,aimsR (sureL bs),i64 (st : Int),i64 (g : Int)])),(11,.r (ints U)),(15,.r (i64 (v : Int))),(16,.r (i64 (j : Int))),(18,.r (i64 (z : Int))),(288,.r (.bo false))])
  (fun _ vs=>[]) (fun _=>True) (fun _ h=>h) ?_ ?_
 · rcases e4 with ⟨q1,q2,q3⟩ | ⟨q1,q2⟩
   · have d1 : decide ((z : Int) = 0) = false:=decide_eq_false (by omega)
     have d2 : ((z : Int) == 0) = false:=by rw [beq_eq_false_iff_ne];omega
     have d3 : ((j : Int) == (v : Int) - 1) = false:=by rw [beq_eq_false_iff_ne];omega
     rw [d1]
     repeat apply zq
     refine zg follows (by decide +kernel) (by kernel_rfl) fun K hK=>?_;simp only [go_sem,z0,y8,d2,d3,yb1,yb2,wv,hx1,hx2,hzU,hsU2,wx,y7,List.length_map];(try simp (disch:=omega) only [zI])
     (try intros)
     repeat first | intro _ | refine ⟨by omega,?_⟩
     apply hK
     refine ⟨(),trivial,zj [] ?_ ?_⟩
     · try simp only [go_sem]
     · try simp only [go_sem]
   · have d1 : decide ((z : Int) = 0) = true:=decide_eq_true (by omega)
     have d2 : ((z : Int) == 0) = true:=by rw [beq_iff_eq];omega
     have d3 : ((j : Int) == (v : Int) - 1) = true:=by rw [beq_iff_eq];omega
     rw [d1]
     repeat apply zq
     refine zg follows (by decide +kernel) (by kernel_rfl) fun K hK=>?_;simp only [go_sem,z0,y8,d2,d3,yb1,yb2,wv,hx1,hx2,hzU,hsU2,wx,y7,List.length_map];(try simp (disch:=omega) only [zI])
     (try intros)
     repeat first | intro _ | refine ⟨by omega,?_⟩
     apply hK
     refine ⟨(),trivial,zj [] ?_ ?_⟩
     · try simp only [go_sem]
     · try simp only [go_sem]
 intro _ vs _
 repeat apply zq
 apply zc rfl <;> intro hc <;> (try simp only [go_sem] at hc)
 apply zx
 try simp only [go_sem]
 repeat apply zq
 refine zb fun K hK=>?_;simp only [go_sem];(try simp (disch:=omega) only [zI]);repeat first | intro _ | refine ⟨by omega,?_⟩
 apply hK;apply zw (zk [7,10,11,14,15,16]);simp only [go_sem]
 repeat apply zq
 refine zb fun K hK=>?_;simp only [go_sem,wj];(try simp (disch:=omega) only [zI]);repeat first | intro _ | refine ⟨by omega,?_⟩
 apply hK
 try simp only [go_sem]
 refine ⟨by omega,zj [] ?_ ?_⟩
 · try simp only [go_sem]
 · try simp only [go_sem]
end Go.Proofs.Ytgfbenanljjgaaa.Du.Th.Ai

namespace Go.Oc
open Go Go.RowKit Go.ChangeShapes Go.WideShapes
inductive Sh where
 | int (k : IntKind)
 | bool
 | sl (es : List Sh)
def fieldsSh (P : Program) (sh : TypeId → Option (List Sh)) : List Field → Nat → Option (List Sh)
 | [],_=>some []
 | f :: fs, o =>
   match sh f.type with
   | some ss=>if f.offset == o && ss.length == P.cellsOf f.type then match fieldsSh P sh fs (o + ss.length) with | some q=>some (ss ++ q) | none=>none else none
   | none=>none
def shape (P : Program) : Nat → TypeId → Option (List Sh)
 | 0,_=>none
 | n + 1, t =>
   match P.underlying t with
   | some (.int k)=>some [.int k]
   | some .bool=>some [.bool]
   | some (.slice e) =>
     match shape P n e with
     | some ss=>if ss.length == P.cellsOf e && decide (0 < ss.length) then some [.sl ss] else none
     | none=>none
   | some (.array m e) =>
     match shape P n e with
     | some ss=>if ss.length == P.cellsOf e && P.cellsOf t == m * ss.length then some (List.replicate m ss).flatten else none
     | none=>none
   | some (.struct fs) =>
     match fieldsSh P (shape P n) fs.toList 0 with
     | some ss=>if ss.length == P.cellsOf t then some ss else none
     | none=>none
   | _=>none
mutual
def Fits : Sh → RV → Prop
 | .int k,x=>∃ n,x = .it k n ∧ (Lit.int k n).wf = true
 | .bool,x=>∃ b,x = .bo b
 | .sl ss,x=>∃ es,x = .sl ss.length es ∧ FitsE ss es
def FitsL : List Sh → List RV → Prop
 | [],xs=>xs = []
 | s :: ss,xs=>∃ y ys,xs = y :: ys ∧ Fits s y ∧ FitsL ss ys
def FitsE (ss : List Sh) : List (List RV) → Prop
 | []=>True
 | e :: es=>FitsL ss e ∧ FitsE ss es
end
theorem fitsL_append : ∀ {s1 s2 : List Sh} {x1 x2 : List RV},FitsL s1 x1 → FitsL s2 x2 → FitsL (s1 ++ s2) (x1 ++ x2)
 | [],_,_,_,h1,h2=>by simp only [FitsL] at h1;subst h1;simpa using h2
 | s :: ss, s2, x1, x2, h1, h2 => by
   simp only [FitsL] at h1
   obtain ⟨y,ys,rfl,h3,h4⟩:=h1
   simp only [List.cons_append,FitsL];exact ⟨y,_,rfl,h3,fitsL_append h4 h2⟩
theorem fitsL_length : ∀ {ss : List Sh} {xs : List RV},FitsL ss xs → xs.length = ss.length
 | [],_,h=>by simp only [FitsL] at h;subst h;rfl
 | s :: ss, _, h => by
   simp only [FitsL] at h
   obtain ⟨y,ys,rfl,_,h⟩:=h
   simp [fitsL_length h]
theorem fitsE_of : ∀ {ss : List Sh} {es : List (List RV)},(∀ e ∈ es,FitsL ss e) → FitsE ss es
 | _,[],_=>by simp only [FitsE]
 | ss,e :: es,h=>by simp only [FitsE];exact ⟨h e (by simp),fitsE_of fun x hx=>h x (by simp [hx])⟩
theorem choice {α : Type} {Q : Nat → α → Prop} : ∀ (n : Nat),(∀ i,i < n → ∃ x,Q i x) → ∃ xs : List α,xs.length = n ∧ ∀ i x,xs[i]? = some x → Q i x
 | 0,_=>⟨[],rfl,by simp⟩
 | n + 1, h => by
   obtain ⟨xs,hl,hx⟩:=choice n fun i hi=>h i (by omega)
   obtain ⟨y,hy⟩:=h n (by omega)
   refine ⟨xs ++ [y],by simp [hl],fun i x hi=>?_⟩
   by_cases h1 : i < n
   · rw [List.getElem?_append_left (by omega)] at hi;exact hx i x hi
   · rw [List.getElem?_append_right (by omega)] at hi
     have : i = n:=by have:=(List.getElem?_eq_some_iff.1 hi).1;simp at this;omega
     subst this
     simp [hl] at hi
     exact hi ▸ hy
section
variable {w : World} {P : Program}
theorem cells?_get {base n : Nat} {a : Addr} {cs : List Value} (h : w.cells? base a n = some cs) : cs.length = n ∧ ∀ i,i < n → w.cell? (a.add i) = cs[i]?:=by
 unfold World.cells? at h
 split at h
 · exact ⟨by simpa using mapM_some_length h,fun i hi=>mapM_some_get h i i (by simp [hi])⟩
 · cases h
theorem cell_lt {a : Addr} {v : Value} (h : w.cell? a = some v) : a.block < w.heap.size:=by
 refine Decidable.byContradiction fun hn=>?_
 have : w.heap[a.block]? = none:=by simp;omega
 simp [World.cell?,this] at h
def old (w : World) : Nat → Prop:=fun b=>b < w.heap.size
theorem relC_of_cells {xs : List RV} {cs : List Value} {ad : Addr} (hV : RV.relV w (old w) xs cs) (hone : ∀ u ∈ cs,u.oneCell' = true) (hc : ∀ i,i < cs.length → w.cell? (ad.add i) = cs[i]?) : RV.relC w (old w) xs ad 0:=by
 refine RV.relC_of_get fun i x hx=>?_
 obtain ⟨u,hu,hr⟩:=RV.relV_get hV hx
 have hi:=(List.getElem?_eq_some_iff.1 hu).1
 refine ⟨u,?_,hone u (List.mem_of_getElem? hu),hr⟩
 rw [Nat.zero_add,hc i hi,hu]
variable {H : Type} {enc : TypeId × Value → H} {base : Nat} {spare : Nat → Bool} {held : Bool}
def Good3 (w : World) (ss : List Sh) (cs : List Value) : Prop:=∃ xs,FitsL ss xs ∧ RV.relV w (old w) xs cs ∧ ∀ u ∈ cs,u.oneCell' = true
theorem good3_append {s1 s2 : List Sh} {c1 c2 : List Value} (h1 : Good3 w s1 c1) (h2 : Good3 w s2 c2) : Good3 w (s1 ++ s2) (c1 ++ c2):=by
 obtain ⟨x1,f1,r1,o1⟩:=h1
 obtain ⟨x2,f2,r2,o2⟩:=h2
 refine ⟨x1 ++ x2,fitsL_append f1 f2,RV.relV_append r1 r2,fun u hu=>?_⟩
 rcases List.mem_append.1 hu with hu | hu
 · exact o1 u hu
 · exact o2 u hu
theorem trod_fits : ∀ (fuel n : Nat) (t : TypeId) (cs : List Value) (x : DataW H × List MemPlace) (ss : List Sh),DataW.trod enc P w base spare held fuel t cs = some x → shape P n t = some ss → Good3 w ss cs:=by
 intro fuel
 induction fuel with
 | zero=>intro n t cs x ss h;simp [DataW.trod] at h
 | succ fuel ih =>
   intro n t cs x ss h hs
   cases n with
   | zero=>simp [shape] at hs
   | succ n =>
     unfold shape at hs
     split at hs
     · rename_i k ht
       injection hs with hs;subst hs
       obtain ⟨m,rfl,_,hw⟩:=DataW.trod_int ht h
       exact ⟨[.it k m],by simp only [FitsL,Fits];exact ⟨_,[],rfl,⟨m,rfl,hw⟩,rfl⟩,by simp only [RV.relV,RV.rel];exact ⟨_,[],rfl,rfl,rfl⟩,by simp [Value.oneCell']⟩
     · rename_i ht
       injection hs with hs;subst hs
       obtain ⟨b,rfl,_⟩:=DataW.trod_bool ht h
       exact ⟨[.bo b],by simp only [FitsL,Fits];exact ⟨_,[],rfl,⟨b,rfl⟩,rfl⟩,by simp only [RV.relV,RV.rel];exact ⟨_,[],rfl,rfl,rfl⟩,by simp [Value.oneCell']⟩
     · rename_i e ht
       split at hs
       · rename_i es hes
         split at hs
         · rename_i hc
           simp only [Bool.and_eq_true,beq_iff_eq,decide_eq_true_eq] at hc
           injection hs with hs;subst hs
           rcases DataW.trod_slice ht h with ⟨rfl,_⟩ | ⟨a,len,cap,elems,rest,m,hm,rfl,_,_,hlc,hcm,hel,hget,_⟩
           · refine ⟨[.sl es.length []],?_,?_,by simp [Value.oneCell']⟩
             · simp only [FitsL,Fits];exact ⟨_,[],rfl,⟨[],rfl,by simp only [FitsE]⟩,rfl⟩
             · simp only [RV.relV,RV.rel];exact ⟨_,[],rfl,⟨none,0,rfl,Nat.le_refl _,Nat.zero_le _,fun h=>absurd rfl h⟩,rfl⟩
           · injection hm with hm;subst hm
             have hall : ∀ i,i < len → ∃ e',FitsL es e' ∧ e'.length = es.length ∧ RV.relC w (old w) e' (a.add (i * es.length)) 0 ∧ a.block < w.heap.size:=fun i hi=>by
              have h1:=hget i hi
              have h2 : i < elems.length:=by omega
              rw [List.getElem?_eq_getElem h2] at h1
              obtain ⟨ci,hci,htr⟩:=Option.bind_eq_some_iff.1 h1
              rw [← hc.1] at hci
              obtain ⟨hl,hcell⟩:=cells?_get hci
              obtain ⟨xs,f,r,o⟩:=ih n e ci _ es htr hes
              refine ⟨xs,f,fitsL_length f,relC_of_cells r o (fun j hj=>hcell j (by omega)),?_⟩
              have h3:=hcell 0 hc.2
              have h4 : 0 < ci.length:=by omega
              rw [List.getElem?_eq_getElem h4] at h3
              have:=cell_lt h3
              rwa [block_add,block_add] at this
             obtain ⟨els,hlen,hels⟩:=choice len hall
             refine ⟨[.sl es.length els],?_,?_,by simp [Value.oneCell']⟩
             · simp only [FitsL,Fits]
               refine ⟨_,[],rfl,⟨els,rfl,fitsE_of fun e' he'=>?_⟩,rfl⟩
               obtain ⟨i,hi⟩:=List.getElem?_of_mem he'
               exact (hels i e' hi).1
             · simp only [RV.relV,RV.rel]
               refine ⟨_,[],rfl,⟨some a,cap,by rw [hlen],by omega,hcm,fun hne=>?_⟩,rfl⟩
               obtain ⟨e0,he0⟩ : ∃ e0,els[0]? = some e0:=by
                cases els with
                | nil=>exact absurd rfl hne
                | cons a l=>exact ⟨a,rfl⟩
               refine ⟨a,rfl,(hels 0 e0 he0).2.2.2,RV.relE_of_get fun i e' he'=>?_⟩
               obtain ⟨_,q1,q2,_⟩:=hels i e' he'
               exact ⟨q1,RV.relC_unbase _ q2⟩
         · cases hs
       · cases hs
     · rename_i m e ht
       split at hs
       · rename_i es hes
         split at hs
         · rename_i hc
           simp only [Bool.and_eq_true,beq_iff_eq] at hc
           injection hs with hs;subst hs
           obtain ⟨xs,fm,hm,_,hcl,hxl,hget⟩:=DataW.trod_array ht h
           injection hm with hm;subst hm
           have key : ∀ j,j ≤ m → Good3 w (List.replicate j es).flatten (cs.take (j * es.length)):=by
            intro j
            induction j with
            | zero=>intro _;exact ⟨[],by simp [FitsL],by simp [RV.relV],by simp⟩
            | succ j ihj =>
              intro hj
              have h1:=hget j (by omega)
              have h2 : j < xs.length:=by omega
              rw [List.getElem?_eq_getElem h2,← hc.1] at h1
              have h3:=ih n e _ _ es h1 hes
              have:=good3_append (ihj (by omega)) h3
              rw [← List.take_add] at this
              rw [List.replicate_succ',List.flatten_append,Nat.add_mul]
              simpa using this
           have:=key m (Nat.le_refl _)
           rwa [← hc.2,← hcl,List.take_length] at this
         · cases hs
       · cases hs
     · rename_i fs ht
       split at hs
       · rename_i q hq
         split at hs
         · rename_i hc
           simp only [beq_iff_eq] at hc
           injection hs with hs;subst hs
           obtain ⟨xs,fm,hm,_,hcl,hxl,hget⟩:=DataW.trod_struct ht h
           injection hm with hm;subst hm
           have key : ∀ (l : List Field) (o : Nat) (q : List Sh),(∀ f ∈ l,∃ y,DataW.trod enc P w base spare held fuel f.type ((cs.drop f.offset).take (P.cellsOf f.type)) = some y) → fieldsSh P (shape P n) l o = some q → Good3 w q ((cs.drop o).take q.length):=by
            intro l
            induction l with
            | nil =>
              intro o q _ hq
              simp only [fieldsSh,Option.some.injEq] at hq
              subst hq
              exact ⟨[],by simp [FitsL],by simp [RV.relV],by simp⟩
            | cons f l ihl =>
              intro o q hall hq
              simp only [fieldsSh] at hq
              split at hq
              · rename_i s1 hs1
                split at hq
                · rename_i hc1
                  simp only [Bool.and_eq_true,beq_iff_eq] at hc1
                  split at hq
                  · rename_i q2 hq2
                    injection hq with hq;subst hq
                    obtain ⟨y,hy⟩:=hall f (by simp)
                    have g1:=ih n f.type _ _ s1 hy hs1
                    have g2:=ihl (o + s1.length) q2 (fun f' hf'=>hall f' (by simp [hf'])) hq2
                    rw [hc1.1,← hc1.2] at g1
                    have:=good3_append g1 g2
                    rw [← List.drop_drop,← List.take_add] at this
                    simpa using this
                  · cases hq
                · cases hq
              · cases hq
           have:=key fs.toList 0 q (fun f hf=>by
            obtain ⟨i,hi⟩:=List.getElem?_of_mem hf
            have hi' : fs[i]? = some f:=by simpa using hi
            have h1:=hget i f hi'
            have h2 : i < xs.length:=by have:=(Array.getElem?_eq_some_iff.1 hi').1;omega
            exact ⟨xs[i],by rw [h1];exact List.getElem?_eq_getElem h2⟩) hq
           rwa [List.drop_zero,hc,← hcl,List.take_length] at this
         · cases hs
       · cases hs
     · cases hs
def FitsT (P : Program) (n : Nat) (t : TypeId) (x : RV) : Prop:=∃ ss,shape P n t = some ss ∧ if aggOf P t then ∃ xs,x = .ag xs ∧ FitsL ss xs else FitsL ss [x]
theorem arg_fits {n : Nat} {t : TypeId} {v : Value} {d : DataW H} {ps : List MemPlace} {r : Reach} {b0 : Nat} (hs : (shape P n t).isSome = true) (hval : Value.okWide P w r b0 t v) (h : DataW.Trod enc P w base spare held t v d ps) :
 ∃ x,FitsT P n t x ∧ x.rel w (old w) v:=by
 obtain ⟨ss,hss⟩:=Option.isSome_iff_exists.1 hs
 obtain ⟨fuel,hf⟩:=h
 obtain ⟨xs,f,r,o⟩:=trod_fits fuel n t _ _ ss hf hss
 have one : aggOf P t = false → v.cells.toList = [v] → ∃ x,FitsT P n t x ∧ x.rel w (old w) v:=fun ha hc=>by
  rw [hc] at r
  match xs,r with
  | [x], r =>
    simp only [RV.relV] at r
    obtain ⟨u,us,e,hr,_⟩:=r
    injection e with e1 e2
    subst e1
    exact ⟨x,⟨ss,hss,by rw [ha];exact f⟩,hr⟩
  | [],r=>simp [RV.relV] at r
  | _ :: _ :: _, r =>
    simp only [RV.relV] at r
    obtain ⟨u,us,e,_,u2,us2,e2,_⟩:=r
    injection e with _ e
    rw [e2] at e;cases e
 cases n with
 | zero=>simp [shape] at hss
 | succ n =>
   have hss':=hss
   unfold shape at hss'
   split at hss'
   · rename_i k ht
     obtain ⟨m,rfl⟩:=okWide_int ht hval
     exact one (by simp [aggOf,ht]) rfl
   · rename_i ht
     obtain ⟨b,rfl⟩:=okWide_bool ht hval
     exact one (by simp [aggOf,ht]) rfl
   · rename_i e ht
     obtain ⟨a,l,c,rfl⟩:=okWide_slice ht hval
     exact one (by simp [aggOf,ht]) rfl
   · rename_i m e ht
     obtain ⟨cs,rfl⟩ : ∃ cs,v = .agg cs:=by
      simp only [Value.okWide,ht] at hval
      obtain ⟨cs,h1,_⟩:=hval
      exact ⟨cs,h1⟩
     exact ⟨.ag xs,⟨ss,hss,by simp only [aggOf,ht,if_true];exact ⟨xs,rfl,f⟩⟩,by simp only [RV.rel];exact ⟨cs,rfl,o,r⟩⟩
   · rename_i fs ht
     obtain ⟨cs,rfl,_⟩:=okWide_struct ht hval
     exact ⟨.ag xs,⟨ss,hss,by simp only [aggOf,ht,if_true];exact ⟨xs,rfl,f⟩⟩,by simp only [RV.rel];exact ⟨cs,rfl,o,r⟩⟩
   · cases hss'
theorem fitsT_one {n : Nat} {t : TypeId} {x : RV} {s : Sh} (h : FitsT P n t x) (hs : shape P n t = some [s]) (ha : aggOf P t = false) : Fits s x:=by
 obtain ⟨s',h1,h2⟩:=h
 rw [hs] at h1;injection h1 with h1;subst h1
 rw [ha] at h2
 simp only [Bool.false_eq_true,if_false,FitsL] at h2
 obtain ⟨y,ys,e,h3,_⟩:=h2
 injection e with e1 e2
 subst e1
 exact h3
end
end Go.Oc

namespace Go.Proofs.Ytgfbenanljjgaaa.Du.Th.Ai
open Go Go.Oc
set_option maxRecDepth 8000
theorem wfq8 {n : Int} (h : (Lit.int .u8 n).wf = true) : ∃ k : Nat,n = k ∧ k < 256:=by
 simp only [Lit.wf,Bool.and_eq_true,decide_eq_true_eq] at h
 have h1 : IntKind.min .u8 = 0:=by decide
 have h2 : IntKind.max .u8 = 255:=by decide
 rw [h1,h2] at h
 obtain ⟨k,hk⟩:=Int.eq_ofNat_of_zero_le h.1
 exact ⟨k,hk,by omega⟩
theorem fitsQ86 {x : RV} (h : FitsT Try.prog 9 86 x) : ∃ w : Int,x = .it .u16 w:=by
 have:=fitsT_one (s:=.int .u16) h (by kernel_rfl) (by kernel_rfl)
 simp only [Oc.Fits] at this
 obtain ⟨m,rfl,_⟩:=this
 exact ⟨m,rfl⟩
theorem fitsQ5 {x : RV} (h : FitsT Try.prog 9 5 x) : ∃ n : Nat,x = .it .u8 (n : Int) ∧ n < 256:=by
 have:=fitsT_one (s:=.int .u8) h (by kernel_rfl) (by kernel_rfl)
 simp only [Oc.Fits] at this
 obtain ⟨n,rfl,hn⟩:=this
 obtain ⟨k,rfl,hk⟩:=wfq8 hn
 exact ⟨k,rfl,hk⟩
end Go.Proofs.Ytgfbenanljjgaaa.Du.Th.Ai

namespace Go.Proofs.Ytgfbenanljjgaaa
open Go Go.Oc
theorem law11' {x0 x1 x2 : RV} (h0 : FitsT Try.prog 9 86 x0) (h1 : FitsT Try.prog 9 5 x1) (h2 : FitsT Try.prog 9 5 x2) : ACalls Try.prog 11 [x0,x1,x2] (.bo true):=by
 obtain ⟨w,rfl⟩:=Du.Th.Ai.fitsQ86 h0
 obtain ⟨a,rfl,ka⟩:=Du.Th.Ai.fitsQ5 h1
 obtain ⟨b,rfl,kb⟩:=Du.Th.Ai.fitsQ5 h2
 exact Du.Th.Ai.law_sureleg w a b ka kb
end Go.Proofs.Ytgfbenanljjgaaa


namespace Go.Proofs.Ytgfbenanljjgaaa
open Go Go.Oc Go.ChangeShapes Go.WideShapes Go.RowKit
theorem own : ownKnob Try.prog.godebug = none := by kernel_rfl
theorem laidOut : laidOutB Try.prog = true := by kernel_rfl
set_option maxRecDepth 100000 in
theorem lifted (os : Os) (started : os.Started) (H : Type) (enc : TypeId × Value → H) :
    ReturnsInHanded {} Try.checked os 11 .any (Rows.topSureLegSpec.pre6 enc Try.prog Try.f11 Rows.topSureLegRow.domain false) (Rows.topSureLegSpec.post enc Try.prog Try.f11 false true false false) := by
  refine returnsInHanded_of_change (C := Try.checked) own started (by kernel_rfl) Try.func11
    (ChangeSpec.witness6 (enc := enc) (C := Try.checked) false ⟨#[], #[.int .u16 0, .int .u8 0, .int .u8 0], []⟩ 8 (by kernel_rfl) (by kernel_rfl) (by kernel_rfl) (by kernel_rfl)) ?_
  intro W base args ds gs before hval0 hW hcnd _
  have hval : ∀ (j : Nat) t v, Try.f11.params[j]? = some t → args[j]? = some v → Value.okWide Try.prog W .any base t v := hval0
  have hW' := hW
  obtain ⟨p, q, hA0, hV, rfl, hfz, hnd⟩ := hW
  have hA : DataW.TrodAll enc Try.prog W 0 (fun _ => true) true Try.f11.params.toList args.toList ds p := hA0
  rw [Try.params11] at hA hval
  obtain ⟨v0, vs0, d0, ds0, p0, q0, hargs, rfl, rfl, h0, r0⟩ := trodAll_cons hA
  obtain ⟨v1, vs1, d1, ds1, p1, q1, rfl, rfl, rfl, h1, r1⟩ := trodAll_cons r0
  obtain ⟨v2, vs2, d2, ds2, p2, q2, rfl, rfl, rfl, h2, r2⟩ := trodAll_cons r1
  obtain ⟨rfl, rfl, rfl⟩ := trodAll_nil r2
  obtain rfl : args = #[v0, v1, v2] := by cases args;simp_all
  obtain ⟨rfl, rfl⟩ := trodVars_none hV
  have lt0 : ∀ x ∈ p0, x.block < W.heap.size := by obtain ⟨m, hm⟩ := h0;exact DataW.trod_lt m _ _ _ hm
  have lt1 : ∀ x ∈ p1, x.block < W.heap.size := by obtain ⟨m, hm⟩ := h1;exact DataW.trod_lt m _ _ _ hm
  have lt2 : ∀ x ∈ p2, x.block < W.heap.size := by obtain ⟨m, hm⟩ := h2;exact DataW.trod_lt m _ _ _ hm
  obtain ⟨x0, g0, e0⟩ := arg_fits (n := 9) (by kernel_rfl) (hval 0 86 v0 rfl rfl) h0
  obtain ⟨x1, g1, e1⟩ := arg_fits (n := 9) (by kernel_rfl) (hval 1 5 v1 rfl rfl) h1
  obtain ⟨x2, g2, e2⟩ := arg_fits (n := 9) (by kernel_rfl) (hval 2 5 v2 rfl rfl) h2
  clear hA0 hval0
  refine ((law11' g0 g1 g2).2 W (old W) #[v0, v1, v2] (fun _ h => h) (by simp only [RV.relV];exact ⟨_, _, rfl, e0, _, _, rfl, e1, _, _, rfl, e2, rfl⟩)).mono fun e W' he => ?_
  obtain ⟨v, R', rfl, bel, _, _, _, hr⟩ := he
  simp only [RV.rel] at hr
  subst hr
  exact ⟨_, rfl, _, _, _, [], _, [], hW', trodAll_mk1 (shut_bool Try.underlying4 _), (trodAll_cons_mk (Below.trod laidOut (by kernel_rfl) (of_decide_eq_true (by kernel_rfl)) h0 bel lt0) (trodAll_cons_mk (Below.trod laidOut (by kernel_rfl) (of_decide_eq_true (by kernel_rfl)) h1 bel lt1) (trodAll_cons_mk (Below.trod laidOut (by kernel_rfl) (of_decide_eq_true (by kernel_rfl)) h2 bel lt2) trodAll_mk0))), rfl, bel.frame _, fun h => by cases h⟩
theorem over : Rows.topSureLegRow.holds Try.pinned (OpenSpec.ofChange Rows.topSureLegSpec) :=
  OpenClaim.holds_of_wide 11 Try.f11 rfl rfl rfl rfl rfl rfl rfl ⟨rfl, rfl, rfl, rfl, rfl⟩ rfl rfl rfl rfl rfl (by kernel_rfl) Try.func11 (by kernel_rfl)
    (of_decide_eq_true (by kernel_rfl)) (by unfold Func.isWrapper;first | (rw [if_pos (by decide +kernel)];kernel_rfl) | (rw [if_neg (by decide +kernel)];exact ⟨rfl, rfl⟩))
    (fun os started H enc _ => lifted os started H enc)
theorem topSureLeg_holds : Rows.TopSureLegSaid := over
#print axioms topSureLeg_holds
end Go.Proofs.Ytgfbenanljjgaaa
