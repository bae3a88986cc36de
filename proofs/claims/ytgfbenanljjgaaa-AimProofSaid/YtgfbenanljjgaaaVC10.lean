/- For all rules, the given function AimProof returns true: the inequalities of both tables hold; with one number changed by one to the wrong side the inequality of this score is the first one that does not. No conditions beyond those of the given statement. -/
import Derived.Test.YtgfbenanljjgaaaVC9
import Derived.Test.YtgfbenanljjgaaaVC6
import Derived.Test.YtgfbenanljjgaaaVC7
import Derived.Test.YtgfbenanljjgaaaVC5
import Derived.ChangeShapes
import Derived.WideShapes
import Derived.OpenShut
import Derived.ShutString
import Derived.ChangeOld
import Derived.Carry
import Derived.Below
import Derived.Test.YtgfbenanljjgaaaRows
import Derived.JoinedOf
namespace Go.Proofs.Ytgfbenanljjgaaa.Du.Th
open Go Go.Oc
set_option linter.unusedSimpArgs false
set_option linter.unusedVariables false
set_option maxRecDepth 8000
instance : DecidableEq Bd:=fun a b=>decidable_of_iff (a.b = b.b ∧ a.lo = b.lo ∧ a.hi = b.hi) (by cases a; cases b; simp)
instance : DecidableEq Am:=fun a b=>decidable_of_iff (a.at_ = b.at_ ∧ a.beds = b.beds) (by cases a; cases b; simp)
theorem any_step {α : Type} {p : α → Bool} {l : List α} {k : Nat} {y : α} (hy : l[k]? = some y) : (l.take (k + 1)).any p = ((l.take k).any p || p y):=by rw [take_of_opt hy]; simp
theorem any_of {α : Type} {p : α → Bool} {l : List α} {k : Nat} {y : α} (hy : l[k]? = some y) (h : p y = true) : l.any p = true:=List.any_eq_true.2 ⟨y,mem_of_opt hy,h⟩
def greatL (l : List Am) : Bool:=decide (22 < l.length) || l.any fun a=>decide (12 < a.beds.length)
theorem alike_ok (a b : List Int) : ACalls Try.prog 23 [ints a,ints b] (.bo (decide (a = b))):=by
 refine acalls_st (rs:=[.bo (decide (a = b))]) [.tmp 4] Try.func23 rfl (by kernel_rfl) Try.ntmps23 rfl (by simp) rfl fun C vs=>?_
 repeat refine zq ?_
 refine zb fun K hK=>?_;simp only [go_sem];(try simp (disch:=omega) only [zI]);repeat first | intro _ | refine ⟨by omega,?_⟩
 refine hK _ ?_;clear hK K;refine zw (zk [0,1]) ?_;simp only [go_sem]
 repeat refine zq ?_
 refine zb fun K hK=>?_;simp only [go_sem];(try simp (disch:=omega) only [zI])
 intro hla hlb
 by_cases h1 : a.length = b.length
 case neg =>
  have e4 : ((a.length : Int) != b.length) = true:=by simp; omega
  rw [e4]
  repeat first | intro _ | refine ⟨by omega,?_⟩
  refine hK _ ?_;clear hK K
  repeat refine zq ?_
  refine zc rfl (fun hc=>?_) (fun hc=>?_) <;> (try simp only [go_sem] at hc)
  repeat refine zq ?_
  refine zb fun K hK=>?_;simp only [go_sem];(try simp (disch:=omega) only [zI]);repeat first | intro _ | refine ⟨by omega,?_⟩
  refine hK _ ?_;clear hK K;refine ze ?_;simp only [go_sem]
  simp
  exact fun h=>h1 (by rw [h])
 have e4 : ((a.length : Int) != b.length) = false:=by simp [h1]
 rw [e4]
 repeat first | intro _ | refine ⟨by omega,?_⟩
 refine hK _ ?_;clear hK K;refine zw (zk [0,1,10]) ?_;simp only [go_sem]
 repeat refine zq ?_
 refine zc rfl (fun hc=>?_) (fun hc=>?_) <;> (try simp only [go_sem] at hc)
 refine zx ?_
 try simp only [go_sem]
 repeat refine zq ?_
 refine zb fun K hK=>?_;simp only [go_sem];(try simp (disch:=omega) only [zI]);repeat first | intro _ | refine ⟨by omega,?_⟩
 refine hK _ ?_;clear hK K;refine zw (zk [0,1,5]) ?_;simp only [go_sem]
 repeat refine zq ?_
 refine zd ?_
 refine awp_upto (n:=26) a.length (fun i vs=>[(0,.r (ints a)),(1,.r (ints b)),(5,.r (i64 i))])
  (fun i=>[]) (fun i=>a.take i = b.take i) 0 (fit_of [] ?_ ?_) (Nat.zero_le _) (by simp) ?_
 · try simp only [go_sem]
 · try simp only [go_sem]
 · intro i vs hi hI
   repeat refine zq ?_
   refine zb fun K hK=>?_;simp only [go_sem];(try simp (disch:=omega) only [zI]);repeat first | intro _ | refine ⟨by omega,?_⟩
   refine hK _ ?_;clear hK K;refine zw (zk [0,1,5,14]) ?_;simp only [go_sem]
   repeat refine zq ?_
   refine zc rfl (fun hc=>?_) (fun hc=>?_) <;> (try simp only [go_sem] at hc)
   · skip
     have hci : i < a.length:=by omega
     have hc2 : i < b.length:=by omega
     obtain ⟨u,hu⟩:=opt_of_lt hci
     obtain ⟨v,hv⟩:=opt_of_lt hc2
     refine zx ?_
     try simp only [go_sem]
     repeat refine zq ?_
     refine zd ?_
     repeat refine zq ?_
     refine zg follows (by decide +kernel) (by kernel_rfl) fun K hK=>?_;simp only [go_sem,hu,hv,hci,hc2];(try simp (disch:=omega) only [zI]);repeat first | intro _ | refine ⟨by omega,?_⟩
     refine hK _ ?_;clear hK K
     by_cases huv : u = v
     · have e6 : (u != v) = false:=by simp [huv]
       rw [e6]
       repeat refine zq ?_
       refine zc rfl (fun hc=>?_) (fun hc=>?_) <;> (try simp only [go_sem] at hc)
       refine zx ?_
       try simp only [go_sem]
       repeat refine zq ?_
       refine zb fun K hK=>?_;simp only [go_sem];(try simp (disch:=omega) only [zI]);repeat first | intro _ | refine ⟨by omega,?_⟩
       refine hK _ ?_;clear hK K
       try simp only [go_sem]
       refine ⟨hci,?_,fit_of [] ?_ ?_⟩
       · rw [take_of_opt hu,take_of_opt hv,hI,huv]
       · try simp only [go_sem]
       · try simp only [go_sem]
     · have e6 : (u != v) = true:=by simp [huv]
       rw [e6]
       repeat refine zq ?_
       refine zc rfl (fun hc=>?_) (fun hc=>?_) <;> (try simp only [go_sem] at hc)
       repeat refine zq ?_
       refine zb fun K hK=>?_;simp only [go_sem];(try simp (disch:=omega) only [zI]);repeat first | intro _ | refine ⟨by omega,?_⟩
       refine hK _ ?_;clear hK K;refine ze ?_;simp only [go_sem]
       simp
       rintro rfl
       rw [hu] at hv
       injection hv with hv
       exact huv hv
   · skip
     refine zf ?_;simp only [go_sem]
     repeat refine zq ?_
     refine zb fun K hK=>?_;simp only [go_sem];(try simp (disch:=omega) only [zI]);repeat first | intro _ | refine ⟨by omega,?_⟩
     refine hK _ ?_;clear hK K;refine zw (zk [4]) ?_;simp only [go_sem];refine ze ?_;simp only [go_sem]
     have : i = a.length:=by omega
     subst this
     have hab : a = b:=by rwa [List.take_length,h1,List.take_length] at hI
     simp [hab]
theorem eqT68 : eqN Try.prog 68 = some 3:=by kernel_rfl
end Go.Proofs.Ytgfbenanljjgaaa.Du.Th

namespace Go.Proofs.Ytgfbenanljjgaaa.Du.Th.Ai
open Go Go.Oc
set_option linter.unusedSimpArgs false
set_option linter.unusedVariables false
set_option maxRecDepth 8000
set_option maxHeartbeats 8000000
def dblB (b : Bool) : List Bd:=if b then [⟨0,0,1⟩,⟨101,0,1⟩,⟨201,1,1⟩] else [⟨0,1,1⟩,⟨201,1,1⟩]
def dbl (st : Int) (b : Bool) : Rk:=⟨2,[⟨201,dblB b⟩],st,1⟩
theorem double_ok (st : Int) (b : Bool) : ACalls Try.prog 53 [i64 st,.bo b] (rkR (dbl st b)):=by
 refine acalls_st (rs:=[rkR (dbl st b)]) [.cell 4 27] Try.func53 rfl (by kernel_rfl) Try.ntmps53 rfl (by simp) rfl fun C vs=>?_
 refine zq ?_
 refine zb fun K hK=>?_;simp only [go_sem];refine hK _ ?_;clear hK K;refine zw (zk [0,1,4]) ?_;simp only [go_sem]
 cases b
 · refine zq ?_
   refine zb fun K hK=>?_;simp only [go_sem];refine hK _ ?_;clear hK K;refine zw (zk [0,1,4,5]) ?_;simp only [go_sem]
   repeat refine zq ?_
   refine zb fun K hK=>?_;simp only [go_sem];refine hK _ ?_;clear hK K;refine zw (zk [0,4,5,11]) ?_;simp only [go_sem]
   refine zc rfl (fun hc=>?_) (fun hc=>?_) <;> (try simp only [go_sem] at hc)
   refine zx ?_
   try simp only [go_sem]
   refine zq ?_
   refine zb fun K hK=>?_;simp only [go_sem];refine hK _ ?_;clear hK K;refine zw (zk [4]) ?_;simp only [go_sem];refine ze ?_;simp only [go_sem];exact ⟨rfl,rfl,rfl,rfl⟩
 · refine zq ?_
   refine zb fun K hK=>?_;simp only [go_sem];refine hK _ ?_;clear hK K;refine zw (zk [0,1,4,5]) ?_;simp only [go_sem]
   repeat refine zq ?_
   refine zb fun K hK=>?_;simp only [go_sem];refine hK _ ?_;clear hK K;refine zw (zk [0,4,5,11]) ?_;simp only [go_sem]
   refine zc rfl (fun hc=>?_) (fun hc=>?_) <;> (try simp only [go_sem] at hc)
   refine zb fun K hK=>?_;simp only [go_sem];refine hK _ ?_;clear hK K;refine zw (zk [0,4,5]) ?_;simp only [go_sem]
   refine zq ?_
   refine zb fun K hK=>?_;simp only [go_sem];refine hK _ ?_;clear hK K;refine zw (zk [4]) ?_;simp only [go_sem];refine ze ?_;simp only [go_sem];exact ⟨rfl,rfl,rfl,rfl⟩
theorem dbl_ok32 : ROk (dbl 3 false):=(checkR_zero (by decide +kernel)).2
theorem dbl_ok22 : ROk (dbl 2 false):=(checkR_zero (by decide +kernel)).2
theorem dbl_ok2t : ROk (dbl 2 true):=(checkR_zero (by decide +kernel)).2
theorem vok_list {l : List Int} (h : l.all (fun x=>decide (0 ≤ x) && decide (x ≤ 1000000000) || decide (x = 2000000000)) = true) : ∀ x ∈ l,VOk x:=fun x hx=>by
 have:=List.all_eq_true.1 h x hx
 simp at this
 exact this
theorem u3 : tabT (dbl 3 false) false = [0,0,1142858,2000000000]:=by
 have h1 : numA (dbl 3 false) false [0,0,0,0] 2 = 1142858:=numA_upper dbl_ok32 (vok_list (by decide)) (by decide) (by decide) (by omega) (by decide +kernel) (.inr (by decide +kernel))
 have h2 : numA (dbl 3 false) false [0,0,1142858,0] 3 = 2000000000:=numA_never dbl_ok32 (vok_list (by decide)) (by decide) (by decide) (by decide +kernel)
 show (([0,0,0,0] : List Int).set 2 (numA (dbl 3 false) false [0,0,0,0] 2)).set 3 (numA (dbl 3 false) false (([0,0,0,0] : List Int).set 2 (numA (dbl 3 false) false [0,0,0,0] 2)) 3) = _
 rw [h1]
 show ([0,0,1142858,0] : List Int).set 3 (numA (dbl 3 false) false [0,0,1142858,0] 3) = _
 rw [h2]; rfl
theorem l3 : tabT (dbl 3 false) true = [0,0,1142857,1000000000]:=by
 have h1 : numA (dbl 3 false) true [0,0,0,0] 2 = 1142857:=numA_lower dbl_ok32 (vok_list (by decide)) (by decide) (by decide) (by omega) (.inr (by decide +kernel)) (.inr (by decide +kernel))
 have h2 : numA (dbl 3 false) true [0,0,1142857,0] 3 = 1000000000:=numA_lower dbl_ok32 (vok_list (by decide)) (by decide) (by decide) (by omega) (.inr (by decide +kernel)) (.inl rfl)
 show (([0,0,0,0] : List Int).set 2 (numA (dbl 3 false) true [0,0,0,0] 2)).set 3 (numA (dbl 3 false) true (([0,0,0,0] : List Int).set 2 (numA (dbl 3 false) true [0,0,0,0] 2)) 3) = _
 rw [h1]
 show ([0,0,1142857,0] : List Int).set 3 (numA (dbl 3 false) true [0,0,1142857,0] 3) = _
 rw [h2]; rfl
theorem u2t : tabT (dbl 2 true) false = [0,0,2000000]:=by
 have h1 : numA (dbl 2 true) false [0,0,0] 2 = 2000000:=numA_upper dbl_ok2t (vok_list (by decide)) (by decide) (by decide) (by omega) (by decide +kernel) (.inr (by decide +kernel))
 show ([0,0,0] : List Int).set 2 (numA (dbl 2 true) false [0,0,0] 2) = _
 rw [h1]; rfl
theorem l2t : tabT (dbl 2 true) true = [0,0,1142857]:=by
 have h1 : numA (dbl 2 true) true [0,0,0] 2 = 1142857:=numA_lower dbl_ok2t (vok_list (by decide)) (by decide) (by decide) (by omega) (.inr (by decide +kernel)) (.inr (by decide +kernel))
 show ([0,0,0] : List Int).set 2 (numA (dbl 2 true) true [0,0,0] 2) = _
 rw [h1]; rfl
theorem u2 : tabT (dbl 2 false) false = [0,0,1142858]:=by
 have h1 : numA (dbl 2 false) false [0,0,0] 2 = 1142858:=numA_upper dbl_ok22 (vok_list (by decide)) (by decide) (by decide) (by omega) (by decide +kernel) (.inr (by decide +kernel))
 show ([0,0,0] : List Int).set 2 (numA (dbl 2 false) false [0,0,0] 2) = _
 rw [h1]; rfl
theorem aim2 : aimQ (dbl 2 false) ⟨2,2,1⟩ = (0,571429,0):=by
 unfold aimQ
 rw [u2]
 decide +kernel
theorem nev3 : nevL (dbl 3 false) (tabT (dbl 3 false) false) (cntA (dbl 3 false)) = [3]:=by
 rw [u3]
 decide +kernel
theorem wf_dbl (st : Int) (b : Bool) : WfL (dbl st b).d (dbl st b).aims:=by
 refine ⟨⟨by show (_ : Int) ≤ 2; omega,by show (2 : Int) ≤ _; omega⟩,fun a ha=>?_⟩
 simp only [dbl,List.mem_singleton] at ha
 subst ha
 refine ⟨⟨by show (_ : Int) ≤ 201; omega,by show (201 : Int) ≤ _; omega⟩,?_⟩
 cases b <;> intro x hx <;> simp [dblB] at hx <;> (first | (rcases hx with rfl | rfl | rfl) | (rcases hx with rfl | rfl)) <;> exact ⟨⟨by simp,by simp⟩,⟨by simp,by simp⟩,⟨by simp,by simp⟩⟩
theorem table_at {r : Rk} {u l : List Int} (hw : WfL r.d r.aims) (h0 : checkR r = 0) (hu : tabT r false = u) (hl : tabT r true = l) : ACalls Try.prog 17 [rkR r] (.tu [ints u,ints l,i64 0]):=by
 have:=table_ok r hw
 rw [h0,if_pos rfl,if_pos rfl,hu,hl] at this
 exact this
theorem known_ok : ACalls Try.prog 14 [] (.bo true):=by
 have d3:=double_ok 3 false
 have d2t:=double_ok 2 true
 have d2:=double_ok 2 false
 have t3:=table_at (wf_dbl 3 false) (by decide +kernel) u3 l3
 have t2:=table_at (wf_dbl 2 true) (by decide +kernel) u2t l2t
 have a2:=aim_ok (dbl 2 false) ⟨2,2,1⟩ (wf_dbl 2 false)
 rw [aim2] at a2
 have n3:=never_ok (dbl 3 false) (wf_dbl 3 false)
 rw [nev3,show checkR (dbl 3 false) = 0 by decide +kernel,if_pos rfl] at n3
 have k1:=alike_ok [0,0,1142858,2000000000] [0,0,1142858,2000000000]
 have k2:=alike_ok [0,0,1142857,1000000000] [0,0,1142857,1000000000]
 have k3:=alike_ok [0,0,2000000] [0,0,2000000]
 have k4:=alike_ok [0,0,1142857] [0,0,1142857]
 have k5:=alike_ok [3] [3]
 rw [decide_eq_true rfl] at k1 k2 k3 k4 k5
 generalize dbl 3 false = R3 at *
 generalize dbl 2 true = R2t at *
 generalize dbl 2 false = R2 at *
 refine acalls_st (rs:=[.bo true]) [.tmp 0] Try.func14 rfl (by kernel_rfl) Try.ntmps14 rfl (by simp) rfl fun C vs=>?_
 refine zq ?_
 refine zb fun K hK=>?_;simp only [go_sem];refine hK _ ?_;clear hK K
 refine zq ?_
 refine zb fun K hK=>?_;simp only [go_sem]
 refine zh (d3) rfl (by simp only [go_sem,i64,ints]) (by simp only [go_sem,i64,ints]) (by first | exact .inl rfl | exact .inr rfl) ?_
 (try simp only [go_sem])
 refine zh (t3) rfl (by simp only [go_sem,i64,ints]) (by simp only [go_sem,i64,ints]) (by first | exact .inl rfl | exact .inr rfl) ?_
 (try simp only [go_sem]);refine hK _ ?_;clear hK K;refine zw (zk [1,2,3]) ?_;simp only [go_sem]
 refine zq ?_
 refine zb fun K hK=>?_;simp only [go_sem]
 refine zh (d2t) rfl (by simp only [go_sem,i64,ints]) (by simp only [go_sem,i64,ints]) (by first | exact .inl rfl | exact .inr rfl) ?_
 (try simp only [go_sem])
 refine zh (t2) rfl (by simp only [go_sem,i64,ints]) (by simp only [go_sem,i64,ints]) (by first | exact .inl rfl | exact .inr rfl) ?_
 (try simp only [go_sem]);refine hK _ ?_;clear hK K;refine zw (zk [1,2,3,4,5,6]) ?_;simp only [go_sem]
 refine zq ?_
 refine zb fun K hK=>?_;simp only [go_sem]
 refine zh (d2) rfl (by simp only [go_sem,i64,ints]) (by simp only [go_sem,i64,ints]) (by first | exact .inl rfl | exact .inr rfl) ?_
 (try simp only [go_sem])
 refine zh (a2) rfl (by simp only [go_sem,i64,ints]) (by simp only [go_sem,i64,ints]) (by first | exact .inl rfl | exact .inr rfl) ?_
 (try simp only [go_sem]);refine hK _ ?_;clear hK K;refine zw (zk [1,2,3,4,5,6,7,8,9]) ?_;simp only [go_sem]
 refine zq ?_
 refine zb fun K hK=>?_;simp only [go_sem]
 refine zh (d3) rfl (by simp only [go_sem,i64,ints]) (by simp only [go_sem,i64,ints]) (by first | exact .inl rfl | exact .inr rfl) ?_
 (try simp only [go_sem])
 refine zh (n3) rfl (by simp only [go_sem,i64,ints]) (by simp only [go_sem,i64,ints]) (by first | exact .inl rfl | exact .inr rfl) ?_
 (try simp only [go_sem]);refine hK _ ?_;clear hK K;refine zw (zk [1,2,3,4,5,6,7,8,9,10,11]) ?_;simp only [go_sem]
 refine zq ?_
 refine zb fun K hK=>?_;simp only [go_sem]
 refine zh (k1) rfl (by simp only [go_sem,i64,ints]) (by simp only [go_sem,i64,ints]) (by first | exact .inl rfl | exact .inr rfl) ?_
 (try simp only [go_sem])
 refine zh (k2) rfl (by simp only [go_sem,i64,ints]) (by simp only [go_sem,i64,ints]) (by first | exact .inl rfl | exact .inr rfl) ?_
 (try simp only [go_sem])
 refine zh (k3) rfl (by simp only [go_sem,i64,ints]) (by simp only [go_sem,i64,ints]) (by first | exact .inl rfl | exact .inr rfl) ?_
 (try simp only [go_sem])
 refine zh (k4) rfl (by simp only [go_sem,i64,ints]) (by simp only [go_sem,i64,ints]) (by first | exact .inl rfl | exact .inr rfl) ?_
 (try simp only [go_sem])
 refine zh (k5) rfl (by simp only [go_sem,i64,ints]) (by simp only [go_sem,i64,ints]) (by first | exact .inl rfl | exact .inr rfl) ?_
 (try simp only [go_sem]);refine hK _ ?_;clear hK K;refine zw (zk [0]) ?_;simp only [go_sem];refine ze ?_;simp only [go_sem]
theorem equalT_ok (r : Rk) : ACalls Try.prog 19 [rkR r,rkR r] (.bo true):=by
 refine acalls_st (rs:=[.bo true]) [.tmp 4] Try.func19 rfl (by kernel_rfl) Try.ntmps19 rfl (by simp) rfl fun C vs=>?_
 refine zq ?_
 refine zb fun K hK=>?_;simp only [go_sem];refine hK _ ?_;clear hK K;refine zw (sub_frzP 2 2 [i64 r.d,aimsR r.aims,i64 r.start,i64 r.out] (by omega) rfl rfl) ?_;refine zw (sub_frzP 3 3 [i64 r.d,aimsR r.aims,i64 r.start,i64 r.out] (by omega) rfl rfl) ?_;refine zw (zk [2,3]) ?_;simp only [go_sem]
 repeat refine zq ?_
 refine zb fun K hK=>?_;simp only [go_sem,bne_self_eq_false,List.length_map]
 (try intros)
 refine hK _ ?_;clear hK K;refine zw (zk [2,3,40]) ?_;simp only [go_sem]
 refine zc rfl (fun hc=>?_) (fun hc=>?_) <;> (try simp only [go_sem] at hc)
 refine zx ?_
 try simp only [go_sem]
 repeat refine zq ?_
 refine zb fun K hK=>?_;simp only [go_sem];refine hK _ ?_;clear hK K;refine zw (zk [2,3,5]) ?_;simp only [go_sem];refine zd ?_
 refine awp_upto (n:=93) r.aims.length (fun i vs=>[(2,.r (.rp [i64 r.d,aimsR r.aims,i64 r.start,i64 r.out])),(3,.r (.rp [i64 r.d,aimsR r.aims,i64 r.start,i64 r.out])),(5,.r (i64 (i : Int)))]) (fun _=>[]) (fun _=>True) 0 (fit_of [] ?_ ?_) (Nat.zero_le _) trivial ?_
 · try simp only [go_sem]
 · try simp only [go_sem]
 intro i vs hi _
 repeat refine zq ?_
 refine zb fun K hK=>?_;simp only [go_sem,List.length_map]
 intro _
 refine hK _ ?_;clear hK K;refine zw (zk [2,3,5,46]) ?_;simp only [go_sem]
 refine zc rfl (fun hc=>?_) (fun hc=>?_) <;> (try simp only [go_sem] at hc)
 · have hci : i < r.aims.length:=by omega
   obtain ⟨a,ha⟩:=opt_of_lt hci
   refine zx ?_
   try simp only [go_sem]
   refine zq ?_
   refine zd ?_
   refine zq ?_
   refine awp_dreg2 [(2,none),(3,none),(5,none)] follows (by decide +kernel) (by kernel_rfl) (by simp only [keysOk,List.mem_cons,List.not_mem_nil,forall_eq_or_imp,Oc.keyOf,go_sem]; simp) fun K hK=>?_
   simp only [go_sem,ha,hci,Du.aimR];refine hK _ ?_;clear hK K;refine zw (sub_frzP 6 6 [i64 a.at_,bedsR a.beds] (by omega) (by try simp only [go_sem]) (by try simp only [go_sem])) ?_;refine zw (sub_frzP 7 7 [i64 a.at_,bedsR a.beds] (by omega) (by try simp only [go_sem]) (by try simp only [go_sem])) ?_;refine zw (zk [2,3,5,6,7]) ?_;simp only [go_sem]
   repeat refine zq ?_
   refine zb fun K hK=>?_;simp only [go_sem,bne_self_eq_false]
   (try intros)
   refine hK _ ?_;clear hK K;refine zw (zk [2,3,5,6,7,74]) ?_;simp only [go_sem]
   refine zc rfl (fun hc=>?_) (fun hc=>?_) <;> (try simp only [go_sem] at hc)
   refine zx ?_
   try simp only [go_sem]
   refine zq ?_
   refine zb fun K hK=>?_;simp only [go_sem];refine hK _ ?_;clear hK K;refine zw (zk [2,3,5,6,7,8]) ?_;simp only [go_sem];refine zd ?_
   refine awp_upto (n:=93) a.beds.length (fun k vs=>[(2,.r (.rp [i64 r.d,aimsR r.aims,i64 r.start,i64 r.out])),(3,.r (.rp [i64 r.d,aimsR r.aims,i64 r.start,i64 r.out])),(5,.r (i64 (i : Int))),(6,.r (.rp [i64 a.at_,bedsR a.beds])),(7,.r (.rp [i64 a.at_,bedsR a.beds])),(8,.r (i64 (k : Int)))]) (fun _=>[]) (fun _=>True) 0 (fit_of [] ?_ ?_) (Nat.zero_le _) trivial ?_
   · try simp only [go_sem]
   · try simp only [go_sem]
   intro k vs hk _
   repeat refine zq ?_
   refine zb fun K hK=>?_;simp only [go_sem,List.length_map]
   intro _
   refine hK _ ?_;clear hK K;refine zw (zk [2,3,5,6,7,8,79]) ?_;simp only [go_sem]
   refine zc rfl (fun hc=>?_) (fun hc=>?_) <;> (try simp only [go_sem] at hc)
   · have hck : k < a.beds.length:=by omega
     obtain ⟨b,hb⟩:=opt_of_lt hck
     have hT:=eqT68
     refine zx ?_
     try simp only [go_sem]
     refine zq ?_
     refine zd ?_
     refine zq ?_
     refine zg follows (by decide +kernel) (by kernel_rfl) fun K hK=>?_;simp only [go_sem,hb,hck,bedR,hT,cmpL,eq_self,if_true,List.length_cons,List.length_nil];refine hK _ ?_;clear hK K;refine zw (zk [2,3,5,6,7,8,92]) ?_;simp only [go_sem]
     refine zc rfl (fun hc=>?_) (fun hc=>?_) <;> (try simp only [go_sem] at hc)
     · exfalso; simp at hc
     refine zx ?_
     try simp only [go_sem]
     refine zb fun K hK=>?_;simp only [go_sem];(try simp (disch:=omega) only [zI]);refine hK _ ?_;clear hK K
     try simp only [go_sem]
     refine ⟨hck,fit_of [] ?_ ?_⟩
     · try simp only [go_sem]
     · try simp only [go_sem]
   · refine zf ?_;simp only [go_sem];refine zb fun K hK=>?_;simp only [go_sem];(try simp (disch:=omega) only [zI]);refine hK _ ?_;clear hK K
     try simp only [go_sem]
     refine ⟨hci,fit_of [] ?_ ?_⟩
     · try simp only [go_sem]
     · try simp only [go_sem]
 · refine zf ?_;simp only [go_sem]
   refine zq ?_
   refine zb fun K hK=>?_;simp only [go_sem];refine hK _ ?_;clear hK K;refine zw (zk [4]) ?_;simp only [go_sem];refine ze ?_;simp only [go_sem]
end Go.Proofs.Ytgfbenanljjgaaa.Du.Th.Ai

namespace Go.Oc
open Go Go.RowKit
theorem gop_eqnilB {P : Program} {s : AS} {o : Oper} {K : AS → Prop} {x : Operand} {t t' : TypeId} (ho : o.op = .binOp .eql t x (.const (.slice none 0 0)) t') {e esz eb : Nat} {ez : List RV} {ssz : Nat} {sagg : Bool} {sz0 : List RV}
 (e1 : tyq P t = some ⟨.slice e esz eb ez,ssz,sagg,sz0⟩) {sz : Nat} {es : List (List RV)} (hx : s.ev x = .r (.sl sz es)) (hK : K (s.put o.dst (.r (.bo false)))) (hK1 : es = [] → K (s.put o.dst (.r (.bo true)))) : gop P o K s:=by
 intro C p a w h hd hnd KW Q hKW
 obtain ⟨hu,_⟩:=tyq_slice e1
 have hxv:=h.ev x
 rw [hx] at hxv
 simp only [AV.rel,RV.rel] at hxv
 obtain ⟨A,c,hxv,_,_,hA⟩:=hxv
 have hc : a.eval (.const (.slice none 0 0)) = .slice none 0 0:=rfl
 cases A with
 | some ad =>
   have hq : ∀ d : Nat,(Op.equalIn (d + 1) t (.slice (some ad) es.length c) (.slice none 0 0)).run P w = .ok false w:=fun d=>by
    simp only [Op.equalIn,Sem.run_bind,run_underlying hu,Result.andThen_ok,Sem.run_pure]
   have hr : (execOp a.eval o).run P w = .ok (.value (.bool false)) w:=by
    have hq' : (Op.equal t (.slice (some ad) es.length c) (.slice none 0 0)).run P w = .ok false w:=hq 9999
    have hg : (eqGuard .eql t x (.const (.slice none 0 0)) (.slice (some ad) es.length c) (.slice none 0 0)).run P w = .ok () w:=by
     unfold eqGuard
     split <;> simp
    simp [execOp,ho,hxv,hc,hg,Go.binOp,hq']
   refine wpIn_of_wp hnd ?_
   unfold Oper.wp
   rw [hr]
   have hput:=h.put' (d:=o.dst) (av:=.r (.bo false)) (v:=.bool false) (by simp only [AV.rel,RV.rel]) hd
   exact hKW _ _ p _ hput (by cases o.dst <;> rfl) hK
 | none =>
   have he : es = []:=by
    by_cases h0 : es = []
    · exact h0
    · obtain ⟨ad,h1,_⟩:=hA h0
      cases h1
   have hq : ∀ d : Nat,(Op.equalIn (d + 1) t (.slice none es.length c) (.slice none 0 0)).run P w = .ok true w:=fun d=>by
    simp only [Op.equalIn,Sem.run_bind,run_underlying hu,Result.andThen_ok,Sem.run_pure]
    rfl
   have hr : (execOp a.eval o).run P w = .ok (.value (.bool true)) w:=by
    have hq' : (Op.equal t (.slice none es.length c) (.slice none 0 0)).run P w = .ok true w:=hq 9999
    have hg : (eqGuard .eql t x (.const (.slice none 0 0)) (.slice none es.length c) (.slice none 0 0)).run P w = .ok () w:=by
     unfold eqGuard
     split <;> simp
    simp [execOp,ho,hxv,hc,hg,Go.binOp,hq']
   refine wpIn_of_wp hnd ?_
   unfold Oper.wp
   rw [hr]
   have hput:=h.put' (d:=o.dst) (av:=.r (.bo true)) (v:=.bool true) (by simp only [AV.rel,RV.rel]) hd
   exact hKW _ _ p _ hput (by cases o.dst <;> rfl) (hK1 he)
end Go.Oc
namespace Go.Proofs.Ytgfbenanljjgaaa.Du.Th.Ai
open Go Go.Oc
set_option linter.unusedSimpArgs false
set_option linter.unusedVariables false
set_option maxRecDepth 8000
set_option maxHeartbeats 8000000
theorem clone_ok (l : List Int) (hl : l.length ≤ 1000) : ACalls Try.prog 65 [ints l] (ints l):=by
 refine acalls_st (rs:=[ints l]) [.tmp 2] Try.func65 rfl (by kernel_rfl) Try.ntmps65 rfl (by simp) rfl fun C vs=>?_
 refine zq ?_
 refine zb fun K hK=>?_;simp only [go_sem];refine hK _ ?_;clear hK K;refine zw (zk [0]) ?_;simp only [go_sem]
 repeat refine zq ?_
 refine awp_long ?_
 refine sops_take 1 (by kernel_rfl) fun K hK=>?_
 simp only [go_sem,List.take_succ_cons,List.take_zero,List.drop_succ_cons,List.drop_zero,List.append_eq,List.cons_append,List.nil_append]
 refine hK _ rfl ?_
 clear hK K
 refine sops_gop rfl (by intro t h; injection h with h; subst h; show 4 < 8; decide) (by intro c h; cases h) (gop_eqnilB rfl ty33 (sz:=1) (es:=l.map fun x=>[i64 x]) (by simp only [go_sem]) ?_ fun he=>?_)
 · try simp only [go_sem]
   refine sops_end (by kernel_rfl) fun K hK=>?_
   simp only [go_sem,List.drop_succ_cons,List.drop_zero,List.append_eq,List.cons_append,List.nil_append];refine hK _ ?_;clear hK K;refine zw (zk [0,4]) ?_;simp only [go_sem]
   refine zc rfl (fun hc=>?_) (fun hc=>?_) <;> (try simp only [go_sem] at hc)
   refine zx ?_
   try simp only [go_sem]
   refine zq ?_
   refine zb fun K hK=>?_;simp only [go_sem,List.length_map]
   (try intros)
   (try refine ⟨⟨by omega,by omega⟩,?_⟩)
   refine hK _ ?_;clear hK K;refine zw (zk [2]) ?_;simp only [go_sem];refine ze ?_;simp only [go_sem]
 · try simp only [go_sem]
   refine sops_end (by kernel_rfl) fun K hK=>?_
   simp only [go_sem,List.drop_succ_cons,List.drop_zero,List.append_eq,List.cons_append,List.nil_append];refine hK _ ?_;clear hK K;refine zw (zk [0,4]) ?_;simp only [go_sem]
   refine zc rfl (fun hc=>?_) (fun hc=>?_) <;> (try simp only [go_sem] at hc)
   refine zq ?_
   refine zb fun K hK=>?_;simp only [go_sem];refine hK _ ?_;clear hK K;refine zw (zk [2]) ?_;simp only [go_sem];refine ze ?_;simp only [go_sem];exact he
def isN (s : Bool) (n : Int) : Bool:=decide (0 ≤ n ∧ n ≤ 1000000000) || (decide (n = 2000000000) && !s)
theorem isN_ok (s : Bool) (n : Int) : ACalls Try.prog 69 [.bo s,i64 n] (.bo (isN s n)):=by
 have ha:=awithin_ok 0 1000000000 [n]
 have ea : withinL 0 1000000000 [n] = decide (0 ≤ n ∧ n ≤ 1000000000):=by simp [withinL]
 rw [ea] at ha
 refine acalls_st (rs:=[.bo (isN s n)]) [.tmp 4] Try.func69 rfl (by kernel_rfl) Try.ntmps69 rfl (by simp) rfl fun C vs=>?_
 refine zq ?_
 refine zb fun K hK=>?_;simp only [go_sem];refine hK _ ?_;clear hK K;refine zw (zk [0,1]) ?_;simp only [go_sem]
 by_cases h0 : 0 ≤ n ∧ n ≤ 1000000000
 · rw [decide_eq_true h0] at ha
   refine zq ?_
   refine zb fun K hK=>?_;simp only [go_sem]
   refine zh (ha) rfl (by simp only [go_sem,i64,ints]) (by simp only [go_sem,i64,ints]) (by first | exact .inl rfl | exact .inr rfl) ?_
   (try simp only [go_sem]);refine hK _ ?_;clear hK K;refine zw (zk [4]) ?_;simp only [go_sem];refine ze ?_;simp only [go_sem]
   simp [isN,h0]
 · rw [decide_eq_false h0] at ha
   by_cases h1 : n = 2000000000
   · have e1 : (n == 2000000000) = true:=by simpa using h1
     refine zq ?_
     refine zb fun K hK=>?_;simp only [go_sem,e1]
     refine zh (ha) rfl (by simp only [go_sem,i64,ints,e1]) (by simp only [go_sem,i64,ints,e1]) (by first | exact .inl rfl | exact .inr rfl) ?_
     (try simp only [go_sem,e1]);refine hK _ ?_;clear hK K;refine zw (zk [4]) ?_;simp only [go_sem];refine ze ?_;simp only [go_sem]
     cases s <;> simp [isN,h1]
   · have e1 : (n == 2000000000) = false:=by simpa using h1
     refine zq ?_
     refine zb fun K hK=>?_;simp only [go_sem,e1]
     refine zh (ha) rfl (by simp only [go_sem,i64,ints,e1]) (by simp only [go_sem,i64,ints,e1]) (by first | exact .inl rfl | exact .inr rfl) ?_
     (try simp only [go_sem,e1]);refine hK _ ?_;clear hK K;refine zw (zk [4]) ?_;simp only [go_sem];refine ze ?_;simp only [go_sem]
     simp [isN,h0,h1]
theorem notN_ok (r : Rk) (s : Bool) (T : List Int) (n : Int) : ACalls Try.prog 68 [i64 n,.rp [.rp (tabC r s T)]] (.bo (!isN s n)):=by
 have ha:=isN_ok s n
 refine acalls_st (rs:=[.bo (!isN s n)]) [.tmp 3] Try.func68 rfl (by kernel_rfl) Try.ntmps68 rfl (by simp) rfl fun C vs=>?_
 refine zq ?_
 refine zb fun K hK=>?_;simp only [go_sem];refine hK _ ?_;clear hK K;refine zw (zk [0,1]) ?_;simp only [go_sem]
 refine zq ?_
 refine zb fun K hK=>?_;simp only [go_sem]
 refine zh (ha) rfl (by simp only [go_sem,i64,ints]) (by simp only [go_sem,i64,ints]) (by first | exact .inl rfl | exact .inr rfl) ?_
 (try simp only [go_sem]);refine hK _ ?_;clear hK K;refine zw (zk [3]) ?_;simp only [go_sem];refine ze ?_;simp only [go_sem]
def formR (r : Rk) (s : Bool) (T : List Int) : Int:=if (T.length : Int) ≠ r.start + 1 then 4 else if withinL 0 0 (T.take (lowG r.out).toNat) = false then 4 else if (T.drop (lowG r.out).toNat).any (fun n=>!isN s n) = true then 2 else 0
def fstR (f : Nat → Bool) : Nat → Nat → Int
 | 0,_=>0
 | n + 1,i=>if f i then fstR f n (i + 1) else (i : Int)
def firstR (r : Rk) (s : Bool) (T : List Int) : Int:=fstR (holdsA r s T) (cntA r) (lowG r.out).toNat
def provR (r : Rk) (s : Bool) (T : List Int) : Int × Int:=if checkR r = 0 then (if formR r s T = 0 then (firstR r s T,0) else (0,formR r s T)) else (0,checkR r)
theorem form_zero {r : Rk} {s : Bool} {T : List Int} (h : formR r s T = 0) (hr : ROk r) : (T.length : Int) = r.start + 1 ∧ ∀ x ∈ T,VOk x:=by
 unfold formR at h
 split at h
 · cases h
 rename_i h1
 split at h
 · cases h
 rename_i h2
 split at h
 · cases h
 rename_i h3
 refine ⟨by omega,fun x hx=>?_⟩
 rw [← List.take_append_drop (lowG r.out).toNat T] at hx
 rcases List.mem_append.1 hx with hx | hx
 · simp only [Bool.not_eq_false] at h2
   have:=List.all_eq_true.1 h2 x hx
   simp at this
   exact .inl ⟨by omega,by omega⟩
 · have h4 : ¬ (!isN s x) = true:=fun h=>h3 (List.any_eq_true.2 ⟨x,hx,h⟩)
   unfold isN at h4
   simp at h4
   unfold VOk
   omega
theorem proves_ok (r : Rk) (hw : WfL r.d r.aims) (s : Bool) (T : List Int) (hT : T.length ≤ 1000) : ACalls Try.prog 32 [rkR r,ints T,.bo s] (.tu [i64 (provR r s T).1,i64 (provR r s T).2]):=by
 have hcl:=clone_ok T hT
 have hlow:=alow_ok r.out
 have hch:=acheck_ok r hw
 have hlg:=lowG_le r.out
 refine acalls_stR (rs:=[i64 (provR r s T).1,i64 (provR r s T).2]) [.cell 6 3,.cell 7 31] Try.func32 rfl (by kernel_rfl) Try.ntmps32 rfl (by simp) rfl fun C hC vs=>?_
 refine zq ?_
 refine zb fun K hK=>?_;simp only [go_sem];refine hK _ ?_;clear hK K;refine zw (sub_frzP 3 3 [i64 r.d,aimsR r.aims,i64 r.start,i64 r.out] (by omega) rfl rfl) ?_;refine zw (zk [1,2,3,6,7]) ?_;simp only [go_sem]
 refine zq ?_
 refine awp_dreg2 [(1,none),(2,none),(3,none)] follows (by decide +kernel) (by kernel_rfl) (by simp only [keysOk,List.mem_cons,List.not_mem_nil,forall_eq_or_imp,Oc.keyOf,go_sem]; simp) fun K hK=>?_
 simp only [go_sem]
 refine zh (hcl) rfl (by simp only [go_sem,i64,ints]) (by simp only [go_sem,i64,ints]) (by first | exact .inl rfl | exact .inr rfl) ?_
 (try simp only [go_sem]);refine hK _ ?_;clear hK K;refine zw (sub_frzPB 8 0 17 (tabC r s T) (by omega) (by omega) rfl rfl rfl) ?_
 try simp only [go_sem]
 refine zw (sub_frzP 8 8 [.rp (tabC r s T)] (by omega) (by try simp only [go_sem]) (by try simp only [go_sem])) ?_;refine zw (zk [1,3,6,7,8]) ?_;simp only [go_sem]
 refine zq ?_
 refine zb fun K hK=>?_;simp only [go_sem]
 refine zh (hlow) rfl (by simp only [go_sem,i64,ints]) (by simp only [go_sem,i64,ints]) (by first | exact .inl rfl | exact .inr rfl) ?_
 (try simp only [go_sem]);refine hK _ ?_;clear hK K;refine zw (zk [1,3,6,7,8,9]) ?_;simp only [go_sem]
 repeat refine zq ?_
 refine zb fun K hK=>?_;simp only [go_sem]
 refine zh (hch) rfl (by simp only [go_sem,i64,ints]) (by simp only [go_sem,i64,ints]) (by first | exact .inl rfl | exact .inr rfl) ?_
 (try simp only [go_sem]);refine hK _ ?_;clear hK K;refine zw (zk [1,3,6,7,8,9,10]) ?_;simp only [go_sem];refine zd ?_
 by_cases h0 : checkR r = 0
 rotate_left
 · have e0 : (checkR r != 0) = true:=by simpa using h0
   have hP : provR r s T = (0,checkR r):=by unfold provR; rw [if_neg h0]
   rw [hP]
   refine zq ?_
   refine zb fun K hK=>?_;simp only [go_sem,e0];refine hK _ ?_;clear hK K;refine zw (zk [1,3,6,7,8,9,10,23]) ?_;simp only [go_sem]
   refine zc rfl (fun hc=>?_) (fun hc=>?_) <;> (try simp only [go_sem] at hc)
   refine zq ?_
   refine zb fun K hK=>?_;simp only [go_sem];refine hK _ ?_;clear hK K;refine zw (zk [6,7]) ?_;simp only [go_sem];refine ze ?_;simp only [go_sem]
 have e0 : (checkR r != 0) = false:=by simp [h0]
 have hP : provR r s T = if formR r s T = 0 then (firstR r s T,0) else (0,formR r s T):=by unfold provR; rw [if_pos h0]
 obtain ⟨_,hr⟩:=checkR_zero h0
 have hrs:=hr.start
 have w1 : IntKind.i64.wrap (r.start + 1) = r.start + 1:=by rw [zI] <;> omega
 refine zq ?_
 refine zb fun K hK=>?_;simp only [go_sem,e0];refine hK _ ?_;clear hK K;refine zw (zk [1,3,6,7,8,9,23]) ?_;simp only [go_sem]
 refine zc rfl (fun hc=>?_) (fun hc=>?_) <;> (try simp only [go_sem] at hc)
 by_cases h1 : (T.length : Int) = r.start + 1
 rotate_left
 · have e1 : ((T.length : Int) != r.start + 1) = true:=by simpa using h1
   have hF : formR r s T = 4:=by unfold formR; rw [if_pos h1]
   rw [hP,hF]
   repeat refine zq ?_
   refine zb fun K hK=>?_;simp only [go_sem,e1,w1,List.length_map]
   intro _
   refine hK _ ?_;clear hK K;refine zw (zk [1,3,6,7,8,9,27]) ?_;simp only [go_sem]
   refine zc rfl (fun hc=>?_) (fun hc=>?_) <;> (try simp only [go_sem] at hc)
   refine zx ?_
   try simp only [go_sem]
   refine zc rfl (fun hc=>?_) (fun hc=>?_) <;> (try simp only [go_sem] at hc)
   refine zq ?_
   refine zb fun K hK=>?_;simp only [go_sem];refine hK _ ?_;clear hK K;refine zw (zk [6,7]) ?_;simp only [go_sem];refine ze ?_;simp only [go_sem]
   all_goals (try simp)
 have e1 : ((T.length : Int) != r.start + 1) = false:=by simpa using h1
 obtain ⟨lo,hlo⟩ : ∃ lo : Nat,lowG r.out = lo:=⟨(lowG r.out).toNat,by omega⟩
 have hmin : min (lowG r.out) (T.length : Int) = (lo : Int):=by omega
 have hwi:=awithin_ok 0 0 (T.take lo)
 have hca:=contains_ok (fun n=>!isN s n) 68 [.rp [.rp (tabC r s T)]] (T.drop lo) (fun x _=>notN_ok r s T x)
 have hF : formR r s T = if withinL 0 0 (T.take lo) = false then 4 else if (T.drop lo).any (fun n=>!isN s n) = true then 2 else 0:=by
  unfold formR
  rw [if_neg (by omega),hlo,Int.toNat_natCast]
 repeat refine zq ?_
 refine zb fun K hK=>?_;simp only [go_sem,e1,w1,List.length_map]
 intro _
 refine hK _ ?_;clear hK K;refine zw (zk [1,3,6,7,8,9,27]) ?_;simp only [go_sem]
 refine zc rfl (fun hc=>?_) (fun hc=>?_) <;> (try simp only [go_sem] at hc)
 have hmt : List.take lo (List.map (fun x=>[RV.it IntKind.i64 x]) T) = List.map (fun x=>[RV.it IntKind.i64 x]) (T.take lo):=(List.map_take).symm
 have hmd : List.drop lo (List.map (fun x=>[RV.it IntKind.i64 x]) T) = List.map (fun x=>[RV.it IntKind.i64 x]) (T.drop lo):=(List.map_drop).symm
 rw [hlo] at hmin ⊢
 cases hW : withinL 0 0 (T.take lo)
 · rw [hW] at hwi hF
   rw [if_pos rfl] at hF
   rw [hP,hF]
   refine zb fun K hK=>?_;simp only [go_sem,List.length_map,hmin,hmt]
   refine fun _=>⟨by omega,?_⟩
   refine zh (hwi) rfl (by simp only [go_sem,i64,ints]) (by simp only [go_sem,i64,ints]) (by first | exact .inl rfl | exact .inr rfl) ?_
   (try simp only [go_sem]);refine hK _ ?_;clear hK K;refine zw (zk [1,3,6,7,8,9,27]) ?_;simp only [go_sem]
   refine zc rfl (fun hc=>?_) (fun hc=>?_) <;> (try simp only [go_sem] at hc)
   refine zq ?_
   refine zb fun K hK=>?_;simp only [go_sem];refine hK _ ?_;clear hK K;refine zw (zk [6,7]) ?_;simp only [go_sem];refine ze ?_;simp only [go_sem]
   all_goals (try simp)
 rw [hW] at hwi hF
 rw [if_neg (by simp)] at hF
 refine zb fun K hK=>?_;simp only [go_sem,List.length_map,hmin,hmt]
 refine fun _=>⟨by omega,?_⟩
 refine zh (hwi) rfl (by simp only [go_sem,i64,ints]) (by simp only [go_sem,i64,ints]) (by first | exact .inl rfl | exact .inr rfl) ?_
 (try simp only [go_sem]);refine hK _ ?_;clear hK K;refine zw (zk [1,3,6,7,8,9,27]) ?_;simp only [go_sem]
 refine zc rfl (fun hc=>?_) (fun hc=>?_) <;> (try simp only [go_sem] at hc)
 cases hA : (T.drop lo).any (fun n=>!isN s n)
 rotate_left
 · rw [hA] at hca hF
   rw [if_pos rfl] at hF
   rw [hP,hF]
   refine zq ?_
   refine zb fun K hK=>?_;simp only [go_sem,List.length_map,hmd]
   refine ⟨by omega,?_⟩
   refine zh (hca) rfl (by simp only [go_sem,i64,ints]) (by simp only [go_sem,i64,ints]) (by first | exact .inl rfl | exact .inr rfl) ?_
   (try simp only [go_sem]);refine hK _ ?_;clear hK K;refine zw (zk [1,3,6,7,8,9,42]) ?_;simp only [go_sem]
   refine zc rfl (fun hc=>?_) (fun hc=>?_) <;> (try simp only [go_sem] at hc)
   refine zq ?_
   refine zb fun K hK=>?_;simp only [go_sem];refine hK _ ?_;clear hK K;refine zw (zk [6,7]) ?_;simp only [go_sem];refine ze ?_;simp only [go_sem]
   all_goals (try simp)
 rw [hA] at hca hF
 rw [if_neg (by simp)] at hF
 rw [if_pos hF] at hP
 obtain ⟨hTl,hTv⟩:=form_zero hF hr
 rw [hP]
 refine zq ?_
 refine zb fun K hK=>?_;simp only [go_sem,List.length_map,hmd]
 refine ⟨by omega,?_⟩
 refine zh (hca) rfl (by simp only [go_sem,i64,ints]) (by simp only [go_sem,i64,ints]) (by first | exact .inl rfl | exact .inr rfl) ?_
 (try simp only [go_sem]);refine hK _ ?_;clear hK K;refine zw (zk [3,6,7,8,42]) ?_;simp only [go_sem]
 refine zc rfl (fun hc=>?_) (fun hc=>?_) <;> (try simp only [go_sem] at hc)
 refine zx ?_
 try simp only [go_sem]
 repeat refine zq ?_
 refine awp_long ?_
 refine sops_take 1 (by kernel_rfl) fun K hK=>?_
 simp only [go_sem,List.take_succ_cons,List.take_zero,List.drop_succ_cons,List.drop_zero,List.append_eq,List.cons_append,List.nil_append]
 refine hK _ rfl ?_
 clear hK K
 refine sops_gop rfl (by intro t h; injection h with h; subst h; show 49 < 56; decide) (by intro c h; cases h) (gop_method rfl (v:=.rp (tabC r s T)) (by simp only [go_sem]) ?_)
 try simp only [go_sem]
 refine sops_end (by kernel_rfl) fun K hK=>?_
 simp only [go_sem,List.drop_succ_cons,List.drop_zero,List.append_eq,List.cons_append,List.nil_append];refine hK _ ?_;clear hK K;refine zw (zk [6,7,8,49]) ?_;simp only [go_sem]
 have hcnt : (cntA r : Int) = r.start + 1 - lowG r.out:=by unfold cntA; omega
 have hhold:=fun i (hi : i < cntA r)=>holds_ok (r:=r) (s:=s) (nums:=T) (st:=lo + i) ⟨hr,by omega,hTv,by omega,by omega⟩
 have hfst : firstR r s T = fstR (holdsA r s T) (cntA r) lo:=by unfold firstR; rw [hlo,Int.toNat_natCast]
 rw [hfst]
 refine zd ?_
 refine awp_rangeFB (n:=56) hC ((List.range (cntA r)).map fun (i : Nat)=>[i64 (lowG r.out + (i : Int))]) (scoresP_ok r s T (by omega)) [6,7,8,49] (by decide)
  (fun vs=>[(6,.pt 6 (vs 6) 0),(7,.pt 7 (vs 7) 0),(8,.r (.rp [.rp (tabC r s T)])),(49,.r (.bf 57 [.rp (tabC r s T)]))])
  (fun i vs=>[(6,.box [.r (i64 0)]),(7,.box [.r (i64 0)])]) (fun i=>i ≤ cntA r ∧ fstR (holdsA r s T) (cntA r - i) (lo + i) = fstR (holdsA r s T) (cntA r) lo) (zj [] ?_ ?_) ⟨Nat.zero_le _,rfl⟩
  (fun _=>rfl) (fun _=>rfl) (fun _ _=>rfl) (by decide) (fun e he=>by obtain ⟨i,_,rfl⟩:=List.mem_map.1 he; rfl) ?_ ?_
 · try simp only [go_sem]
 · try simp only [go_sem]
 · intro i e vs us C' he hi
   have hil : i < cntA r:=by
    have:=(List.getElem?_eq_some_iff.1 he).1
    simpa using this
   have he' : e = [i64 ((lo + i : Nat) : Int)]:=by
    simp [hil] at he
    rw [← he,hlo]
    rfl
   subst he'
   obtain ⟨_,hI⟩:=hi
   have hh:=hhold i hil
   have hstp : fstR (holdsA r s T) (cntA r - i) (lo + i) = if holdsA r s T (lo + i) then fstR (holdsA r s T) (cntA r - (i + 1)) (lo + (i + 1)) else ((lo + i : Nat) : Int):=by
    have : cntA r - i = (cntA r - (i + 1)) + 1:=by omega
    rw [this,fstR]
    rfl
   rw [hstp] at hI
   refine zb fun K hK=>?_;simp only [go_sem];refine hK _ ?_;clear hK K
   refine ⟨rfl,fun C''=>?_⟩
   refine zw (zk [6,7,8,11]) ?_;simp only [go_sem];refine zd ?_
   cases hB : holdsA r s T (lo + i)
   · rw [hB] at hh hI
     simp only [Bool.false_eq_true,if_false] at hI
     refine zq ?_
     refine zb fun K hK=>?_;simp only [go_sem]
     refine zh (hh) rfl (by simp only [go_sem,i64,ints]) (by simp only [go_sem,i64,ints]) (by first | exact .inl rfl | exact .inr rfl) ?_
     (try simp only [go_sem]);refine hK _ ?_;clear hK K;refine zw (zk [6,7,8,11,54]) ?_;simp only [go_sem]
     refine zc rfl (fun hc=>?_) (fun hc=>?_) <;> (try simp only [go_sem] at hc)
     refine zq ?_
     refine zb fun K hK=>?_;simp only [go_sem];refine hK _ ?_;clear hK K;refine zw (zk [6,7]) ?_;simp only [go_sem];refine ze ?_;simp only [go_sem]
     refine rf_ret (by simp only [go_sem]; rfl) ?_
     try simp only [go_sem]
     omega
   · rw [hB] at hh hI
     simp only [if_true] at hI
     refine zq ?_
     refine zb fun K hK=>?_;simp only [go_sem]
     refine zh (hh) rfl (by simp only [go_sem,i64,ints]) (by simp only [go_sem,i64,ints]) (by first | exact .inl rfl | exact .inr rfl) ?_
     (try simp only [go_sem]);refine hK _ ?_;clear hK K;refine zw (zk [6,7,8,11,54]) ?_;simp only [go_sem]
     refine zc rfl (fun hc=>?_) (fun hc=>?_) <;> (try simp only [go_sem] at hc)
     refine zx ?_
     try simp only [go_sem]
     exact ⟨⟨by omega,hI⟩,vs,sub_look _ (allEq_mem (by simp only [go_sem]))⟩
 · intro vs us hi
   have hel : ((List.range (cntA r)).map fun (i : Nat)=>[i64 (lowG r.out + (i : Int))]).length = cntA r:=by simp
   rw [hel] at hi
   have hfin:=hi.2
   rw [Nat.sub_self,fstR] at hfin
   rw [← hfin]
   try simp only [go_sem]
   refine zw (sub_wake rfl) ?_;refine zw (zk [6,7]) ?_;simp only [go_sem]
   refine zq ?_
   refine zb fun K hK=>?_;simp only [go_sem];refine hK _ ?_;clear hK K;refine zw (zk [6,7]) ?_;simp only [go_sem];refine ze ?_;simp only [go_sem]
end Go.Proofs.Ytgfbenanljjgaaa.Du.Th.Ai

namespace Go.Proofs.Ytgfbenanljjgaaa.Du.Th.Ai
open Go Go.Oc
set_option linter.unusedSimpArgs false
set_option linter.unusedVariables false
set_option maxRecDepth 8000
theorem nextA_cg {out own left : Int} {f g : Int → Int} (h : ∀ x,lowG out ≤ x → x ≤ left → f x = g x) {b : Int} (hb : 0 ≤ b ∧ b ≤ 499) : nextA out own left f b = nextA out own left g b:=by
 have hs:=score_nn hb
 unfold nextA
 split
 · rfl
 · split
   · rfl
   · exact h _ (by omega) (by omega)
theorem meanA_cg {r : Rk} {s : Bool} {own left : Int} {f g : Int → Int} (h : ∀ x,lowG r.out ≤ x → x ≤ left → f x = g x) {a : Am} (ha : AOk r.d a.beds) : meanA r s own left f a = meanA r s own left g a:=by
 unfold meanA
 congr 1
 exact List.map_congr_left fun b hb=>nextA_cg h (ha.bed b hb)
theorem valA_cg {r : Rk} (hr : ROk r) {s : Bool} {T U : List Int} {own : Int} {st : Nat} (h : ∀ x,x ≤ st → T.getD x 0 = U.getD x 0) : ∀ (k : Nat) (left : Int),lowG r.out ≤ left → left ≤ st → valA r s T own k left = valA r s U own k left
 | 0,left,h1,h2=>h _ (by omega)
 | k + 1, left, h1, h2 => by
   unfold valA
   congr 1
   exact List.map_congr_left fun a ha=>meanA_cg (fun x q1 q2=>valA_cg hr h k x q1 (by omega)) (hr.aims a ha)
theorem holds_cg {r : Rk} (hr : ROk r) {s : Bool} {T U : List Int} {st : Nat} (hlo : lowG r.out ≤ st) (h : ∀ x,x ≤ st → T.getD x 0 = U.getD x 0) : holdsA r s T st = holdsA r s U st:=by
 have h1:=h st (Nat.le_refl _)
 have h2:=valA_cg hr (s:=s) (own:=U.getD st 0) h 3 st hlo (Int.le_refl _)
 unfold holdsA
 rw [h1,h2]
theorem numA_false {r : Rk} (hr : ROk r) {nums : List Int} {st : Nat} (hn : ∀ x ∈ nums,VOk x) (hst : st < nums.length) (hlo : lowG r.out ≤ st) :
 numA r false nums st = 2000000000 ∨ ((1000000 ≤ numA r false nums st ∧ numA r false nums st ≤ 1000000000) ∧ holdsA r false (nums.set st (numA r false nums st)) st = true ∧ holdsA r false (nums.set st (numA r false nums st - 1)) st = false):=by
 obtain ⟨g1,g2,g3,g4⟩:=srch_spec (fun k=>holdsA r false (nums.set st (1000000 + (k : Int))) st) 0 999000001 (by omega) fun a b q1 q2 q3 q4=>holds_up hr hn hst hlo (by omega) (by omega) (by omega) q4
 unfold numA
 simp only [Bool.false_eq_true,if_false]
 generalize srch (fun k=>holdsA r false (nums.set st (1000000 + (k : Int))) st) 0 999000001 = k at *
 by_cases h : 1000000000 < 1000000 + (k : Int)
 · left; rw [if_pos h]
 · right
   rw [if_neg h]
   refine ⟨by omega,g4 (by omega),?_⟩
   by_cases hk : k = 0
   · subst hk
     have hv:=valA_le hr (s:=false) (set_vok hn st (n:=999999) (.inl ⟨by omega,by omega⟩)) (own:=999999) (.inl ⟨by omega,by omega⟩) 3 st
     have e : (1000000 : Int) + ((0 : Nat) : Int) - 1 = 999999:=by omega
     rw [e]
     unfold holdsA
     simp only [Bool.false_eq_true,if_false,getD_set hst,if_true];rw [Bool.or_eq_false_iff,decide_eq_false_iff_not,decide_eq_false_iff_not]
     omega
   · have:=g3 (k - 1) (by omega) (by omega)
     have e : (1000000 : Int) + ((k - 1 : Nat) : Int) = 1000000 + (k : Int) - 1:=by omega
     rw [e] at this
     exact this
theorem numA_true {r : Rk} (hr : ROk r) {nums : List Int} {st : Nat} (hn : ∀ x ∈ nums,VOk x) (hst : st < nums.length) (hlo : lowG r.out ≤ st) :
 (0 ≤ numA r true nums st ∧ numA r true nums st ≤ 1000000000) ∧ holdsA r true (nums.set st (numA r true nums st)) st = true ∧ (numA r true nums st < 1000000000 → holdsA r true (nums.set st (numA r true nums st + 1)) st = false):=by
 obtain ⟨g1,g2,g3,g4⟩:=srch_spec (fun k=>!holdsA r true (nums.set st ((k : Int) + 1)) st) 0 1000000000 (by omega) fun a b q1 q2 q3 q4=>by
  simp only [Bool.not_eq_true'] at q4 ⊢
  cases hb : holdsA r true (nums.set st ((b : Int) + 1)) st
  · rfl
  · have:=holds_down hr hn hst hlo (a:=(a : Int) + 1) (by omega) (by omega) (by omega) hb
    rw [q4] at this; cases this
 unfold numA
 simp only [if_true]
 generalize srch (fun k=>!holdsA r true (nums.set st ((k : Int) + 1)) st) 0 1000000000 = k at *
 refine ⟨by omega,?_,fun h=>?_⟩
 · by_cases hk : k = 0
   · subst hk
     have hv:=valA_le hr (s:=true) (set_vok hn st (n:=0) (.inl ⟨by omega,by omega⟩)) (own:=0) (.inl ⟨by omega,by omega⟩) 3 st
     show holdsA r true (nums.set st 0) st = true
     unfold holdsA
     simp only [if_true,getD_set hst];rw [decide_eq_true_eq]
     omega
   · have:=g3 (k - 1) (by omega) (by omega)
     have e : ((k - 1 : Nat) : Int) + 1 = (k : Int):=by omega
     simp only [e,Bool.not_eq_false'] at this
     exact this
 · have:=g4 (by omega)
   simpa using this
theorem tabA_pre {r : Rk} (s : Bool) (i : Nat) (x : Nat) (hx : x ≤ (lowG r.out).toNat + i) : ∀ m,(tabA r s (i + 1 + m)).getD x 0 = (tabA r s (i + 1)).getD x 0
 | 0=>rfl
 | m + 1 => by
   rw [← tabA_pre s i x hx m]
   show ((tabA r s (i + 1 + m)).set ((lowG r.out).toNat + (i + 1 + m)) _).getD x 0 = _
   rw [List.getD_eq_getElem?_getD,List.getElem?_set_ne (by omega),← List.getD_eq_getElem?_getD]
theorem tabA_low {r : Rk} (s : Bool) (x : Nat) (hx : x < (lowG r.out).toNat) : ∀ m,(tabA r s m).getD x 0 = 0
 | 0 => by
   unfold tabA
   rw [List.getD_eq_getElem?_getD,List.getElem?_replicate]
   split <;> rfl
 | m + 1 => by
   show ((tabA r s m).set ((lowG r.out).toNat + m) _).getD x 0 = 0
   rw [List.getD_eq_getElem?_getD,List.getElem?_set_ne (by omega),← List.getD_eq_getElem?_getD]
   exact tabA_low s x hx m
theorem tabT_at {r : Rk} (hr : ROk r) (s : Bool) {st : Nat} (h1 : lowG r.out ≤ st) (h2 : (st : Int) ≤ r.start) : ∃ nums : List Int,(∀ x ∈ nums,VOk x) ∧ st < nums.length ∧ (tabT r s).getD st 0 = numA r s nums st ∧ (∀ v,∀ x,x ≤ st → ((tabT r s).set st v).getD x 0 = (nums.set st v).getD x 0) ∧
 (∀ x,x ≤ st → (tabT r s).getD x 0 = (nums.set st (numA r s nums st)).getD x 0):=by
 have hl:=lowG_le r.out
 obtain ⟨i,hi⟩ : ∃ i,st = (lowG r.out).toNat + i:=⟨st - (lowG r.out).toNat,by omega⟩
 have hic : i < cntA r:=by unfold cntA; omega
 obtain ⟨_,e2,e3⟩:=tab_eq hr s i (by omega)
 obtain ⟨_,f2,f3⟩:=tab_eq hr s (cntA r) (Nat.le_refl _)
 have hlen : st < (tabA r s i).length:=by rw [e2]; omega
 obtain ⟨m,hm⟩ : ∃ m,cntA r = i + 1 + m:=⟨cntA r - (i + 1),by omega⟩
 have hpre:=fun x (hx : x ≤ st)=>tabA_pre (r:=r) s i x (by omega) m
 rw [← hm] at hpre
 have hsu : tabA r s (i + 1) = (tabA r s i).set st (numA r s (tabA r s i) st):=by rw [hi]; rfl
 rw [hsu] at hpre
 have hlT : st < (tabT r s).length:=by unfold tabT; rw [f2]; omega
 refine ⟨tabA r s i,e3,hlen,?_,fun v x hx=>?_,hpre⟩
 · have:=hpre st (Nat.le_refl _)
   rw [getD_set hlen,if_pos rfl] at this
   exact this
 · rw [getD_set hlT,getD_set hlen]
   split
   · rfl
   · rename_i hne
     have:=hpre x hx
     rw [getD_set hlen,if_neg hne] at this
     exact this
theorem tabT_holds {r : Rk} (hr : ROk r) (s : Bool) {st : Nat} (h1 : lowG r.out ≤ st) (h2 : (st : Int) ≤ r.start) : holdsA r s (tabT r s) st = true:=by
 obtain ⟨nums,hn,hst,g1,g2,g3⟩:=tabT_at hr s h1 h2
 rw [holds_cg hr h1 g3]
 cases s
 · rcases numA_false hr hn hst h1 with h | ⟨_,h,_⟩
   · rw [h]
     unfold holdsA
     simp only [Bool.false_eq_true,if_false,getD_set hst,if_true,decide_true,Bool.or_true]
   · exact h
 · exact (numA_true hr hn hst h1).2.1
theorem tabT_less {r : Rk} (hr : ROk r) {st : Nat} (h1 : lowG r.out ≤ st) (h2 : (st : Int) ≤ r.start) (hne : (tabT r false).getD st 0 ≠ 2000000000) : (1000000 ≤ (tabT r false).getD st 0 ∧ (tabT r false).getD st 0 ≤ 1000000000) ∧ holdsA r false ((tabT r false).set st ((tabT r false).getD st 0 - 1)) st = false:=by
 obtain ⟨nums,hn,hst,g1,g2,g3⟩:=tabT_at hr false h1 h2
 rw [holds_cg hr h1 (g2 _),g1]
 rw [g1] at hne
 rcases numA_false hr hn hst h1 with h | ⟨h,_,h'⟩
 · exact absurd h hne
 · exact ⟨h,h'⟩
theorem tabT_more {r : Rk} (hr : ROk r) {st : Nat} (h1 : lowG r.out ≤ st) (h2 : (st : Int) ≤ r.start) : (0 ≤ (tabT r true).getD st 0 ∧ (tabT r true).getD st 0 ≤ 1000000000) ∧ ((tabT r true).getD st 0 < 1000000000 → holdsA r true ((tabT r true).set st ((tabT r true).getD st 0 + 1)) st = false):=by
 obtain ⟨nums,hn,hst,g1,g2,g3⟩:=tabT_at hr true h1 h2
 rw [holds_cg hr h1 (g2 _),g1]
 obtain ⟨a,b,c⟩:=numA_true hr hn hst h1
 exact ⟨a,c⟩
theorem fstR_none {f : Nat → Bool} : ∀ (n i : Nat),(∀ j,i ≤ j → j < i + n → f j = true) → fstR f n i = 0
 | 0,_,_=>rfl
 | n + 1, i, h => by
   unfold fstR
   rw [if_pos (h i (Nat.le_refl _) (by omega))]
   exact fstR_none n (i + 1) fun j h1 h2=>h j (by omega) (by omega)
theorem fstR_at {f : Nat → Bool} {st : Nat} (hst : f st = false) : ∀ (n i : Nat),i ≤ st → st < i + n → (∀ j,i ≤ j → j < st → f j = true) → fstR f n i = st
 | 0,i,h1,h2,_=>by omega
 | n + 1, i, h1, h2, h => by
   unfold fstR
   by_cases e : i = st
   · subst e; rw [if_neg (by rw [hst]; simp)]
   · rw [if_pos (h i (Nat.le_refl _) (by omega))]
     exact fstR_at hst n (i + 1) (by omega) (by omega) fun j q1 q2=>h j (by omega) q2
theorem form_of {r : Rk} {s : Bool} {T : List Int} (hl : (T.length : Int) = r.start + 1) (h0 : ∀ x,x < (lowG r.out).toNat → T.getD x 0 = 0) (h1 : ∀ x,(lowG r.out).toNat ≤ x → x < T.length → isN s (T.getD x 0) = true) : formR r s T = 0:=by
 unfold formR
 rw [if_neg (by omega),if_neg,if_neg]
 · rw [Bool.not_eq_true,List.any_eq_false]
   intro v hv
   obtain ⟨j,hj⟩:=List.getElem?_of_mem hv
   rw [List.getElem?_drop] at hj
   have hlt:=(List.getElem?_eq_some_iff.1 hj).1
   have:=h1 _ (by omega) hlt
   rw [List.getD_eq_getElem?_getD,hj] at this
   simpa using this
 · rw [Bool.not_eq_false]
   refine List.all_eq_true.2 fun v hv=>?_
   obtain ⟨j,hj⟩:=List.getElem?_of_mem hv
   have hlt:=(List.getElem?_eq_some_iff.1 hj).1
   rw [List.length_take] at hlt
   rw [List.getElem?_take_of_lt (by omega)] at hj
   have:=h0 j (by omega)
   rw [List.getD_eq_getElem?_getD,hj] at this
   simp at this
   simp [this]
theorem tabT_len {r : Rk} (hr : ROk r) (s : Bool) : ((tabT r s).length : Int) = r.start + 1:=by
 have:=(tab_eq hr s (cntA r) (Nat.le_refl _)).2.1
 have hs:=hr.start
 unfold tabT; rw [this]; omega
theorem tabT_isN {r : Rk} (hr : ROk r) (s : Bool) {x : Nat} (h1 : (lowG r.out).toNat ≤ x) (h2 : x < (tabT r s).length) : isN s ((tabT r s).getD x 0) = true:=by
 have hl:=tabT_len hr s
 have hg:=lowG_le r.out
 cases s
 · by_cases h : (tabT r false).getD x 0 = 2000000000
   · unfold isN; rw [h]; rfl
   · have:=(tabT_less hr (st:=x) (by omega) (by omega) h).1
     unfold isN
     simp only [Bool.or_eq_true,decide_eq_true_eq]
     left; omega
 · have:=(tabT_more hr (st:=x) (by omega) (by omega)).1
   unfold isN
   simp only [Bool.or_eq_true,decide_eq_true_eq]
   left; omega
theorem prov_tab {r : Rk} (hc : checkR r = 0) (s : Bool) : provR r s (tabT r s) = (0,0):=by
 have hr:=(checkR_zero hc).2
 have hl:=tabT_len hr s
 have hg:=lowG_le r.out
 unfold provR
 rw [if_pos hc,if_pos (form_of hl (fun x hx=>tabA_low s x hx _) fun x h1 h2=>tabT_isN hr s h1 h2)]
 have : firstR r s (tabT r s) = 0:=fstR_none _ _ fun j h1 h2=>tabT_holds hr s (by omega) (by unfold cntA at h2; omega)
 rw [this]
theorem prov_set {r : Rk} (hc : checkR r = 0) (s : Bool) {st : Nat} (h1 : lowG r.out ≤ st) (h2 : (st : Int) ≤ r.start) {v : Int} (hv : isN s v = true) (hf : holdsA r s ((tabT r s).set st v) st = false) : provR r s ((tabT r s).set st v) = ((st : Int),0):=by
 have hr:=(checkR_zero hc).2
 have hl:=tabT_len hr s
 have hg:=lowG_le r.out
 have hst : st < (tabT r s).length:=by omega
 unfold provR
 rw [if_pos hc,if_pos (form_of (by rw [List.length_set]; exact hl) (fun x hx=>?_) fun x q1 q2=>?_)]
 · have : firstR r s ((tabT r s).set st v) = st:=by
    refine fstR_at hf _ _ (by omega) (by unfold cntA; omega) fun j q1 q2=>?_
    rw [holds_cg hr (U:=tabT r s) (by omega) fun x hx=>?_]
    · exact tabT_holds hr s (by omega) (by omega)
    · rw [getD_set hst,if_neg (by omega)]
   rw [this]
 · rw [getD_set hst,if_neg (by omega)]
   exact tabA_low s x hx _
 · rw [getD_set hst]
   split
   · exact hv
   · exact tabT_isN hr s q1 (by simpa using q2)
theorem prov_less {r : Rk} (hc : checkR r = 0) {st : Nat} (h1 : lowG r.out ≤ st) (h2 : (st : Int) ≤ r.start) (hne : (tabT r false).getD st 0 ≠ 2000000000) : provR r false ((tabT r false).set st ((tabT r false).getD st 0 - 1)) = ((st : Int),0):=by
 have:=tabT_less (checkR_zero hc).2 h1 h2 hne
 refine prov_set hc false h1 h2 ?_ this.2
 unfold isN
 simp only [Bool.or_eq_true,decide_eq_true_eq]
 left; omega
theorem prov_more {r : Rk} (hc : checkR r = 0) {st : Nat} (h1 : lowG r.out ≤ st) (h2 : (st : Int) ≤ r.start) (hne : (tabT r true).getD st 0 < 1000000000) : provR r true ((tabT r true).set st ((tabT r true).getD st 0 + 1)) = ((st : Int),0):=by
 have:=tabT_more (checkR_zero hc).2 h1 h2
 refine prov_set hc true h1 h2 ?_ (this.2 hne)
 unfold isN
 simp only [Bool.or_eq_true,decide_eq_true_eq]
 left; omega
def beds10 : List Int:=[0,101,102,103,105,125,201,202,204,301]
def bedX (k : Nat) : Int:=beds10.getD k 0
structure Rx where
 which : List Int
 low : List Int
 high : List Int
 start : Int
 out : Int
structure WfRx (x : Rx) : Prop where
 which : ∀ n ∈ x.which,0 ≤ n ∧ n ≤ 65535
 low : ∀ n ∈ x.low,0 ≤ n ∧ n ≤ 255
 high : ∀ n ∈ x.high,0 ≤ n ∧ n ≤ 255
 start : 0 ≤ x.start ∧ x.start ≤ 255
 out : 0 ≤ x.out ∧ x.out ≤ 255
def whX (x : Rx) (i : Nat) : Int:=if i < x.which.length then bitOr .u16 (x.which.getD i 0) (shlI .u16 1 (IntKind.u64.wrap ((6 + i % 3 : Nat) : Int))) else 64
structure Sx where
 l : List Bd
 sum : Int
 high : Int
 n : Nat
def addX (x : Rx) (w : Int) (k : Nat) (p : Sx) : Sx :=
 if p.l.length < 5 ∧ hasB w k = true then
  ⟨⟨bedX k, min (byteL x.low p.n % 6) (24 - p.sum), min 24 (min (byteL x.low p.n % 6) (24 - p.sum) + byteL x.high p.n % 9)⟩ :: p.l,
    p.sum + min (byteL x.low p.n % 6) (24 - p.sum),p.high + min 24 (min (byteL x.low p.n % 6) (24 - p.sum) + byteL x.high p.n % 9),p.n + 1⟩ else p
def iterX (x : Rx) (w : Int) (n : Nat) : Nat → Sx
 | 0=>⟨[],0,0,n⟩
 | j + 1=>addX x w (9 - j) (iterX x w n j)
theorem iterX_full (x : Rx) (w : Int) (n j : Nat) (h : ¬ (iterX x w n j).l.length < 5) : ∀ m,iterX x w n (j + m) = iterX x w n j
 | 0=>rfl
 | m + 1 => by
   show addX x w (9 - (j + m)) (iterX x w n (j + m)) = _
   rw [iterX_full x w n j h m]
   unfold addX
   rw [if_neg fun h'=>h h'.1]
theorem iterX_n (x : Rx) (w : Int) (n : Nat) : ∀ j,(iterX x w n j).n ≤ n + j
 | 0=>Nat.le_refl _
 | j + 1 => by
   have ih:=iterX_n x w n j
   show (addX x w (9 - j) (iterX x w n j)).n ≤ _
   unfold addX
   split
   · simp only; omega
   · omega
def fixX (p : Sx) : List Bd:=if p.high < 24 then (match p.l with | []=>[] | c :: l=>⟨c.b,c.lo,min 24 (c.hi + 24 - p.high)⟩ :: l) else p.l
def nX (x : Rx) : Nat → Nat
 | 0=>0
 | i + 1=>(iterX x (whX x i) (nX x i) 10).n
theorem nX_le (x : Rx) : ∀ i,nX x i ≤ 10 * i
 | 0=>Nat.le_refl _
 | i + 1 => by
   have ih:=nX_le x i
   have:=iterX_n x (whX x i) (nX x i) 10
   show (iterX x (whX x i) (nX x i) 10).n ≤ _
   omega
def sX (x : Rx) (i : Nat) : Sx:=iterX x (whX x i) (nX x i) 10
def aimX (x : Rx) (i : Nat) : Am:=⟨bedX (6 + i % 3),fixX (sX x i)⟩
def cntX (x : Rx) (most : Nat) : Nat:=max 1 (min x.which.length most)
def aimsX (x : Rx) (i : Nat) : List Am:=(List.range i).map (aimX x)
theorem aimsX_succ (x : Rx) (i : Nat) : aimsX x (i + 1) = aimsX x i ++ [aimX x i]:=by simp only [aimsX,List.range_succ,List.map_append,List.map_cons,List.map_nil]
theorem cntX_lt (x : Rx) (most i : Nat) : i < cntX x most ↔ i = 0 ∨ (i < x.which.length ∧ i < most):=by unfold cntX; omega
def ruleX (x : Rx) (most : Nat) : Rk:=⟨24,aimsX x (cntX x most),2 + x.start % 5,x.out % 3⟩
theorem bedX_lt {j k : Nat} (h : j < k) (hk : k < 10) : bedX j < bedX k:=by
 have : ∀ k,k < 10 → ∀ j,j < k → bedX j < bedX k:=by decide
 exact this k hk j h
theorem bedX_ok {k : Nat} (hk : k < 10) : bedX k = 0 ∨ bedOk (bedX k) = true:=by
 have : ∀ k,k < 10 → (bedX k = 0 ∨ bedOk (bedX k) = true):=by decide
 exact this k hk
structure IterX (j : Nat) (p : Sx) : Prop where
 len : p.l.length ≤ 5
 lenj : p.l.length ≤ j
 each : ∀ c ∈ p.l,(∃ k,10 ≤ k + j ∧ k < 10 ∧ c.b = bedX k) ∧ 0 ≤ c.lo ∧ c.lo ≤ c.hi ∧ c.hi ≤ 24
 up : p.l.Pairwise fun a b=>a.b < b.b
 sum : loS p.l = p.sum
 sum0 : 0 ≤ p.sum ∧ p.sum ≤ 24
 high : hiS p.l = p.high
 high0 : 0 ≤ p.high ∧ p.high ≤ 24 * p.l.length
theorem iterX_ok {x : Rx} (hx : WfRx x) (w : Int) (n : Nat) : ∀ j,j ≤ 10 → IterX j (iterX x w n j)
 | 0,_=>⟨by simp [iterX],by simp [iterX],by simp [iterX],by simp [iterX],by simp [iterX,loS],by simp [iterX],by simp [iterX,hiS],by simp [iterX]⟩
 | j + 1, hj => by
   have ih:=iterX_ok hx w n j (by omega)
   show IterX (j + 1) (addX x w (9 - j) (iterX x w n j))
   generalize iterX x w n j = p at *
   obtain ⟨l,s,h,n'⟩:=p
   obtain ⟨h1,h2,h3,h4,h5,h6,h7,h8⟩:=ih
   simp only at h1 h2 h3 h4 h5 h6 h7 h8
   unfold addX
   by_cases hc : l.length < 5 ∧ hasB w (9 - j) = true
   · rw [if_pos hc]
     have bl:=byteL_le hx.low n'
     have bh:=byteL_le hx.high n'
     simp only
     generalize byteL x.low n' = bl' at *
     generalize byteL x.high n' = bh' at *
     obtain ⟨lo,hlo⟩ : ∃ lo,lo = min (bl' % 6) (24 - s):=⟨_,rfl⟩
     obtain ⟨hi,hhi⟩ : ∃ hi,hi = min 24 (lo + bh' % 9):=⟨_,rfl⟩
     rw [← hlo,← hhi]
     refine ⟨by simp; omega,by simp; omega,?_,?_,?_,?_,?_,?_⟩
     · intro c hcm
       rcases List.mem_cons.1 hcm with rfl | hcm
       · exact ⟨⟨9 - j,by omega,by omega,rfl⟩,by simp only; omega,by simp only; omega,by simp only; omega⟩
       · obtain ⟨⟨k,k1,k2,k3⟩,e⟩:=h3 c hcm
         exact ⟨⟨k,by omega,k2,k3⟩,e⟩
     · refine List.pairwise_cons.2 ⟨fun c hcm=>?_,h4⟩
       obtain ⟨⟨k,k1,k2,k3⟩,e⟩:=h3 c hcm
       simp only
       rw [k3]
       exact bedX_lt (by omega) k2
     · simp only [loS,List.map_cons,List.sum_cons] at h5 ⊢
       omega
     · simp only; omega
     · simp only [hiS,List.map_cons,List.sum_cons] at h7 ⊢
       omega
     · simp only [List.length_cons]; omega
   · rw [if_neg hc]
     exact ⟨h1,by simp only; omega,fun c hcm=>by
      obtain ⟨⟨k,k1,k2,k3⟩,e⟩:=h3 c hcm
      exact ⟨⟨k,by omega,k2,k3⟩,e⟩,h4,h5,h6,h7,h8⟩
theorem wrap16 {m : Nat} (h : m < 65536) : IntKind.u16.wrap (m : Int) = m:=by
 unfold IntKind.wrap
 simp [IntKind.bits,IntKind.signed]
 omega
theorem wrap64s : ∀ q : Nat,q < 16 → IntKind.u64.wrap (q : Int) = q:=by decide
theorem shl16 : ∀ q : Nat,q < 16 → shlI .u16 1 (q : Int) = ((2 ^ q : Nat) : Int):=by decide
theorem hasB_or {v : Int} (hv : 0 ≤ v ∧ v ≤ 65535) {q : Nat} (hq : q < 16) : hasB (bitOr .u16 v (shlI .u16 1 (IntKind.u64.wrap (q : Int)))) q = true:=by
 obtain ⟨n,rfl⟩ : ∃ n : Nat,v = n:=⟨v.toNat,by omega⟩
 have hn : n < 2 ^ 16:=by omega
 have hp : 2 ^ q < 2 ^ 16:=Nat.pow_lt_pow_right (by omega) hq
 rw [wrap64s q hq,shl16 q hq]
 have e1 : bitOr .u16 (n : Int) ((2 ^ q : Nat) : Int) = ((n ||| 2 ^ q : Nat) : Int):=by
  unfold bitOr
  have hb : IntKind.u16.bits = 16:=rfl
  rw [hb,BitVec.ofInt_natCast,BitVec.ofInt_natCast,BitVec.toNat_or,BitVec.toNat_ofNat,BitVec.toNat_ofNat,Nat.mod_eq_of_lt hn,Nat.mod_eq_of_lt hp]
  exact wrap16 (Nat.or_lt_two_pow (n:=16) hn hp)
 rw [e1]
 unfold hasB
 rw [wrap64s q hq]
 have e2 : shrI .u16 ((n ||| 2 ^ q : Nat) : Int) (q : Int) = (((n ||| 2 ^ q) / 2 ^ q : Nat) : Int):=by
  unfold shrI
  have hb : IntKind.u16.bits = 16:=rfl
  have hm : min (q : Int).toNat 16 = q:=by omega
  rw [hb,hm,Int.fdiv_eq_ediv_of_nonneg _ (by exact Int.le_of_lt (Int.pow_pos (by decide)))]
  norm_cast
 rw [e2]
 have hlt:=Nat.or_lt_two_pow (n:=16) hn hp
 have ht : Nat.testBit (n ||| 2 ^ q) q = true:=by simp [Nat.testBit_or,Nat.testBit_two_pow_self]
 rw [Nat.testBit_eq_decide_div_mod_eq,decide_eq_true_eq] at ht
 generalize (n ||| 2 ^ q) / 2 ^ q = y at *
 have e3 : bitAnd .u16 (y : Int) 1 = ((y % 2 : Nat) : Int):=by
  unfold bitAnd
  have hb : IntKind.u16.bits = 16:=rfl
  have h1 : (1 : Int) = ((1 : Nat) : Int):=rfl
  rw [hb,h1,BitVec.ofInt_natCast,BitVec.ofInt_natCast,BitVec.toNat_and,BitVec.toNat_ofNat,BitVec.toNat_ofNat,Nat.mod_eq_of_lt (show 1 < 2 ^ 16 by decide),Nat.and_one_is_mod]
  rw [wrap16 (by omega)]
  congr 1; omega
 rw [e3,ht]
 rfl
theorem bedsX_ne {x : Rx} (hx : WfRx x) {i : Nat} (hi : i = 0 ∨ i < x.which.length) (n : Nat) : (iterX x (whX x i) n 10).l ≠ []:=by
 have hq : hasB (whX x i) (6 + i % 3) = true:=by
  unfold whX
  by_cases h : i < x.which.length
  · rw [if_pos h]
    have hm : x.which.getD i 0 ∈ x.which:=by
     rw [List.getD_eq_getElem?_getD,List.getElem?_eq_getElem h]; exact List.getElem_mem h
    have:=hasB_or (hx.which _ hm) (q:=6 + i % 3) (by omega)
    exact this
  · rw [if_neg h]
    have : i = 0:=by omega
    subst this
    decide
 generalize whX x i = w at *
 obtain ⟨j,hj⟩ : ∃ j,j = 3 - i % 3:=⟨_,rfl⟩
 have hI:=iterX_ok hx w n j (by omega)
 have hstep : (iterX x w n (j + 1)).l ≠ []:=by
  show (addX x w (9 - j) (iterX x w n j)).l ≠ []
  have hl:=hI.lenj
  have e : 9 - j = 6 + i % 3:=by omega
  rw [e]
  unfold addX
  rw [if_pos ⟨by omega,hq⟩]
  simp
 have hmono : ∀ m,(iterX x w n (j + 1 + m)).l ≠ []:=by
  intro m
  induction m with
  | zero=>exact hstep
  | succ m ih =>
    show (addX x w (9 - (j + 1 + m)) (iterX x w n (j + 1 + m))).l ≠ []
    unfold addX
    split
    · simp
    · exact ih
 have:=hmono (9 - j)
 have e : j + 1 + (9 - j) = 10:=by omega
 rwa [e] at this
theorem seqOk_up : ∀ (l : List Bd) (p : Option Int),(∀ c ∈ l,c.b = 0 ∨ bedOk c.b = true) → l.Pairwise (fun a b=>a.b < b.b) → (∀ q,p = some q → ∀ c ∈ l,q < c.b) → seqOk p l = true
 | [],_,_,_,_=>rfl
 | x :: l, p, h1, h2, h3 => by
   obtain ⟨h4,h5⟩:=List.pairwise_cons.1 h2
   simp only [seqOk,Bool.and_eq_true,Bool.or_eq_true,decide_eq_true_eq]
   refine ⟨⟨h1 x (by simp),?_⟩,seqOk_up l _ (fun c hc=>h1 c (by simp [hc])) h5 (fun q hq c hc=>by injection hq with hq; subst hq; exact h4 c hc)⟩
   cases p with
   | none=>rfl
   | some q=>simpa using h3 q rfl x (by simp)
theorem aimX_ok {x : Rx} (hx : WfRx x) {i : Nat} (hi : i = 0 ∨ i < x.which.length) : aimOk 24 (aimX x i) = true ∧ (aimX x i).beds.length ≤ 5:=by
 have hI:=iterX_ok hx (whX x i) (nX x i) 10 (Nat.le_refl _)
 have hne:=bedsX_ne hx hi (nX x i)
 unfold aimX sX
 generalize iterX x (whX x i) (nX x i) 10 = p at *
 obtain ⟨l,s,h,n'⟩:=p
 obtain ⟨h1,h2,h3,h4,h5,h6,h7,h8⟩:=hI
 simp only at h1 h2 h3 h4 h5 h6 h7 h8 hne
 have hat : bedOk (bedX (6 + i % 3)) = true:=by
  have : ∀ k,k < 3 → bedOk (bedX (6 + k)) = true:=by decide
  exact this _ (Nat.mod_lt _ (by omega))
 have main : ∀ l' : List Bd,l' ≠ [] → l'.length ≤ 5 → (∀ c ∈ l',(∃ k,k < 10 ∧ c.b = bedX k) ∧ 0 ≤ c.lo ∧ c.lo ≤ c.hi ∧ c.hi ≤ 24) → l'.Pairwise (fun a b=>a.b < b.b) → loS l' ≤ 24 → 24 ≤ hiS l' →
  aimOk 24 ⟨bedX (6 + i % 3),l'⟩ = true ∧ l'.length ≤ 5:=by
  intro l' n1 n2 n3 n4 n5 n6
  refine ⟨?_,n2⟩
  unfold aimOk
  simp only [Bool.and_eq_true,decide_eq_true_eq,Bool.not_eq_true']
  refine ⟨⟨⟨⟨⟨hat,?_⟩,?_⟩,?_⟩,n5⟩,n6⟩
  · cases l' with
    | nil=>exact absurd rfl n1
    | cons _ _=>rfl
  · exact seqOk_up l' none (fun c hc=>by
     obtain ⟨⟨k,k1,k2⟩,_⟩:=n3 c hc
     rw [k2]; exact bedX_ok k1) n4 (fun q hq=>by cases hq)
  · refine List.all_eq_true.2 fun c hc=>?_
    obtain ⟨_,e1,e2,e3⟩:=n3 c hc
    simp [e1,e2,e3]
 cases l with
 | nil=>exact absurd rfl hne
 | cons c l =>
   obtain ⟨q1,q2⟩:=List.pairwise_cons.1 h4
   unfold fixX
   simp only
   have hc:=h3 c (by simp)
   have hl0 : 0 ≤ hiS l:=by
    have : ∀ l : List Bd,(∀ c ∈ l,0 ≤ c.hi) → 0 ≤ hiS l:=by
     intro l
     induction l with
     | nil=>intro _; simp [hiS]
     | cons y l ih =>
       intro hy
       have a1:=hy y (by simp)
       have a2:=ih fun c hc=>hy c (by simp [hc])
       simp only [hiS,List.map_cons,List.sum_cons] at a2 ⊢
       omega
    exact this l fun c hc=>by have:=h3 c (by simp [hc]); omega
   simp only [loS,hiS,List.map_cons,List.sum_cons] at h5 h7 hl0
   split
   · refine main _ (by simp) (by simpa using h1) ?_ ?_ ?_ ?_
     · intro d hd
       rcases List.mem_cons.1 hd with rfl | hd
       · obtain ⟨⟨k,k1,k2,k3⟩,e1,e2,e3⟩:=hc
         exact ⟨⟨k,k2,k3⟩,e1,by simp only; omega,by simp only; omega⟩
       · obtain ⟨⟨k,k1,k2,k3⟩,e⟩:=h3 d (by simp [hd])
         exact ⟨⟨k,k2,k3⟩,e⟩
     · exact List.pairwise_cons.2 ⟨q1,q2⟩
     · simp only [loS,List.map_cons,List.sum_cons]; omega
     · simp only [hiS,List.map_cons,List.sum_cons]; omega
   · refine main _ (by simp) (by simpa using h1) ?_ h4 ?_ ?_
     · intro d hd
       obtain ⟨⟨k,k1,k2,k3⟩,e⟩:=h3 d hd
       exact ⟨⟨k,k2,k3⟩,e⟩
     · simp only [loS,List.map_cons,List.sum_cons]; omega
     · simp only [hiS,List.map_cons,List.sum_cons]; omega
theorem ruleX_aim {x : Rx} (hx : WfRx x) {most : Nat} {a : Am} (ha : a ∈ (ruleX x most).aims) : aimOk 24 a = true ∧ a.beds.length ≤ 5:=by
 obtain ⟨i,hi,rfl⟩:=List.mem_map.1 ha
 rw [List.mem_range,cntX_lt] at hi
 exact aimX_ok hx (by omega)
theorem ruleX_len (x : Rx) (most : Nat) : (ruleX x most).aims.length = cntX x most:=by simp [ruleX,aimsX]
theorem ruleX_check {x : Rx} (hx : WfRx x) {most : Nat} (hm : most ≤ 20) : checkR (ruleX x most) = 0:=by
 have hl:=ruleX_len x most
 have ha:=fun a (h : a ∈ (ruleX x most).aims)=>ruleX_aim hx h
 have hs:=hx.start
 have ho:=hx.out
 have hcv : checkV (ruleX x most).d (ruleX x most).aims = 0:=by
  unfold checkV
  have hc : cntX x most ≤ 20 ∧ 1 ≤ cntX x most:=by unfold cntX; omega
  rw [if_neg,if_neg,if_pos]
  · exact List.all_eq_true.2 fun a h=>(ha a h).1
  · simp only [Bool.or_eq_true,List.isEmpty_iff,Bool.not_eq_true',Bool.and_eq_false_iff,decide_eq_false_iff_not]
    have : (ruleX x most).aims ≠ []:=fun h=>by rw [h] at hl; simp at hl; omega
    have hd : (ruleX x most).d = 24:=rfl
    simp [this,hd]
  · simp only [Bool.or_eq_true,decide_eq_true_eq,List.any_eq_true,not_or,not_exists,not_and]
    refine ⟨by omega,fun a h=>?_⟩
    have:=(ha a h).2
    omega
 unfold checkR
 rw [if_pos hcv,if_pos]
 simp only [ruleX]
 omega
theorem wf_aim {a : Am} (h : aimOk 24 a = true) : WfA a:=by
 obtain ⟨h1,h2,h3,h4,h5,h6⟩:=aimOk_facts h
 have hb : ∀ b : Int,bedOk b = true → I64 b:=fun b hb=>by
  unfold bedOk at hb
  simp only [Bool.or_eq_true,Bool.and_eq_true,decide_eq_true_eq] at hb
  unfold I64; omega
 refine ⟨hb _ h1,fun c hc=>?_⟩
 have hc2:=List.all_eq_true.1 h4 c hc
 simp only [Bool.and_eq_true,decide_eq_true_eq] at hc2
 refine ⟨?_,by unfold I64; omega,by unfold I64; omega⟩
 rcases seqOk_bed _ _ h3 c hc with h | h
 · rw [h]; unfold I64; omega
 · exact hb _ h
theorem ruleX_wf {x : Rx} (hx : WfRx x) {most : Nat} : WfL (ruleX x most).d (ruleX x most).aims:=by
 refine ⟨?_,fun a ha=>wf_aim (ruleX_aim hx ha).1⟩
 show I64 24
 unfold I64; omega
theorem bed_i64 {k : Nat} (hk : k < 10) : I64 (bedX k):=by
 have : ∀ k,k < 10 → 0 ≤ bedX k ∧ bedX k ≤ 500:=by decide
 have:=this k hk
 unfold I64; omega
theorem byteOf_ok (l : List Int) (i : Nat) : ACalls Try.prog 30 [u8s l,i64 i] (.it .u8 (byteL l i)):=by
 refine acalls_st (rs:=[.it .u8 (byteL l i)]) [.tmp 4] Try.func30 rfl (by kernel_rfl) Try.ntmps30 rfl (by simp) rfl fun C vs=>?_
 refine zq ?_
 refine zb fun K hK=>?_;simp only [go_sem];refine hK _ ?_;clear hK K;refine zw (zk [0,1]) ?_;simp only [go_sem]
 by_cases h : l = []
 · subst h
   repeat refine zq ?_
   refine zb fun K hK=>?_;simp only [go_sem];refine hK _ ?_;clear hK K;refine zw (zk [0,1,7]) ?_;simp only [go_sem]
   refine zc rfl (fun hc=>?_) (fun hc=>?_) <;> (try simp only [go_sem] at hc)
   refine zq ?_
   refine zb fun K hK=>?_;simp only [go_sem];refine hK _ ?_;clear hK K;refine zw (zk [4]) ?_;simp only [go_sem];refine ze ?_;simp only [go_sem]
   rfl
 · have hp : 0 < l.length:=List.length_pos_iff.2 h
   have c : ((l.length : Int) == 0) = false:=by simp; omega
   have hm : i % l.length < l.length:=Nat.mod_lt _ hp
   obtain ⟨x,hx⟩:=opt_of_lt hm
   have ht : (i : Int).tmod (l.length : Int) = ((i % l.length : Nat) : Int):=(Int.ofNat_tmod _ _).symm
   repeat refine zq ?_
   refine zb fun K hK=>?_;simp only [go_sem,c]
   intros
   refine hK _ ?_;clear hK K;refine zw (zk [0,1,7]) ?_;simp only [go_sem]
   refine zc rfl (fun hc=>?_) (fun hc=>?_) <;> (try simp only [go_sem] at hc)
   refine zx ?_
   try simp only [go_sem]
   refine zq ?_
   refine zb fun K hK=>?_;simp only [go_sem,ht,hx,hm]
   intros
   refine ⟨by omega,?_⟩
   refine hK _ ?_;clear hK K;refine zw (zk [4]) ?_;simp only [go_sem];refine ze ?_;simp only [go_sem]
   simp [byteL,h,List.getD_eq_getElem?_getD,hx]
theorem beds_ok : ACalls Try.prog 59 [] (ints beds10):=by
 refine acalls_st (rs:=[ints beds10]) [.tmp 0] Try.func59 rfl (by kernel_rfl) Try.ntmps59 rfl (by simp) rfl fun C vs=>?_
 refine zq ?_
 refine zb fun K hK=>?_;simp only [go_sem];refine hK _ ?_;clear hK K;refine zw (zk []) ?_;simp only [go_sem]
 refine zq ?_
 refine zb fun K hK=>?_;simp only [go_sem];refine hK _ ?_;clear hK K;refine zw (zk [0]) ?_;simp only [go_sem];refine ze ?_;simp only [go_sem]
 try rfl
theorem lowest_ok (g : Int) : ACalls Try.prog 25 [i64 g] (i64 (lowG g)):=by
 refine acalls_st (rs:=[i64 (lowG g)]) [.tmp 2] Try.func25 rfl (by kernel_rfl) Try.ntmps25 rfl (by simp) rfl fun C vs=>?_
 refine zq ?_
 refine zb fun K hK=>?_;simp only [go_sem];refine hK _ ?_;clear hK K;refine zw (zk [0]) ?_;simp only [go_sem]
 repeat refine zq ?_
 refine zb fun K hK=>?_;simp only [go_sem];refine hK _ ?_;clear hK K;refine zw (zk [4]) ?_;simp only [go_sem]
 by_cases h : g = 0
 · have e : (g == 0) = true:=by simpa using h
   have e2 : lowG g = 1:=by unfold lowG; rw [if_pos h]
   rw [e,e2]
   refine zc rfl (fun hc=>?_) (fun hc=>?_) <;> (try simp only [go_sem] at hc)
   refine zq ?_
   refine zb fun K hK=>?_;simp only [go_sem];refine hK _ ?_;clear hK K;refine zw (zk [2]) ?_;simp only [go_sem];refine ze ?_;simp only [go_sem]
 · have e : (g == 0) = false:=by simpa using h
   have e2 : lowG g = 2:=by unfold lowG; rw [if_neg h]
   rw [e,e2]
   refine zc rfl (fun hc=>?_) (fun hc=>?_) <;> (try simp only [go_sem] at hc)
   refine zx ?_
   try simp only [go_sem]
   refine zq ?_
   refine zb fun K hK=>?_;simp only [go_sem];refine hK _ ?_;clear hK K;refine zw (zk [2]) ?_;simp only [go_sem];refine ze ?_;simp only [go_sem]
end Go.Proofs.Ytgfbenanljjgaaa.Du.Th.Ai

namespace Go.Oc
open Go Go.RowKit
set_option linter.unusedVariables false
set_option linter.unusedSimpArgs false
def xopW (P : Program) (ol : List Nat) (o : Oper) (K : AS → Prop) (s : AS) : Prop :=
 match o.op,o.dst with
 | .buildSlice t n ps,some d=>if ol.contains d then aR s (some d) (sBuildOwn P s d t n (ps.toList.map fun (i,x)=>(i,s.ev x))) K else xop P false o K s
 | _,_=>xop P false o K s
theorem xopW_sound {P : Program} {C : Ctx} {s : AS} {ol : List Nat} {p : Plan} {a : Act} {w : World} {o : Oper} {KA : AS → Prop} (hp : SR C p s a w) (h : xopW P ol o KA s) (hd0 : ∀ t,o.dst = some t → t < s.n) {K : Act → World → Prop} {Q : Exit → Act → World → Prop}
 (hK : ∀ a' w' p' s',SR C p' s' a' w' → s'.n = s.n → KA s' → K a' w') (hnd : ∀ c,o.op ≠ .defer c) : o.wpIn (fnc C.rd) 0 P a w K Q:=by
 unfold xopW at h
 split at h
 · rename_i t n ps d ho hdst
   split at h
   · refine wpIn_of_wp hnd ?_
     have hd1 : o.dst.getD 0 = d:=by rw [hdst]; rfl
     have hg:=good_buildOwn (o:=o) hp ho (by rw [hd1]; exact h.1)
     rw [hd1] at hg
     obtain ⟨nx,v,w',p',hrun,hnx,hass,hSR,hrel⟩:=hg
     unfold Oper.wp
     rw [hrun]
     have hput:=hSR.put' (d:=o.dst) hrel (fun t ht=>hd0 t ht)
     have hk:=h.2 hass
     rw [← hdst] at hk
     rcases hnx with rfl | ⟨rfl,rfl⟩
     · exact hK (a.put o.dst v) w' p' _ hput (app_n _ _ _) hk
     · exact hK (a.put o.dst undef) w' p' _ hput (app_n _ _ _) hk
   · exact xop_sound hp h hd0 hK hnd
 · exact xop_sound hp h hd0 hK hnd
def stepAllO (P : Program) (ol : List Nat) (ops : Array Oper) (n : Nat) (F : (Nat → Bool) → (Nat → Nat) → List (Nat × AV)) (R : (Nat → Bool) → (Nat → Nat) → List (Nat × RowC)) : Nat → List Oper → Prop
 | _,[]=>True
 | k,o :: rest=>(∀ b vs,(∀ j e,j < ops.size → (deps ops j).contains e = true → b j = true → b e = true) → b k = false → (∀ e ∈ deps ops k,b e = true) →
  xopW P ol o (FitV n (F (upd b k true)) (R (upd b k true))) (st n (F b vs) vs (R b vs))) ∧ stepAllO P ol ops n F R (k + 1) rest
theorem stepAllO_get {P : Program} {ol : List Nat} {ops : Array Oper} {n : Nat} {F : (Nat → Bool) → (Nat → Nat) → List (Nat × AV)} {R : (Nat → Bool) → (Nat → Nat) → List (Nat × RowC)} : ∀ {l : List Oper} {k i : Nat} {o : Oper},stepAllO P ol ops n F R k l → l[i]? = some o →
 ∀ b vs, (∀ j e, j < ops.size → (deps ops j).contains e = true → b j = true → b e = true) → b (k + i) = false → (∀ e ∈ deps ops (k + i), b e = true) →
   xopW P ol o (FitV n (F (upd b (k + i) true)) (R (upd b (k + i) true))) (st n (F b vs) vs (R b vs))
 | [],_,_,_,_,h=>by simp at h
 | x :: l, k, 0, o, hs, h => by
   simp only [List.getElem?_cons_zero,Option.some.injEq] at h
   subst h
   exact hs.1
 | x :: l, k, i + 1, o, hs, h => by
   have:=stepAllO_get (k:=k + 1) (i:=i) hs.2 (by simpa using h)
   rwa [show k + 1 + i = k + (i + 1) by omega] at this
section
variable {P : Program} {C : Ctx} {s : AS} {a : Act} {w : World} {ops : Array Oper}
theorem inv_anyO {ol : List Nat} {Q : AS → Prop} {Q' : Exit → Act → World → Prop} (hQ : ∀ s a w,Q s → SRel C s a w → Q' .normal a w) {n : Nat} {F : (Nat → Bool) → (Nat → Nat) → List (Nat × AV)} {R : (Nat → Bool) → (Nat → Nat) → List (Nat × RowC)}
 (hd : dstOk ops n = true) (hg : ops.all (fun o=>o.guard.isNone) = true) (hu : upOk ops = true) (hstep : stepAllO P ol ops n F R 0 ops.toList)
 (hend : ∀ b vs,(∀ j,b j = true) → Q (st n (F b vs) vs (R b vs))) :
 ∀ (fuel : Nat) (vs : Nat → Nat) (listed : Array Bool) (a : Act) (w : World), listed.size = ops.size → down ops listed → unl listed ops.size ≤ fuel → SRel C (st n (F (fun j => listed.getD j true) vs) vs (R (fun j => listed.getD j true) vs)) a w →
   wpAnyIn (fnc C.rd) 0 P .any ops Q' fuel listed a w:=by
 have all : ∀ {listed : Array Bool},listed.size = ops.size → (∀ j,j < ops.size → listed.getD j true = true) → ∀ j,(fun j=>listed.getD j true) j = true:=fun {listed} hsz h j=>by
  by_cases hj : j < ops.size
  · exact h j hj
  · show listed.getD j true = true
    have : ¬ j < listed.size:=by omega
    simp [this]
 intro fuel
 induction fuel with
 | zero =>
   intro vs listed a w hsz hdn hf hs
   have h0:=unl_zero (listed:=listed) ops.size (by omega)
   refine ⟨List.eq_nil_iff_forall_not_mem.2 fun j hj=>?_,hQ _ _ _ (hend _ _ (all hsz h0)) hs⟩
   obtain ⟨h1,o,ho,_⟩:=mem_ready.1 hj
   have:=h0 j (Array.getElem?_eq_some_iff.1 ho).1
   rw [this] at h1
   cases h1
 | succ fuel ih =>
   intro vs listed a w hsz hdn hf hs
   refine ⟨fun h0=>hQ _ _ _ (hend _ _ (all hsz (ready_nil hu h0 hsz))) hs,fun i hi=>?_⟩
   obtain ⟨hi1,o,ho,hall⟩:=mem_ready.1 hi
   unfold wpOpIn
   rw [ho]
   simp only
   have hil : i < ops.size:=(Array.getElem?_eq_some_iff.1 ho).1
   have hgo : o.guard = none:=by
    have:=Array.all_eq_true_iff_forall_mem.1 hg o (Array.mem_of_getElem? ho)
    simpa using this
   obtain ⟨p,hp⟩:=hs
   rw [if_pos (wantA_sound hp (by simp [wantA,hgo]))]
   have hx:=stepAllO_get (k:=0) (i:=i) hstep (by rw [Array.getElem?_toList]; exact ho) (fun j=>listed.getD j true) vs (fun j e hj he hb=>?_) (by rw [Nat.zero_add]; exact hi1) (fun e he=>?_)
   · rw [Nat.zero_add] at hx
     refine xopW_sound hp hx (dstOk_get hd ho) (fun a' w' p' s' hs' hn hK=>?_) (dstOk_nd hd ho)
     obtain ⟨vs',hsub⟩:=hK
     have e : upd (fun j=>listed.getD j true) i true = fun j=>(listed.setIfInBounds i true).getD j true:=by
      funext j
      rw [getD_setT]
      rfl
     rw [e] at hsub
     exact ih vs' _ a' w' (by simpa using hsz) (down_set hdn hi) (by have:=unl_set hi1 ops.size hil; omega) (hsub C a' w' ⟨p',hs'⟩)
   · have hjs : j < listed.size:=by omega
     have hb' : listed.getD j true = true:=hb
     have h2:=hdn j (by simpa [hjs] using hb') e (by simpa using he)
     show listed.getD e true = true
     by_cases hes : e < listed.size
     · simpa [hes] using h2
     · simp [hes]
   · have h2:=ready_deps hi e (by simpa using he)
     show listed.getD e true = true
     by_cases hes : e < listed.size
     · simpa [hes] using h2
     · simp [hes]
end
theorem awp_invO {P : Program} (ol : List Nat) {C : Ctx} {id : Nat} {l : List Oper} {n : Nat} {Q : Exit → AS → Prop} {s : AS} (F : (Nat → Bool) → (Nat → Nat) → List (Nat × AV)) (R : (Nat → Bool) → (Nat → Nat) → List (Nat × RowC)) (hm : P.follows .mixedOrders = true)
 (hd : dstOk l.toArray n = true) (hg : l.toArray.all (fun o=>o.guard.isNone) = true) (hu : upOk l.toArray = true) (h0 : FitV n (F fun j=>decide (l.length ≤ j)) (R fun j=>decide (l.length ≤ j)) s)
 (hstep : stepAllO P ol l.toArray n F R 0 l) (hend : ∀ b vs,(∀ j,b j = true) → Q .normal (st n (F b vs) vs (R b vs))) : awp P C (.region id l.toArray true) Q s:=fun a w hs=>by
 obtain ⟨vs,hsub⟩:=h0
 obtain ⟨p,hp⟩:=hsub C a w hs
 have hs' : SR C p _ a { w with drawn:=w.drawn + 1 }:=hp.below (w':=w.drew) ((Below.refl _ _).drew) (fun _ h=>h) (fun _ h=>.inl h) hp.rb
 refine wpIn_region_any hm ?_
 have e : (fun j=>(Array.replicate l.toArray.size false).getD j true) = fun j=>decide (l.length ≤ j):=by
  funext j
  by_cases h : j < l.length
  · have : ¬ l.length ≤ j:=by omega
    simp [h,this]
  · have : l.length ≤ j:=by omega
    simp [h,this]
 refine inv_anyO (ol:=ol) (Q:=fun s=>Q .normal s) (n:=n) (F:=F) (R:=R) (fun s a w hq hs=>⟨s,hs,hq⟩) hd hg hu (by simpa using hstep) hend _ vs _ _ _ (by simp) (fun j hj=>?_) ?_ ?_
 · exfalso
   simp only [Array.getD_eq_getD_getElem?,Array.getElem?_replicate] at hj
   split at hj <;> simp at hj
 · have : ∀ m,unl (Array.replicate l.toArray.size false) m ≤ m:=by
    intro m
    induction m with
    | zero=>exact Nat.le_refl _
    | succ m ih=>simp only [unl]; split <;> omega
   exact this _
 · rw [e]
   exact ⟨p,hs'⟩
end Go.Oc

namespace Go.Proofs.Ytgfbenanljjgaaa.Du.Th.Ai
open Go Go.Oc
set_option linter.unusedSimpArgs false
set_option linter.unusedVariables false
set_option maxRecDepth 8000
set_option maxHeartbeats 8000000
abbrev rxC (x : Rx) : List RV:=[.sl 1 (x.which.map fun n=>[.it .u16 n]),u8s x.low,u8s x.high,.it .u8 x.start,.it .u8 x.out]
def vG (b : Nat → Bool) (j : Nat) (v : AV) : AV:=if b j then v else .r .un
def gbF (A : List RV) (most n i k : Nat) (w q sm hgh : Int) (c : Bd) (l : List Bd) (b : Nat → Bool) (vs : Nat → Nat) : List (Nat × AV) :=
 [(1,.r (i64 most)),(2,.r (.rp A)),(4,.pt 4 (vs 4) 0),(5,.pt 5 (vs 5) 0),(6,.r (i64 (n : Int))),(7,.r (i64 (i : Int))),(8,.r (.it .u16 w)),(9,.pt 9 (vs 9) 0),(10,.r (ints beds10)),(11,.r (i64 sm)),(12,.r (i64 hgh)),(13,.r (i64 (k : Int))),(14,.r (.rp [i64 c.lo,i64 c.hi])),
  (106,vG b 0 (.r (ints beds10))),
  (107,vG b 1 (.r (i64 (k : Int)))),
  (108,vG b 2 (.r (.rp [i64 c.b]))),
  (109,vG b 3 (.r (i64 c.b))),
  (110,vG b 4 (.r (.ag [i64 c.lo,i64 c.hi]))),
  (111,vG b 5 (.ag [.r (i64 c.b),.r (i64 c.lo),.r (i64 c.hi)])),
  (112,vG b 6 (.os 112 (vs 112 - (bif b 9 then 1 else 0)) 3 0 1)),
  (113,vG b 7 (.pt 9 (vs 9) 1)),
  (114,vG b 8 (.r (.sl 3 (l.map bedR)))),
  (115,vG b 9 (.os 112 (vs 112) 3 0 (l.length + 1))),
  (116,vG b 10 (.pt 9 (vs 9) 1))]
def gbR (S O q : Int) (i : Nat) (aa : List (List RV)) (c : Bd) (l : List Bd) (b : Nat → Bool) (vs : Nat → Nat) : List (Nat × RowC) :=
 bif b 11 then [(4,.box [.r (i64 0),.r .ns,.r (i64 0),.r (i64 0)]),(5,.box [.r (i64 24),.os 158 (vs 158) 2 0 i,.r (i64 S),.r (i64 O)]),(9,.box [.r (i64 q),.os 112 (vs 112) 3 0 (l.length + 1)]),(112,.arr 68 3 (bedR c :: l.map bedR)),(158,.arr 63 2 aa)]
 else bif b 9 then [(4,.box [.r (i64 0),.r .ns,.r (i64 0),.r (i64 0)]),(5,.box [.r (i64 24),.os 158 (vs 158) 2 0 i,.r (i64 S),.r (i64 O)]),(9,.box [.r (i64 q),.r (.sl 3 (l.map bedR))]),(112,.arr 68 3 (bedR c :: l.map bedR)),(158,.arr 63 2 aa)]
 else bif b 6 then [(4,.box [.r (i64 0),.r .ns,.r (i64 0),.r (i64 0)]),(5,.box [.r (i64 24),.os 158 (vs 158) 2 0 i,.r (i64 S),.r (i64 O)]),(9,.box [.r (i64 q),.r (.sl 3 (l.map bedR))]),(112,.arr 68 3 [bedR c]),(158,.arr 63 2 aa)]
 else [(4,.box [.r (i64 0),.r .ns,.r (i64 0),.r (i64 0)]),(5,.box [.r (i64 24),.os 158 (vs 158) 2 0 i,.r (i64 S),.r (i64 O)]),(9,.box [.r (i64 q),.r (.sl 3 (l.map bedR))]),(158,.arr 63 2 aa)]
theorem rules_ok {x : Rx} (hw : WfRx x) (most : Nat) (hmost : most ≤ 20) : ACalls Try.prog 24 [.ag (rxC x),i64 most] (rkR (ruleX x most)):=by
 obtain ⟨s0,s1⟩:=hw.start
 obtain ⟨o0,o1⟩:=hw.out
 have q1 : IntKind.i64.wrap x.start = x.start:=by rw [zI] <;> omega
 have q2 : x.start.tmod 5 = x.start % 5:=Int.tmod_eq_emod_of_nonneg s0
 have q3 : x.out.tmod 3 = x.out % 3:=Int.tmod_eq_emod_of_nonneg o0
 have q4 : IntKind.i64.wrap (x.out % 3) = x.out % 3:=by rw [zI] <;> omega
 have q5 : IntKind.i64.wrap (2 + x.start % 5) = 2 + x.start % 5:=by rw [zI] <;> omega
 have hbe:=beds_ok
 refine acalls_st (rs:=[rkR (ruleX x most)]) [.cell 4 27] Try.func24 rfl (by kernel_rfl) Try.ntmps24 rfl (by simp) rfl fun C vs=>?_
 refine zq ?_
 refine zb fun K hK=>?_;simp only [go_sem];refine hK _ ?_;clear hK K;refine zw (sub_frzP 2 2 (rxC x) (by omega) rfl rfl) ?_;refine zw (zk [1,2,4]) ?_;simp only [go_sem]
 refine zq ?_
 refine zb fun K hK=>?_;simp only [go_sem,q1,q2,q3,q4,q5];refine hK _ ?_;clear hK K;refine zw (zk [1,2,4,5]) ?_;simp only [go_sem]
 refine zq ?_
 refine zb fun K hK=>?_;simp only [go_sem];refine hK _ ?_;clear hK K;refine zw (zk [1,2,4,5,6]) ?_;simp only [go_sem]
 repeat refine zq ?_
 refine zb fun K hK=>?_;simp only [go_sem];refine hK _ ?_;clear hK K;refine zw (zk [1,2,4,5,6,7]) ?_;simp only [go_sem];refine zd ?_;refine zw (sub_ownB 5 1 158 63 2 (by omega) (by omega) rfl rfl) ?_
 try simp only [go_sem]
 generalize hS : 2 + x.start % 5 = S
 generalize hO : x.out % 3 = O
 refine awp_whileV (n:=153) (fun (i : Nat) vs=>[(1,.r (i64 most)),(2,.r (.rp (rxC x))),(4,.pt 4 (vs 4) 0),(5,.pt 5 (vs 5) 0),(6,.r (i64 (nX x i : Int))),(7,.r (i64 (i : Int)))])
  (fun i vs=>[(4,.box [.r (i64 0),.r .ns,.r (i64 0),.r (i64 0)]),(5,.box [.r (i64 24),.os 158 (vs 158) 2 0 i,.r (i64 S),.r (i64 O)]),(158,.arr 63 2 ((aimsX x i).map aimR))])
  (fun i=>i ≤ cntX x most) (fun i=>cntX x most - i) 0 (zj [] ?_ ?_) (Nat.zero_le _) ?_
 · try simp only [go_sem]
   try rfl
 · try simp only [go_sem]
   try rfl
 intro i vs hi
 have hml:=cntX_lt x most i
 repeat refine zq ?_
 refine awp_joinV (n:=153) (fun (_ : Unit) vs=>[(1,.r (i64 most)),(2,.r (.rp (rxC x))),(4,.pt 4 (vs 4) 0),(5,.pt 5 (vs 5) 0),(6,.r (i64 (nX x i : Int))),(7,.r (i64 (i : Int))),(39,.r (.bo (decide (i < cntX x most))))])
  (fun _ vs=>[(4,.box [.r (i64 0),.r .ns,.r (i64 0),.r (i64 0)]),(5,.box [.r (i64 24),.os 158 (vs 158) 2 0 i,.r (i64 S),.r (i64 O)]),(158,.arr 63 2 ((aimsX x i).map aimR))]) (fun _=>True) (fun _ h=>h) ?_ ?_
 · skip
   refine zb fun K hK=>?_;simp only [go_sem,List.length_map]
   repeat' first | intro _ | refine And.intro ?_ ?_
   all_goals first | omega | skip
   all_goals (refine hK _ ?_; clear hK K)
   all_goals (try simp only [go_sem])
   all_goals (refine ⟨(),zj [] ?_ ?_⟩ <;> try simp only [go_sem])
   all_goals (rw [Bool.eq_iff_iff]; simp; omega)
 intro _ vs _
 refine zc rfl (fun hc=>?_) (fun hc=>?_) <;> (try simp only [go_sem] at hc)
 rotate_left
 · have hie : i = cntX x most:=by
    have : ¬ i < cntX x most:=by simpa using hc
    omega
   subst hie
   have hR : rkR (ruleX x most) = .ag [i64 24,aimsR (aimsX x (cntX x most)),i64 S,i64 O]:=by rw [← hS,← hO]; rfl
   have hal : (aimsX x (cntX x most)).length = cntX x most:=by simp [aimsX]
   rw [hR]
   refine zf ?_;simp only [go_sem];refine zw (sub_frzB 5 1 158 (by omega) (by omega) rfl rfl rfl (by simp [hal])) ?_
   try simp only [go_sem]
   rw [List.take_of_length_le (show ((aimsX x (cntX x most)).map aimR).length ≤ cntX x most by simp [hal])]
   refine zw (zk [4,5]) ?_;simp only [go_sem]
   refine zq ?_
   refine zb fun K hK=>?_;simp only [go_sem];refine hK _ ?_;clear hK K;refine zw (zk [4]) ?_;simp only [go_sem];refine ze ?_;simp only [go_sem]
 have hil : i < cntX x most:=by simpa using hc
 refine zx ?_
 try simp only [go_sem]
 refine zq ?_
 refine zd ?_
 obtain ⟨q,hq⟩ : ∃ q,q = 6 + i % 3:=⟨_,rfl⟩
 have hq8 : q ≤ 8:=by omega
 have ht : (i : Int).tmod 3 = ((i % 3 : Nat) : Int):=(Int.ofNat_tmod _ _).symm
 have hqi : IntKind.i64.wrap (6 + (i : Int).tmod 3) = (q : Int):=by rw [ht,zI] <;> omega
 have hqw : (0 : Int) ≤ IntKind.u64.wrap (q : Int):=by rw [wrap64s q (by omega)]; omega
 obtain ⟨w,hwq⟩ : ∃ w,w = whX x i:=⟨_,rfl⟩
 refine zq ?_
 refine zb fun K hK=>?_;simp only [go_sem];refine hK _ ?_;clear hK K;refine zw (zk [1,2,4,5,6,7,8]) ?_;simp only [go_sem]
 repeat refine zq ?_
 refine zb fun K hK=>?_;simp only [go_sem,List.length_map]
 intro _
 refine hK _ ?_;clear hK K;refine zw (zk [1,2,4,5,6,7,8,46]) ?_;simp only [go_sem]
 refine awp_joinV (n:=153) (fun (_ : Unit) vs=>[(1,.r (i64 most)),(2,.r (.rp (rxC x))),(4,.pt 4 (vs 4) 0),(5,.pt 5 (vs 5) 0),(6,.r (i64 (nX x i : Int))),(7,.r (i64 (i : Int))),(8,.r (.it .u16 w))])
  (fun _ vs=>[(4,.box [.r (i64 0),.r .ns,.r (i64 0),.r (i64 0)]),(5,.box [.r (i64 24),.os 158 (vs 158) 2 0 i,.r (i64 S),.r (i64 O)]),(158,.arr 63 2 ((aimsX x i).map aimR))]) (fun _=>True) (fun _ h=>h) ?_ ?_
 · by_cases hiw : i < x.which.length
   · obtain ⟨n,hn⟩:=opt_of_lt hiw
     have hwv : w = bitOr .u16 n (shlI .u16 1 (IntKind.u64.wrap (q : Int))):=by
      rw [hwq,whX,if_pos hiw,hq]
      simp [List.getD,hn]
     rw [hwv]
     have hm:=hw.which n (mem_of_opt hn)
     refine zc rfl (fun hc=>?_) (fun hc=>?_) <;> (try simp only [go_sem] at hc)
     rotate_left
     · exact absurd hiw hc
     refine zb fun K hK=>?_;simp only [go_sem,hn,hiw,hqi,List.length_map];refine hK _ ?_;clear hK K
     try simp only [go_sem]
     exact ⟨(),zj [] (by try simp only [go_sem]) (by try simp only [go_sem])⟩
   · have hwv : w = 64:=by rw [hwq,whX,if_neg hiw]
     rw [hwv]
     refine zc rfl (fun hc=>?_) (fun hc=>?_) <;> (try simp only [go_sem] at hc)
     · exact absurd hc hiw
     refine zx ?_
     try simp only [go_sem]
     exact ⟨(),zj [] (by try simp only [go_sem]) (by try simp only [go_sem])⟩
 intro _ vs _
 have hbl : beds10.length = 10:=rfl
 have hq10 : q < 10:=by omega
 have hqb : beds10[q]? = some (bedX q):=by
  unfold bedX
  rw [List.getD_eq_getElem?_getD,List.getElem?_eq_getElem (by rw [hbl]; exact hq10)]; rfl
 refine zq ?_
 refine awp_dreg2 [(7,none)] follows (by decide +kernel) (by kernel_rfl) (by simp only [keysOk,List.mem_cons,List.not_mem_nil,forall_eq_or_imp,Oc.keyOf,go_sem]; simp) fun K hK=>?_
 simp only [go_sem,hqi,hqb,hbl,hq10]
 refine zh (hbe) rfl (by simp only [go_sem,i64,ints,hqi,hqb,hbl,hq10]) (by simp only [go_sem,i64,ints,hqi,hqb,hbl,hq10]) (by first | exact .inl rfl | exact .inr rfl) ?_
 (try simp only [go_sem,hqi,hqb,hbl,hq10])
 refine ⟨by omega,?_⟩
 refine zh (hbe) rfl (by simp only [go_sem,i64,ints,hqi,hqb,hbl,hq10]) (by simp only [go_sem,i64,ints,hqi,hqb,hbl,hq10]) (by first | exact .inl rfl | exact .inr rfl) ?_
 (try simp only [go_sem,hqi,hqb,hbl,hq10]);refine hK _ ?_;clear hK K;refine zw (sub_ownB 9 1 112 68 3 (by omega) (by omega) rfl rfl) ?_;refine zw (zk [1,2,4,5,6,7,8,9,10,11,12]) ?_;simp only [go_sem]
 repeat refine zq ?_
 refine zb fun K hK=>?_;simp only [go_sem];refine hK _ ?_;clear hK K;refine zw (zk [1,2,4,5,6,7,8,9,10,11,12,13]) ?_;simp only [go_sem];refine zd ?_
 have hnj:=fun j=>iterX_n x w (nX x i) j
 have hnx:=nX_le x i
 have hcn : i < 20:=by unfold cntX at hil; omega
 have hI:=fun j (hj : j ≤ 10)=>iterX_ok hw w (nX x i) j hj
 have hn10 : nX x (i + 1) = (iterX x w (nX x i) 10).n:=by rw [hwq]; rfl
 have hs10 : aimX x i = ⟨bedX q,fixX (iterX x w (nX x i) 10)⟩:=by rw [hwq,hq]; rfl
 have hn0 : nX x i = (iterX x w (nX x i) 0).n:=rfl
 have hfull:=iterX_full x w (nX x i)
 have hstep : ∀ j,iterX x w (nX x i) (j + 1) = addX x w (9 - j) (iterX x w (nX x i) j):=fun j=>rfl
 have hz : iterX x w (nX x i) 0 = ⟨[],0,0,nX x i⟩:=rfl
 generalize hitd : iterX x w (nX x i) = it at *
 refine awp_uptoV (n:=153) 10 (fun j vs=>[(1,.r (i64 most)),(2,.r (.rp (rxC x))),(4,.pt 4 (vs 4) 0),(5,.pt 5 (vs 5) 0),(6,.r (i64 ((it j).n : Int))),(7,.r (i64 (i : Int))),(8,.r (.it .u16 w)),(9,.pt 9 (vs 9) 0),(10,.r (ints beds10)),(11,.r (i64 (it j).sum)),(12,.r (i64 (it j).high)),(13,.r (i64 (9 - (j : Int))))])
  (fun j vs=>[(4,.box [.r (i64 0),.r .ns,.r (i64 0),.r (i64 0)]),(5,.box [.r (i64 24),.os 158 (vs 158) 2 0 i,.r (i64 S),.r (i64 O)]),(9,.box [.r (i64 (bedX q)),.os 112 (vs 112) 3 0 (it j).l.length]),(112,.arr 68 3 ((it j).l.map bedR)),(158,.arr 63 2 ((aimsX x i).map aimR))]) (fun _=>True) 0 (zj [] ?_ ?_) (Nat.zero_le _) trivial ?_
 · try simp only [go_sem]
   rw [hz]
   try simp
 · try simp only [go_sem]
   rw [hz]
   try rfl
 intro j vs hj _
 have hIj:=hI j hj
 have hfj:=hfull j
 have hsj:=hstep j
 have hnj':=hnj j
 generalize hP : it j = P at *
 obtain ⟨l,sm,hgh,n⟩:=P
 simp only at hIj hfj
 have hl5:=hIj.len
 simp only at hl5
 by_cases hcj : j < 10 ∧ l.length < 5
 · obtain ⟨hj10,hlt5⟩:=hcj
   obtain ⟨k,hk⟩ : ∃ k,k = 9 - j:=⟨_,rfl⟩
   have hk9 : (9 : Int) - (j : Int) = (k : Int):=by omega
   have hkd : IntKind.i64.wrap ((k : Int) - 1) = 9 - ((j + 1 : Nat) : Int):=by rw [zI] <;> omega
   have hkw : (0 : Int) ≤ IntKind.u64.wrap (k : Int):=by rw [wrap64s k (by omega)]; omega
   rw [← hk] at hsj
   have e1 : decide ((k : Int) ≥ 0) = true:=by simp
   have e2 : decide ((l.length : Int) < 5) = true:=by simp; omega
   simp only
   rw [hk9]
   repeat refine zq ?_
   refine zb fun K hK=>?_;simp only [go_sem,e1,e2,List.length_map]
   intro _
   refine hK _ ?_;clear hK K;refine zw (zk [1,2,4,5,6,7,8,9,10,11,12,13,73]) ?_;simp only [go_sem]
   refine zc rfl (fun hc=>?_) (fun hc=>?_) <;> (try simp only [go_sem] at hc)
   refine zx ?_
   try simp only [go_sem]
   refine zq ?_
   refine zd ?_
   refine zq ?_
   refine zb fun K hK=>?_;simp only [go_sem];refine hK _ ?_;clear hK K;refine zw (zk [1,2,4,5,6,7,8,9,10,11,12,13,81]) ?_;simp only [go_sem]
   cases hB : hasB w k
   · have hB' : (bitAnd IntKind.u16 (shrI IntKind.u16 w (IntKind.u64.wrap (k : Int))) 1 == 1) = false:=hB
     have hns : it (j + 1) = ⟨l,sm,hgh,n⟩:=by
      rw [hsj]; unfold addX; rw [if_neg (by simp [hB])]
     rw [hns]
     rw [hB']
     refine zc rfl (fun hc=>?_) (fun hc=>?_) <;> (try simp only [go_sem] at hc)
     refine zx ?_
     try simp only [go_sem]
     refine zb fun K hK=>?_;simp only [go_sem,hkd];refine hK _ ?_;clear hK K
     try simp only [go_sem]
     refine ⟨hj10,zj [] ?_ ?_⟩
     · try simp only [go_sem]
     · try simp only [go_sem]
   · have hB' : (bitAnd IntKind.u16 (shrI IntKind.u16 w (IntKind.u64.wrap (k : Int))) 1 == 1) = true:=hB
     rw [hB']
     refine zc rfl (fun hc=>?_) (fun hc=>?_) <;> (try simp only [go_sem] at hc)
     have bl:=byteL_le hw.low n
     have bh:=byteL_le hw.high n
     have hb1:=byteOf_ok x.low n
     have hb2:=byteOf_ok x.high n
     obtain ⟨smb0,smb1⟩:=hIj.sum0
     obtain ⟨hgb0,hgb1⟩:=hIj.high0
     simp only at smb0 smb1 hgb0 hgb1
     obtain ⟨bl',hbl'⟩ : ∃ b,b = byteL x.low n:=⟨_,rfl⟩
     obtain ⟨bh',hbh'⟩ : ∃ b,b = byteL x.high n:=⟨_,rfl⟩
     obtain ⟨lo,hlo⟩ : ∃ lo,lo = min (bl' % 6) (24 - sm):=⟨_,rfl⟩
     obtain ⟨hi',hhi⟩ : ∃ hi,hi = min 24 (lo + bh' % 9):=⟨_,rfl⟩
     have hns : it (j + 1) = ⟨⟨bedX k,lo,hi'⟩ :: l,sm + lo,hgh + hi',n + 1⟩:=by
      rw [hsj]; unfold addX; rw [if_pos ⟨hlt5,hB⟩,hhi,hlo,hbl',hbh']
     rw [← hbl'] at bl hb1
     rw [← hbh'] at bh hb2
     have t1 : bl'.tmod 6 = bl' % 6:=Int.tmod_eq_emod_of_nonneg bl.1
     have t2 : bh'.tmod 9 = bh' % 9:=Int.tmod_eq_emod_of_nonneg bh.1
     have w1 : IntKind.i64.wrap bl' = bl':=by rw [zI] <;> omega
     have w2 : IntKind.i64.wrap bh' = bh':=by rw [zI] <;> omega
     have w3 : IntKind.i64.wrap (24 - sm) = 24 - sm:=by rw [zI] <;> omega
     have w4 : IntKind.i64.wrap (lo + bh' % 9) = lo + bh' % 9:=by rw [zI] <;> omega
     have w5 : IntKind.i64.wrap ((n : Int) + 1) = ((n + 1 : Nat) : Int):=by
      have : n ≤ 1000:=by simp only at hnj'; omega
      rw [zI] <;> omega
     have hk10 : k < 10:=by omega
     have hkb : beds10[k]? = some (bedX k):=by
      unfold bedX
      rw [List.getD_eq_getElem?_getD,List.getElem?_eq_getElem (by rw [hbl]; exact hk10)]; rfl
     rw [hns]
     refine zq ?_
     refine zb fun K hK=>?_;simp only [go_sem,w1,t1]
     refine zh (hb1) rfl (by simp only [go_sem,i64,ints,w1,t1]) (by simp only [go_sem,i64,ints,w1,t1]) (by first | exact .inl rfl | exact .inr rfl) ?_
     (try simp only [go_sem,w1,t1]);refine hK _ ?_;clear hK K;refine zw (zk [1,2,4,5,6,7,8,9,10,11,12,13,14]) ?_;simp only [go_sem]
     refine zq ?_
     refine zb fun K hK=>?_;simp only [go_sem,w3];refine hK _ ?_;clear hK K;rw [← hlo]
     refine zw (zk [1,2,4,5,6,7,8,9,10,11,12,13,14]) ?_;simp only [go_sem]
     refine zq ?_
     refine awp_dreg2 [(2,none),(6,none),(14,some 14)] follows (by decide +kernel) (by kernel_rfl) (by simp only [keysOk,List.mem_cons,List.not_mem_nil,forall_eq_or_imp,Oc.keyOf,go_sem]; simp) fun K hK=>?_
     simp only [go_sem,w2,t2,w4]
     refine zh (hb2) rfl (by simp only [go_sem,i64,ints,w2,t2,w4]) (by simp only [go_sem,i64,ints,w2,t2,w4]) (by first | exact .inl rfl | exact .inr rfl) ?_
     (try simp only [go_sem,w2,t2,w4]);refine hK _ ?_;clear hK K;rw [← hhi]
     refine zw (sub_frzP 14 14 [i64 lo,i64 hi'] (by omega) rfl rfl) ?_;refine zw (sub_frzB 9 1 112 (by omega) (by omega) rfl rfl rfl (by simp)) ?_
     try simp only [go_sem]
     refine zw (zk [1,2,4,5,6,7,8,9,10,11,12,13,14]) ?_;simp only [go_sem]
     obtain ⟨c,hc'⟩ : ∃ c : Bd,c = ⟨bedX k,lo,hi'⟩:=⟨_,rfl⟩
     rw [← hc']
     have hclo : lo = c.lo:=by rw [hc']
     have hchi : hi' = c.hi:=by rw [hc']
     have hcb : bedX k = c.b:=by rw [hc']
     rw [hclo,hchi]
     refine zq ?_
     refine awp_invO [112] (n:=153) (gbF (rxC x) most n i k w (bedX q) sm hgh c l) (gbR S O (bedX q) i ((aimsX x i).map aimR) c l) follows (by kernel_rfl) (by kernel_rfl) (by decide +kernel) (zj [] ?_ ?_) ?_ ?_
     · simp only [go_sem,gbF,vG,hclo,hchi,if_true,if_false,Bool.false_eq_true,cond_false]
     · simp only [go_sem,gbR,cond_false,List.cons_append,List.nil_append]
     · refine ⟨fun b vs hdn hbk hde=>?_,fun b vs hdn hbk hde=>?_,fun b vs hdn hbk hde=>?_,fun b vs hdn hbk hde=>?_,fun b vs hdn hbk hde=>?_,fun b vs hdn hbk hde=>?_,fun b vs hdn hbk hde=>?_,fun b vs hdn hbk hde=>?_,fun b vs hdn hbk hde=>?_,fun b vs hdn hbk hde=>?_,fun b vs hdn hbk hde=>?_,fun b vs hdn hbk hde=>?_,trivial⟩
       · skip
         have G:=dnT hdn hbk [2,10,11,3,5,6,9] (by decide +kernel)
         simp only [allB,and_true] at G
         (simp only [go_sem,gbF,gbR,upd,vG,cond_true,cond_false,if_true,Bool.false_eq_true,if_false,hbk,G,xopW,sBuildOwn,hkb,hbl,hk10,hcb,List.length_map,List.length_cons,List.length_nil,Nat.sub_zero,Nat.add_sub_cancel,Nat.zero_add,Nat.add_comm 1 l.length,bedR])
         all_goals (refine zj [] ?_ ?_ <;> (simp only [go_sem,gbF,gbR,upd,vG,cond_true,cond_false,if_true,Bool.false_eq_true,if_false,hbk,G,xopW,sBuildOwn,hkb,hbl,hk10,hcb,List.length_map,List.length_cons,List.length_nil,Nat.sub_zero,Nat.add_sub_cancel,Nat.zero_add,Nat.add_comm 1 l.length,bedR]))
       · skip
         have G:=dnT hdn hbk [2,10,11,3,5,6,9] (by decide +kernel)
         simp only [allB,and_true] at G
         (simp only [go_sem,gbF,gbR,upd,vG,cond_true,cond_false,if_true,Bool.false_eq_true,if_false,hbk,G,xopW,sBuildOwn,hkb,hbl,hk10,hcb,List.length_map,List.length_cons,List.length_nil,Nat.sub_zero,Nat.add_sub_cancel,Nat.zero_add,Nat.add_comm 1 l.length,bedR])
         all_goals (refine zj [] ?_ ?_ <;> (simp only [go_sem,gbF,gbR,upd,vG,cond_true,cond_false,if_true,Bool.false_eq_true,if_false,hbk,G,xopW,sBuildOwn,hkb,hbl,hk10,hcb,List.length_map,List.length_cons,List.length_nil,Nat.sub_zero,Nat.add_sub_cancel,Nat.zero_add,Nat.add_comm 1 l.length,bedR]))
       · skip
         have H:=upT hdn hde [0,1] (by decide +kernel)
         have G:=dnT hdn hbk [3,10,11,5,6,9] (by decide +kernel)
         simp only [allB,and_true] at H G
         (simp only [go_sem,gbF,gbR,upd,vG,cond_true,cond_false,if_true,Bool.false_eq_true,if_false,hbk,H,G,xopW,sBuildOwn,hkb,hbl,hk10,hcb,List.length_map,List.length_cons,List.length_nil,Nat.sub_zero,Nat.add_sub_cancel,Nat.zero_add,Nat.add_comm 1 l.length,bedR])
         all_goals refine ⟨by omega,?_⟩
         all_goals (refine zj [] ?_ ?_ <;> (simp only [go_sem,gbF,gbR,upd,vG,cond_true,cond_false,if_true,Bool.false_eq_true,if_false,hbk,H,G,xopW,sBuildOwn,hkb,hbl,hk10,hcb,List.length_map,List.length_cons,List.length_nil,Nat.sub_zero,Nat.add_sub_cancel,Nat.zero_add,Nat.add_comm 1 l.length,bedR]))
       · skip
         have H:=upT hdn hde [2,0,1] (by decide +kernel)
         have G:=dnT hdn hbk [5,10,11,6,9] (by decide +kernel)
         simp only [allB,and_true] at H G
         (simp only [go_sem,gbF,gbR,upd,vG,cond_true,cond_false,if_true,Bool.false_eq_true,if_false,hbk,H,G,xopW,sBuildOwn,hkb,hbl,hk10,hcb,List.length_map,List.length_cons,List.length_nil,Nat.sub_zero,Nat.add_sub_cancel,Nat.zero_add,Nat.add_comm 1 l.length,bedR])
         all_goals (refine zj [] ?_ ?_ <;> (simp only [go_sem,gbF,gbR,upd,vG,cond_true,cond_false,if_true,Bool.false_eq_true,if_false,hbk,H,G,xopW,sBuildOwn,hkb,hbl,hk10,hcb,List.length_map,List.length_cons,List.length_nil,Nat.sub_zero,Nat.add_sub_cancel,Nat.zero_add,Nat.add_comm 1 l.length,bedR]))
       · skip
         have G:=dnT hdn hbk [5,10,11,6,9] (by decide +kernel)
         simp only [allB,and_true] at G
         (simp only [go_sem,gbF,gbR,upd,vG,cond_true,cond_false,if_true,Bool.false_eq_true,if_false,hbk,G,xopW,sBuildOwn,hkb,hbl,hk10,hcb,List.length_map,List.length_cons,List.length_nil,Nat.sub_zero,Nat.add_sub_cancel,Nat.zero_add,Nat.add_comm 1 l.length,bedR])
         all_goals (refine zj [] ?_ ?_ <;> (simp only [go_sem,gbF,gbR,upd,vG,cond_true,cond_false,if_true,Bool.false_eq_true,if_false,hbk,G,xopW,sBuildOwn,hkb,hbl,hk10,hcb,List.length_map,List.length_cons,List.length_nil,Nat.sub_zero,Nat.add_sub_cancel,Nat.zero_add,Nat.add_comm 1 l.length,bedR]))
       · skip
         have H:=upT hdn hde [3,4,2,0,1] (by decide +kernel)
         have G:=dnT hdn hbk [6,10,11,9] (by decide +kernel)
         simp only [allB,and_true] at H G
         (simp only [go_sem,gbF,gbR,upd,vG,cond_true,cond_false,if_true,Bool.false_eq_true,if_false,hbk,H,G,xopW,sBuildOwn,hkb,hbl,hk10,hcb,List.length_map,List.length_cons,List.length_nil,Nat.sub_zero,Nat.add_sub_cancel,Nat.zero_add,Nat.add_comm 1 l.length,bedR])
         all_goals (refine zj [] ?_ ?_ <;> (simp only [go_sem,gbF,gbR,upd,vG,cond_true,cond_false,if_true,Bool.false_eq_true,if_false,hbk,H,G,xopW,sBuildOwn,hkb,hbl,hk10,hcb,List.length_map,List.length_cons,List.length_nil,Nat.sub_zero,Nat.add_sub_cancel,Nat.zero_add,Nat.add_comm 1 l.length,bedR]))
       · skip
         have H:=upT hdn hde [5,3,4,2,0,1] (by decide +kernel)
         have G:=dnT hdn hbk [9,10,11] (by decide +kernel)
         simp only [allB,and_true] at H G
         (simp only [go_sem,gbF,gbR,upd,vG,cond_true,cond_false,if_true,Bool.false_eq_true,if_false,hbk,H,G,xopW,sBuildOwn,hkb,hbl,hk10,hcb,List.length_map,List.length_cons,List.length_nil,Nat.sub_zero,Nat.add_sub_cancel,Nat.zero_add,Nat.add_comm 1 l.length,bedR])
         all_goals (refine zj [] ?_ ?_ <;> (simp only [go_sem,gbF,gbR,upd,vG,cond_true,cond_false,if_true,Bool.false_eq_true,if_false,hbk,H,G,xopW,sBuildOwn,hkb,hbl,hk10,hcb,List.length_map,List.length_cons,List.length_nil,Nat.sub_zero,Nat.add_sub_cancel,Nat.zero_add,Nat.add_comm 1 l.length,bedR]))
       · skip
         have G:=dnT hdn hbk [8,10,11,9] (by decide +kernel)
         simp only [allB,and_true] at G
         cases g6 : b 6
         all_goals (simp only [go_sem,gbF,gbR,upd,vG,cond_true,cond_false,if_true,Bool.false_eq_true,if_false,hbk,G,g6,xopW,sBuildOwn,hkb,hbl,hk10,hcb,List.length_map,List.length_cons,List.length_nil,Nat.sub_zero,Nat.add_sub_cancel,Nat.zero_add,Nat.add_comm 1 l.length,bedR])
         all_goals (refine zj [] ?_ ?_ <;> (simp only [go_sem,gbF,gbR,upd,vG,cond_true,cond_false,if_true,Bool.false_eq_true,if_false,hbk,G,g6,xopW,sBuildOwn,hkb,hbl,hk10,hcb,List.length_map,List.length_cons,List.length_nil,Nat.sub_zero,Nat.add_sub_cancel,Nat.zero_add,Nat.add_comm 1 l.length,bedR]))
       · skip
         have H:=upT hdn hde [7] (by decide +kernel)
         have G:=dnT hdn hbk [9,10,11] (by decide +kernel)
         simp only [allB,and_true] at H G
         cases g6 : b 6
         all_goals (simp only [go_sem,gbF,gbR,upd,vG,cond_true,cond_false,if_true,Bool.false_eq_true,if_false,hbk,H,G,g6,xopW,sBuildOwn,hkb,hbl,hk10,hcb,List.length_map,List.length_cons,List.length_nil,Nat.sub_zero,Nat.add_sub_cancel,Nat.zero_add,Nat.add_comm 1 l.length,bedR])
         all_goals (refine zj [] ?_ ?_ <;> (simp only [go_sem,gbF,gbR,upd,vG,cond_true,cond_false,if_true,Bool.false_eq_true,if_false,hbk,H,G,g6,xopW,sBuildOwn,hkb,hbl,hk10,hcb,List.length_map,List.length_cons,List.length_nil,Nat.sub_zero,Nat.add_sub_cancel,Nat.zero_add,Nat.add_comm 1 l.length,bedR]))
       · skip
         have H:=upT hdn hde [6,8,5,7,3,4,2,0,1] (by decide +kernel)
         have G:=dnT hdn hbk [10,11] (by decide +kernel)
         simp only [allB,and_true] at H G
         (simp only [go_sem,gbF,gbR,upd,vG,cond_true,cond_false,if_true,Bool.false_eq_true,if_false,hbk,H,G,xopW,sBuildOwn,hkb,hbl,hk10,hcb,List.length_map,List.length_cons,List.length_nil,Nat.sub_zero,Nat.add_sub_cancel,Nat.zero_add,Nat.add_comm 1 l.length,bedR])
         all_goals refine ⟨by omega,?_⟩
         all_goals (refine zj [] ?_ ?_ <;> (simp only [go_sem,gbF,gbR,upd,vG,cond_true,cond_false,if_true,Bool.false_eq_true,if_false,hbk,H,G,xopW,sBuildOwn,hkb,hbl,hk10,hcb,List.length_map,List.length_cons,List.length_nil,Nat.sub_zero,Nat.add_sub_cancel,Nat.zero_add,Nat.add_comm 1 l.length,bedR]))
       · skip
         have H:=upT hdn hde [0,1,2,3,4,5,6,7,8,9] (by decide +kernel)
         have G:=dnT hdn hbk [11] (by decide +kernel)
         simp only [allB,and_true] at H G
         (simp only [go_sem,gbF,gbR,upd,vG,cond_true,cond_false,if_true,Bool.false_eq_true,if_false,hbk,H,G,xopW,sBuildOwn,hkb,hbl,hk10,hcb,List.length_map,List.length_cons,List.length_nil,Nat.sub_zero,Nat.add_sub_cancel,Nat.zero_add,Nat.add_comm 1 l.length,bedR])
         all_goals (refine zj [] ?_ ?_ <;> (simp only [go_sem,gbF,gbR,upd,vG,cond_true,cond_false,if_true,Bool.false_eq_true,if_false,hbk,H,G,xopW,sBuildOwn,hkb,hbl,hk10,hcb,List.length_map,List.length_cons,List.length_nil,Nat.sub_zero,Nat.add_sub_cancel,Nat.zero_add,Nat.add_comm 1 l.length,bedR]))
       · skip
         have H:=upT hdn hde [0,1,2,3,4,5,6,7,8,9,9,9,10] (by decide +kernel)
         simp only [allB,and_true] at H
         (simp only [go_sem,gbF,gbR,upd,vG,cond_true,cond_false,if_true,Bool.false_eq_true,if_false,hbk,H,xopW,sBuildOwn,hkb,hbl,hk10,hcb,List.length_map,List.length_cons,List.length_nil,Nat.sub_zero,Nat.add_sub_cancel,Nat.zero_add,Nat.add_comm 1 l.length,bedR])
         all_goals (refine zj [] ?_ ?_ <;> (simp only [go_sem,gbF,gbR,upd,vG,cond_true,cond_false,if_true,Bool.false_eq_true,if_false,hbk,H,xopW,sBuildOwn,hkb,hbl,hk10,hcb,List.length_map,List.length_cons,List.length_nil,Nat.sub_zero,Nat.add_sub_cancel,Nat.zero_add,Nat.add_comm 1 l.length,bedR]))
     intro b vs hb
     simp only [go_sem,gbF,gbR,vG,hb,if_true,cond_true,List.cons_append,List.nil_append];refine zw (zk [1,2,4,5,6,7,8,9,10,11,12,13,14]) ?_;simp only [go_sem]
     have w6 : IntKind.i64.wrap (sm + c.lo) = sm + c.lo:=by rw [zI] <;> omega
     have w7 : IntKind.i64.wrap (hgh + c.hi) = hgh + c.hi:=by rw [zI] <;> omega
     refine awp_dreg2 [(6,none),(11,none),(12,none),(14,none)] follows (by decide +kernel) (by kernel_rfl) (by simp only [keysOk,List.mem_cons,List.not_mem_nil,forall_eq_or_imp,Oc.keyOf,go_sem]; simp) fun K hK=>?_
     simp only [go_sem,w5,w6,w7];refine hK _ ?_;clear hK K;refine zw (zk [1,2,4,5,6,7,8,9,10,11,12,13]) ?_;simp only [go_sem];refine zb fun K hK=>?_;simp only [go_sem,hkd];refine hK _ ?_;clear hK K
     try simp only [go_sem]
     refine ⟨hj10,zj [] ?_ ?_⟩
     · try simp only [go_sem]
     · try simp only [go_sem]
       try simp
 have hend : it 10 = ⟨l,sm,hgh,n⟩:=by
  by_cases hj10 : j < 10
  · have h5 : ¬ l.length < 5:=fun h=>hcj ⟨hj10,h⟩
    have:=hfj h5 (10 - j)
    rwa [show j + (10 - j) = 10 by omega] at this
  · have : j = 10:=by omega
    rw [← this]; exact hP
 have hne : l ≠ []:=by
  have:=bedsX_ne hw (show i = 0 ∨ i < x.which.length by omega) (nX x i)
  rw [← hwq,hitd,hend] at this
  exact this
 simp only
 repeat refine zq ?_
 refine awp_joinV (n:=153) (fun (_ : Unit) vs=>[(1,.r (i64 most)),(2,.r (.rp (rxC x))),(4,.pt 4 (vs 4) 0),(5,.pt 5 (vs 5) 0),(6,.r (i64 (n : Int))),(7,.r (i64 (i : Int))),(9,.pt 9 (vs 9) 0),(12,.r (i64 hgh)),(73,.r (.bo false))])
  (fun _ vs=>[(4,.box [.r (i64 0),.r .ns,.r (i64 0),.r (i64 0)]),(5,.box [.r (i64 24),.os 158 (vs 158) 2 0 i,.r (i64 S),.r (i64 O)]),(9,.box [.r (i64 (bedX q)),.os 112 (vs 112) 3 0 l.length]),(112,.arr 68 3 (l.map bedR)),(158,.arr 63 2 ((aimsX x i).map aimR))]) (fun _=>True) (fun _ h=>h) ?_ ?_
 · by_cases hj10 : j < 10
   · have e1 : decide (9 - (j : Int) ≥ 0) = true:=by simp; omega
     have e2 : decide ((l.length : Int) < 5) = false:=by simp; omega
     refine zb fun K hK=>?_;simp only [go_sem,e1,e2,List.length_map]
     intro _
     refine hK _ ?_;clear hK K
     try simp only [go_sem]
     exact ⟨(),zj [] (by try simp only [go_sem]) (by try simp only [go_sem])⟩
   · have e1 : decide (9 - (j : Int) ≥ 0) = false:=by simp; omega
     refine zb fun K hK=>?_;simp only [go_sem,e1,List.length_map];refine hK _ ?_;clear hK K
     try simp only [go_sem]
     exact ⟨(),zj [] (by try simp only [go_sem]) (by try simp only [go_sem])⟩
 intro _ vs _
 refine zc rfl (fun hc=>?_) (fun hc=>?_) <;> (try simp only [go_sem] at hc)
 refine zf ?_;simp only [go_sem]
 have hnn : n = nX x (i + 1):=by rw [hn10,hend]
 have haim : aimX x i = ⟨bedX q,fixX ⟨l,sm,hgh,n⟩⟩:=by rw [hs10,hend]
 obtain ⟨c,l',rfl⟩ : ∃ c l',l = c :: l':=by
  cases l with
  | nil=>exact absurd rfl hne
  | cons c l'=>exact ⟨c,l',rfl⟩
 obtain ⟨fx,hfx⟩ : ∃ fx,fx = fixX ⟨c :: l',sm,hgh,n⟩:=⟨_,rfl⟩
 rw [← hfx] at haim
 have hfl : fx.length = l'.length + 1:=by rw [hfx]; unfold fixX; simp only; split <;> simp
 have hcI:=hIj.each c (by simp)
 obtain ⟨_,hcI0,hcI1,hcI2⟩:=hcI
 obtain ⟨hgb0,hgb1⟩:=hIj.high0
 simp only [List.length_cons] at hgb0 hgb1
 have hl5' : l'.length + 1 ≤ 5:=by simpa using hl5
 repeat refine zq ?_
 refine zb fun K hK=>?_;simp only [go_sem];refine hK _ ?_;clear hK K;refine zw (zk [1,2,4,5,6,7,9,12,128]) ?_;simp only [go_sem]
 refine awp_joinV (n:=153) (fun (_ : Unit) vs=>[(1,.r (i64 most)),(2,.r (.rp (rxC x))),(4,.pt 4 (vs 4) 0),(5,.pt 5 (vs 5) 0),(6,.r (i64 (n : Int))),(7,.r (i64 (i : Int))),(9,.pt 9 (vs 9) 0)])
  (fun _ vs=>[(4,.box [.r (i64 0),.r .ns,.r (i64 0),.r (i64 0)]),(5,.box [.r (i64 24),.os 158 (vs 158) 2 0 i,.r (i64 S),.r (i64 O)]),(9,.box [.r (i64 (bedX q)),.os 112 (vs 112) 3 0 (l'.length + 1)]),(112,.arr 68 3 (fx.map bedR)),(158,.arr 63 2 ((aimsX x i).map aimR))]) (fun _=>True) (fun _ h=>h) ?_ ?_
 · by_cases h24 : hgh < 24
   · have hfe : fx = ⟨c.b,c.lo,min 24 (c.hi + 24 - hgh)⟩ :: l':=by rw [hfx]; unfold fixX; simp only; rw [if_pos h24]
     have e1 : decide (hgh < 24) = true:=decide_eq_true h24
     have w8 : IntKind.i64.wrap (IntKind.i64.wrap (c.hi + 24) - hgh) = c.hi + 24 - hgh:=by
      have : IntKind.i64.wrap (c.hi + 24) = c.hi + 24:=by rw [zI] <;> omega
      rw [this,zI] <;> omega
     rw [hfe,e1]
     refine zc rfl (fun hc=>?_) (fun hc=>?_) <;> (try simp only [go_sem] at hc)
     refine awp_dreg2 [(9,some 9),(12,none)] follows (by decide +kernel) (by kernel_rfl) (by simp only [keysOk,List.mem_cons,List.not_mem_nil,forall_eq_or_imp,Oc.keyOf,go_sem]; simp) fun K hK=>?_
     simp only [go_sem,w8,bedR];(try simp (disch:=omega) only [zI])
     refine ⟨by omega,by omega,by omega,?_⟩
     refine hK _ ?_;clear hK K
     try simp only [go_sem]
     refine ⟨(),zj [] (by try simp only [go_sem]) ?_⟩
     try simp only [go_sem]
     rfl
   · have hfe : fx = c :: l':=by rw [hfx]; unfold fixX; simp only; rw [if_neg h24]
     have e1 : decide (hgh < 24) = false:=decide_eq_false h24
     rw [hfe,e1]
     refine zc rfl (fun hc=>?_) (fun hc=>?_) <;> (try simp only [go_sem] at hc)
     refine zx ?_
     try simp only [go_sem]
     exact ⟨(),zj [] (by try simp only [go_sem]) (by try simp only [go_sem])⟩
 intro _ vs _
 refine zw (sub_frzB 9 1 112 (by omega) (by omega) rfl rfl rfl (by simp [hfl])) ?_
 try simp only [go_sem]
 rw [List.take_of_length_le (show (fx.map bedR).length ≤ l'.length + 1 by simp [hfl])]
 refine zw (sub_frzP 9 9 [i64 (bedX q),bedsR fx] (by omega) rfl rfl) ?_
 have hal : (aimsX x i).length = i:=by simp [aimsX]
 have hsu:=aimsX_succ x i
 refine zw (zk [1,2,4,5,6,7,9]) ?_;simp only [go_sem];refine zb fun K hK=>?_;simp only [go_sem,hal,List.length_map]
 refine ⟨by omega,?_⟩
 refine hK _ ?_;clear hK K;refine zw (zk [1,2,4,5,6,7]) ?_;simp only [go_sem]
 have hi1 : IntKind.i64.wrap ((i : Int) + 1) = ((i + 1 : Nat) : Int):=by rw [zI] <;> omega
 refine zb fun K hK=>?_;simp only [go_sem,hi1];refine hK _ ?_;clear hK K
 try simp only [go_sem]
 refine ⟨i + 1,by omega,by omega,zj [] ?_ ?_⟩
 · try simp only [go_sem]
   rw [hnn]
 · try simp only [go_sem]
   rw [hsu,haim]
   simp [aimR,bedsR]
theorem law_proof {x : Rx} (hx : WfRx x) : ACalls Try.prog 8 [.ag (rxC x)] (.bo true):=by
 have hru:=rules_ok hx 3 (by omega)
 obtain ⟨R,hR⟩ : ∃ R,R = ruleX x 3:=⟨_,rfl⟩
 have hck : checkR R = 0:=by rw [hR]; exact ruleX_check hx (by omega)
 have hwf : WfL R.d R.aims:=by rw [hR]; exact ruleX_wf hx
 have hle : R.aims.length ≤ 20 ∧ ∀ a ∈ R.aims,a.beds.length ≤ 5:=by
  rw [hR]
  refine ⟨?_,fun a ha=>(ruleX_aim hx ha).2⟩
  rw [ruleX_len]; unfold cntX; omega
 rw [← hR] at hru
 have hr:=(checkR_zero hck).2
 have hown:=own_ok R (by omega) (fun a ha=>by have:=hle.2 a ha; omega)
 have htb:=table_ok R hwf
 rw [if_pos hck,if_pos hck,hck] at htb
 have hpU:=fun T hT=>proves_ok R hwf false T hT
 have hpL:=fun T hT=>proves_ok R hwf true T hT
 have hlU:=tabT_len hr false
 have hlL:=tabT_len hr true
 have hp0:=prov_tab hck false
 have hp1:=prov_tab hck true
 have hless:=fun st (h1 : lowG R.out ≤ (st : Nat)) h2 h3=>prov_less hck (st:=st) h1 h2 h3
 have hmore:=fun st (h1 : lowG R.out ≤ (st : Nat)) h2 h3=>prov_more hck (st:=st) h1 h2 h3
 have hUb:=fun st (h1 : lowG R.out ≤ (st : Nat)) h2 h3=>(tabT_less hr (st:=st) h1 h2 h3).1
 have hLb:=fun st (h1 : lowG R.out ≤ (st : Nat)) h2=>(tabT_more hr (st:=st) h1 h2).1
 have hkn:=known_ok
 have hlow:=lowest_ok R.out
 have hlg:=lowG_le R.out
 have hrs:=hr.start
 generalize tabT R false = U at *
 generalize tabT R true = L at *
 obtain ⟨len,hlen⟩ : ∃ len : Nat,len = U.length:=⟨_,rfl⟩
 have hlL2 : L.length = len:=by omega
 have w1 : IntKind.i64.wrap (R.start + 1) = (len : Int):=by rw [zI] <;> omega
 have hsl : R.start = (len : Int) - 1:=by omega
 have hq0:=hpU U (by omega)
 have hq1:=hpL L (by omega)
 rw [hp0] at hq0
 rw [hp1] at hq1
 refine acalls_st (rs:=[.bo true]) [.tmp 2] Try.func8 rfl (by kernel_rfl) Try.ntmps8 rfl (by simp) rfl fun C vs=>?_
 refine zq ?_
 refine zb fun K hK=>?_;simp only [go_sem];refine hK _ ?_;clear hK K;refine zw (sub_frzP 1 1 (rxC x) (by omega) rfl rfl) ?_;refine zw (zk [1]) ?_;simp only [go_sem]
 refine zq ?_
 refine zb fun K hK=>?_;simp only [go_sem]
 refine zh (hru) rfl (by simp only [go_sem,i64,ints]) (by simp only [go_sem,i64,ints]) (by first | exact .inl rfl | exact .inr rfl) ?_
 (try simp only [go_sem]);refine hK _ ?_;clear hK K;refine zw (sub_frzP 3 3 [i64 R.d,aimsR R.aims,i64 R.start,i64 R.out] (by omega) (by try simp only [go_sem]) (by try simp only [go_sem])) ?_;refine zw (zk [3]) ?_;simp only [go_sem]
 refine zq ?_
 refine zb fun K hK=>?_;simp only [go_sem]
 refine zh (hown) rfl (by simp only [go_sem,i64,ints]) (by simp only [go_sem,i64,ints]) (by first | exact .inl rfl | exact .inr rfl) ?_
 (try simp only [go_sem])
 refine zh (htb) rfl (by simp only [go_sem,i64,ints]) (by simp only [go_sem,i64,ints]) (by first | exact .inl rfl | exact .inr rfl) ?_
 (try simp only [go_sem]);refine hK _ ?_;clear hK K;refine zw (zk [3,4,5,6]) ?_;simp only [go_sem]
 have e00 : ((0 : Int) != 0) = false:=rfl
 have eU : ((U.length : Int) != (len : Int)) = false:=by rw [hlen]; simp
 have eL : ((L.length : Int) != (len : Int)) = false:=by rw [hlL2]; simp
 repeat refine zq ?_
 refine zb fun K hK=>?_;simp only [go_sem,e00,w1,eU,eL,List.length_map]
 (try intros)
 refine hK _ ?_;clear hK K;refine zw (zk [3,4,5,43]) ?_;simp only [go_sem]
 refine zc rfl (fun hc=>?_) (fun hc=>?_) <;> (try simp only [go_sem] at hc)
 refine zx ?_
 try simp only [go_sem]
 refine zq ?_
 refine zb fun K hK=>?_;simp only [go_sem,List.length_map]
 refine zh (hown) rfl (by simp only [go_sem,i64,ints,List.length_map]) (by simp only [go_sem,i64,ints,List.length_map]) (by first | exact .inl rfl | exact .inr rfl) ?_
 (try simp only [go_sem,List.length_map])
 refine ⟨⟨by omega,by omega⟩,?_⟩
 have htk : ∀ l : List Int,(arrV l).take l.length = arrV l:=fun l=>List.take_of_length_le (by simp)
 refine zh (hq0) rfl (by simp only [go_sem,i64,ints,List.length_map,List.drop_zero,htk]) (by simp only [go_sem,i64,ints,List.length_map,List.drop_zero,htk]) (by first | exact .inl rfl | exact .inr rfl) ?_
 (try simp only [go_sem,List.length_map,List.drop_zero,htk]);refine hK _ ?_;clear hK K;refine zw (zk [3,4,5,6,7]) ?_;simp only [go_sem]
 refine zq ?_
 refine zb fun K hK=>?_;simp only [go_sem,List.length_map]
 refine zh (hown) rfl (by simp only [go_sem,i64,ints,List.length_map]) (by simp only [go_sem,i64,ints,List.length_map]) (by first | exact .inl rfl | exact .inr rfl) ?_
 (try simp only [go_sem,List.length_map])
 refine ⟨⟨by omega,by omega⟩,?_⟩
 refine zh (hq1) rfl (by simp only [go_sem,i64,ints,List.length_map,List.drop_zero,htk]) (by simp only [go_sem,i64,ints,List.length_map,List.drop_zero,htk]) (by first | exact .inl rfl | exact .inr rfl) ?_
 (try simp only [go_sem,List.length_map,List.drop_zero,htk]);refine hK _ ?_;clear hK K;refine zw (zk [3,4,5,6,7,8,9]) ?_;simp only [go_sem]
 repeat refine zq ?_
 refine zb fun K hK=>?_;simp only [go_sem,e00];refine hK _ ?_;clear hK K;refine zw (zk [3,4,5,75]) ?_;simp only [go_sem]
 refine zc rfl (fun hc=>?_) (fun hc=>?_) <;> (try simp only [go_sem] at hc)
 refine zx ?_
 try simp only [go_sem]
 repeat refine zq ?_
 refine zb fun K hK=>?_;simp only [go_sem]
 refine zh (hlow) rfl (by simp only [go_sem,i64,ints]) (by simp only [go_sem,i64,ints]) (by first | exact .inl rfl | exact .inr rfl) ?_
 (try simp only [go_sem]);refine hK _ ?_;clear hK K;refine zw (zk [3,4,5,10]) ?_;simp only [go_sem];refine zd ?_
 refine awp_upto (n:=142) (cntA R) (fun i vs=>[(3,.r (.rp [i64 R.d,aimsR R.aims,i64 R.start,i64 R.out])),(4,.r (ints U)),(5,.r (ints L)),(10,.r (i64 (lowG R.out + (i : Int))))])
  (fun i=>[]) (fun _=>True) 0 (fit_of [49,58] ?_ ?_) (Nat.zero_le _) trivial ?_
 · try simp only [go_sem]
   try simp
 · try simp only [go_sem]
 intro i vs hi _
 have hcnt : (cntA R : Int) = R.start + 1 - lowG R.out:=by unfold cntA; omega
 obtain ⟨q,hq⟩ : ∃ q,q = (lowG R.out).toNat + i:=⟨_,rfl⟩
 have hqi : lowG R.out + (i : Int) = (q : Int):=by omega
 rw [hqi]
 by_cases hlt : i < cntA R
 · have hqU : q < U.length:=by omega
   have hqL : q < L.length:=by omega
   obtain ⟨u,hu⟩:=opt_of_lt hqU
   obtain ⟨v,hv⟩:=opt_of_lt hqL
   have gu : U.getD q 0 = u:=by simp [List.getD,hu]
   have gv : L.getD q 0 = v:=by simp [List.getD,hv]
   have e1 : decide ((q : Int) ≤ R.start) = true:=by simp; omega
   have wq : IntKind.i64.wrap ((q : Int) + 1) = lowG R.out + ((i + 1 : Nat) : Int):=by rw [zI] <;> omega
   have hub:=hUb q (by omega) (by omega)
   have hlb:=hLb q (by omega) (by omega)
   have hl1:=hless q (by omega) (by omega)
   have hm1:=hmore q (by omega) (by omega)
   rw [gu] at hub hl1
   rw [gv] at hlb hm1
   have hset : ∀ (l : List Int) (y : Int),(arrV l).set q [i64 y] = arrV (l.set q y):=fun l y=>by unfold arrV; rw [List.map_set]
   repeat refine zq ?_
   refine zb fun K hK=>?_;simp only [go_sem,e1];refine hK _ ?_;clear hK K;refine zw (zk [3,4,5,10,82]) ?_;simp only [go_sem]
   refine zc rfl (fun hc=>?_) (fun hc=>?_) <;> (try simp only [go_sem] at hc)
   refine zx ?_
   try simp only [go_sem]
   refine zq ?_
   refine zd ?_
   repeat refine zq ?_
   refine zb fun K hK=>?_;simp only [go_sem,hu,hqU,List.length_map];refine hK _ ?_;clear hK K;refine zw (zk [3,4,5,10,89]) ?_;simp only [go_sem]
   refine awp_join (n:=142) (fun (_ : Unit) vs=>[(3,.r (.rp [i64 R.d,aimsR R.aims,i64 R.start,i64 R.out])),(4,.r (ints U)),(5,.r (ints L)),(10,.r (i64 (q : Int)))]) (fun _=>[]) (fun _=>True) (fun _ h=>h) ?_ ?_
   · by_cases hn : u = 2000000000
     · have en : (u != 2000000000) = false:=by simp [hn]
       rw [en]
       refine zc rfl (fun hc=>?_) (fun hc=>?_) <;> (try simp only [go_sem] at hc)
       refine zx ?_
       try simp only [go_sem]
       exact ⟨(),fit_of [] (by try simp only [go_sem]) (by try simp only [go_sem])⟩
     · have en : (u != 2000000000) = true:=by simpa using hn
       have hub':=hub hn
       have hpu:=hpU (U.set q (u - 1)) (by rw [List.length_set]; omega)
       rw [hl1 hn] at hpu
       have hls : (U.set q (u - 1)).length = U.length:=List.length_set ..
       have hseu:=hset U (u - 1)
       have htk2:=htk (U.set q (u - 1))
       rw [hls] at htk2
       rw [en]
       refine zc rfl (fun hc=>?_) (fun hc=>?_) <;> (try simp only [go_sem] at hc)
       refine zq ?_
       refine zb fun K hK=>?_;simp only [go_sem,List.length_map]
       refine ⟨by omega,?_⟩
       refine hK _ ?_;clear hK K;refine zw (zk [3,4,5,10,11]) ?_;simp only [go_sem]
       refine zq ?_
       refine zb fun K hK=>?_;simp only [go_sem,hu,hqU,List.length_map];(try simp (disch:=omega) only [zI]);refine hK _ ?_;clear hK K;refine zw (sub_frz 11 92 (ty:=3) (sz:=1) (off:=0) (m:=U.length) (es:=(arrV U).set q [i64 (u - 1)]) (by omega) rfl (by rfl) (by simp)) ?_;rw [List.drop_zero,hseu,htk2]
       refine zw (zk [3,4,5,10,11]) ?_;simp only [go_sem]
       refine zq ?_
       refine zb fun K hK=>?_;simp only [go_sem]
       refine zh (hown) rfl (by simp only [go_sem,i64,ints]) (by simp only [go_sem,i64,ints]) (by first | exact .inl rfl | exact .inr rfl) ?_
       (try simp only [go_sem])
       refine zh (hpu) rfl (by simp only [go_sem,i64,ints]) (by simp only [go_sem,i64,ints]) (by first | exact .inl rfl | exact .inr rfl) ?_
       (try simp only [go_sem]);refine hK _ ?_;clear hK K;refine zw (zk [3,4,5,10,12,13]) ?_;simp only [go_sem]
       have eq0 : ((q : Int) != (q : Int)) = false:=by simp
       refine zq ?_
       refine zb fun K hK=>?_;simp only [go_sem,e00,eq0];refine hK _ ?_;clear hK K;refine zw (zk [3,4,5,10,112]) ?_;simp only [go_sem]
       refine zc rfl (fun hc=>?_) (fun hc=>?_) <;> (try simp only [go_sem] at hc)
       refine zx ?_
       try simp only [go_sem]
       exact ⟨(),fit_of [] (by try simp only [go_sem]) (by try simp only [go_sem])⟩
   intro _ vs _
   refine zq ?_
   refine zb fun K hK=>?_;simp only [go_sem,hv,hqL,List.length_map];refine hK _ ?_;clear hK K;refine zw (zk [3,4,5,10,117]) ?_;simp only [go_sem]
   by_cases hn : v < 1000000000
   · have en : decide (v < 1000000000) = true:=decide_eq_true hn
     have hpu:=hpL (L.set q (v + 1)) (by rw [List.length_set]; omega)
     rw [hm1 hn] at hpu
     have hls : (L.set q (v + 1)).length = L.length:=List.length_set ..
     have hseu:=hset L (v + 1)
     have htk2:=htk (L.set q (v + 1))
     rw [hls] at htk2
     rw [en]
     refine zc rfl (fun hc=>?_) (fun hc=>?_) <;> (try simp only [go_sem] at hc)
     refine zq ?_
     refine zb fun K hK=>?_;simp only [go_sem,List.length_map]
     refine ⟨by omega,?_⟩
     refine hK _ ?_;clear hK K;refine zw (zk [3,4,5,10,14]) ?_;simp only [go_sem]
     refine zq ?_
     refine zb fun K hK=>?_;simp only [go_sem,hv,hqL,List.length_map];(try simp (disch:=omega) only [zI]);refine hK _ ?_;clear hK K;refine zw (sub_frz 14 120 (ty:=3) (sz:=1) (off:=0) (m:=L.length) (es:=(arrV L).set q [i64 (v + 1)]) (by omega) rfl (by rfl) (by simp)) ?_;rw [List.drop_zero,hseu,htk2]
     refine zw (zk [3,4,5,10,14]) ?_;simp only [go_sem]
     refine zq ?_
     refine zb fun K hK=>?_;simp only [go_sem]
     refine zh (hown) rfl (by simp only [go_sem,i64,ints]) (by simp only [go_sem,i64,ints]) (by first | exact .inl rfl | exact .inr rfl) ?_
     (try simp only [go_sem])
     refine zh (hpu) rfl (by simp only [go_sem,i64,ints]) (by simp only [go_sem,i64,ints]) (by first | exact .inl rfl | exact .inr rfl) ?_
     (try simp only [go_sem]);refine hK _ ?_;clear hK K;refine zw (zk [3,4,5,10,15,16]) ?_;simp only [go_sem]
     have eq0 : ((q : Int) != (q : Int)) = false:=by simp
     refine zq ?_
     refine zb fun K hK=>?_;simp only [go_sem,e00,eq0];refine hK _ ?_;clear hK K;refine zw (zk [3,4,5,10,140]) ?_;simp only [go_sem]
     refine zc rfl (fun hc=>?_) (fun hc=>?_) <;> (try simp only [go_sem] at hc)
     refine zx ?_
     try simp only [go_sem]
     refine zb fun K hK=>?_;simp only [go_sem,wq];refine hK _ ?_;clear hK K
     try simp only [go_sem]
     refine ⟨hlt,fit_of [] ?_ ?_⟩
     · try simp only [go_sem]
     · try simp only [go_sem]
   · have en : decide (v < 1000000000) = false:=decide_eq_false hn
     rw [en]
     refine zc rfl (fun hc=>?_) (fun hc=>?_) <;> (try simp only [go_sem] at hc)
     refine zx ?_
     try simp only [go_sem]
     refine zb fun K hK=>?_;simp only [go_sem,wq];refine hK _ ?_;clear hK K
     try simp only [go_sem]
     refine ⟨hlt,fit_of [] ?_ ?_⟩
     · try simp only [go_sem]
     · try simp only [go_sem]
 · have hie : i = cntA R:=by omega
   have e1 : decide ((q : Int) ≤ R.start) = false:=by simp; omega
   repeat refine zq ?_
   refine zb fun K hK=>?_;simp only [go_sem,e1];refine hK _ ?_;clear hK K;refine zw (zk [3,4,5,10,82]) ?_;simp only [go_sem]
   refine zc rfl (fun hc=>?_) (fun hc=>?_) <;> (try simp only [go_sem] at hc)
   refine zf ?_;simp only [go_sem]
   refine zq ?_
   refine zb fun K hK=>?_;simp only [go_sem]
   refine zh (hkn) rfl (by simp only [go_sem,i64,ints]) (by simp only [go_sem,i64,ints]) (by first | exact .inl rfl | exact .inr rfl) ?_
   (try simp only [go_sem]);refine hK _ ?_;clear hK K;refine zw (zk [2]) ?_;simp only [go_sem];refine ze ?_;simp only [go_sem]
end Go.Proofs.Ytgfbenanljjgaaa.Du.Th.Ai

namespace Go.Oc
open Go Go.RowKit Go.ChangeShapes Go.WideShapes
inductive Sh where
 | int (k : IntKind)
 | bool
 | sl (es : List Sh)
def fieldsSh (P : Program) (sh : TypeId → Option (List Sh)) : List Field → Nat → Option (List Sh)
 | [],_=>some []
 | f :: fs, o =>
   match sh f.type with
   | some ss=>if f.offset == o && ss.length == P.cellsOf f.type then match fieldsSh P sh fs (o + ss.length) with | some q=>some (ss ++ q) | none=>none else none
   | none=>none
def shape (P : Program) : Nat → TypeId → Option (List Sh)
 | 0,_=>none
 | n + 1, t =>
   match P.underlying t with
   | some (.int k)=>some [.int k]
   | some .bool=>some [.bool]
   | some (.slice e) =>
     match shape P n e with
     | some ss=>if ss.length == P.cellsOf e && decide (0 < ss.length) then some [.sl ss] else none
     | none=>none
   | some (.array m e) =>
     match shape P n e with
     | some ss=>if ss.length == P.cellsOf e && P.cellsOf t == m * ss.length then some (List.replicate m ss).flatten else none
     | none=>none
   | some (.struct fs) =>
     match fieldsSh P (shape P n) fs.toList 0 with
     | some ss=>if ss.length == P.cellsOf t then some ss else none
     | none=>none
   | _=>none
mutual
def Fits : Sh → RV → Prop
 | .int k,x=>∃ n,x = .it k n ∧ (Lit.int k n).wf = true
 | .bool,x=>∃ b,x = .bo b
 | .sl ss,x=>∃ es,x = .sl ss.length es ∧ FitsE ss es
def FitsL : List Sh → List RV → Prop
 | [],xs=>xs = []
 | s :: ss,xs=>∃ y ys,xs = y :: ys ∧ Fits s y ∧ FitsL ss ys
def FitsE (ss : List Sh) : List (List RV) → Prop
 | []=>True
 | e :: es=>FitsL ss e ∧ FitsE ss es
end
theorem fitsL_append : ∀ {s1 s2 : List Sh} {x1 x2 : List RV},FitsL s1 x1 → FitsL s2 x2 → FitsL (s1 ++ s2) (x1 ++ x2)
 | [],_,_,_,h1,h2=>by simp only [FitsL] at h1; subst h1; simpa using h2
 | s :: ss, s2, x1, x2, h1, h2 => by
   simp only [FitsL] at h1
   obtain ⟨y,ys,rfl,h3,h4⟩:=h1
   simp only [List.cons_append,FitsL];exact ⟨y,_,rfl,h3,fitsL_append h4 h2⟩
theorem fitsL_length : ∀ {ss : List Sh} {xs : List RV},FitsL ss xs → xs.length = ss.length
 | [],_,h=>by simp only [FitsL] at h; subst h; rfl
 | s :: ss, _, h => by
   simp only [FitsL] at h
   obtain ⟨y,ys,rfl,_,h⟩:=h
   simp [fitsL_length h]
theorem fitsE_of : ∀ {ss : List Sh} {es : List (List RV)},(∀ e ∈ es,FitsL ss e) → FitsE ss es
 | _,[],_=>by simp only [FitsE]
 | ss,e :: es,h=>by simp only [FitsE]; exact ⟨h e (by simp),fitsE_of fun x hx=>h x (by simp [hx])⟩
theorem choice {α : Type} {Q : Nat → α → Prop} : ∀ (n : Nat),(∀ i,i < n → ∃ x,Q i x) → ∃ xs : List α,xs.length = n ∧ ∀ i x,xs[i]? = some x → Q i x
 | 0,_=>⟨[],rfl,by simp⟩
 | n + 1, h => by
   obtain ⟨xs,hl,hx⟩:=choice n fun i hi=>h i (by omega)
   obtain ⟨y,hy⟩:=h n (by omega)
   refine ⟨xs ++ [y],by simp [hl],fun i x hi=>?_⟩
   by_cases h1 : i < n
   · rw [List.getElem?_append_left (by omega)] at hi; exact hx i x hi
   · rw [List.getElem?_append_right (by omega)] at hi
     have : i = n:=by have:=(List.getElem?_eq_some_iff.1 hi).1; simp at this; omega
     subst this
     simp [hl] at hi
     exact hi ▸ hy
section
variable {w : World} {P : Program}
theorem cells?_get {base n : Nat} {a : Addr} {cs : List Value} (h : w.cells? base a n = some cs) : cs.length = n ∧ ∀ i,i < n → w.cell? (a.add i) = cs[i]?:=by
 unfold World.cells? at h
 split at h
 · exact ⟨by simpa using mapM_some_length h,fun i hi=>mapM_some_get h i i (by simp [hi])⟩
 · cases h
theorem cell_lt {a : Addr} {v : Value} (h : w.cell? a = some v) : a.block < w.heap.size:=by
 refine Decidable.byContradiction fun hn=>?_
 have : w.heap[a.block]? = none:=by simp; omega
 simp [World.cell?,this] at h
def old (w : World) : Nat → Prop:=fun b=>b < w.heap.size
theorem relC_of_cells {xs : List RV} {cs : List Value} {ad : Addr} (hV : RV.relV w (old w) xs cs) (hone : ∀ u ∈ cs,u.oneCell' = true) (hc : ∀ i,i < cs.length → w.cell? (ad.add i) = cs[i]?) : RV.relC w (old w) xs ad 0:=by
 refine RV.relC_of_get fun i x hx=>?_
 obtain ⟨u,hu,hr⟩:=RV.relV_get hV hx
 have hi:=(List.getElem?_eq_some_iff.1 hu).1
 refine ⟨u,?_,hone u (List.mem_of_getElem? hu),hr⟩
 rw [Nat.zero_add,hc i hi,hu]
variable {H : Type} {enc : TypeId × Value → H} {base : Nat} {spare : Nat → Bool} {held : Bool}
def Good3 (w : World) (ss : List Sh) (cs : List Value) : Prop:=∃ xs,FitsL ss xs ∧ RV.relV w (old w) xs cs ∧ ∀ u ∈ cs,u.oneCell' = true
theorem good3_append {s1 s2 : List Sh} {c1 c2 : List Value} (h1 : Good3 w s1 c1) (h2 : Good3 w s2 c2) : Good3 w (s1 ++ s2) (c1 ++ c2):=by
 obtain ⟨x1,f1,r1,o1⟩:=h1
 obtain ⟨x2,f2,r2,o2⟩:=h2
 refine ⟨x1 ++ x2,fitsL_append f1 f2,RV.relV_append r1 r2,fun u hu=>?_⟩
 rcases List.mem_append.1 hu with hu | hu
 · exact o1 u hu
 · exact o2 u hu
theorem good3_length {ss : List Sh} {cs : List Value} (h : Good3 w ss cs) : cs.length = ss.length:=by
 obtain ⟨xs,f,r,_⟩:=h
 rw [RV.relV_length r,fitsL_length f]
theorem trod_fits : ∀ (fuel n : Nat) (t : TypeId) (cs : List Value) (x : DataW H × List MemPlace) (ss : List Sh),DataW.trod enc P w base spare held fuel t cs = some x → shape P n t = some ss → Good3 w ss cs:=by
 intro fuel
 induction fuel with
 | zero=>intro n t cs x ss h; simp [DataW.trod] at h
 | succ fuel ih =>
   intro n t cs x ss h hs
   cases n with
   | zero=>simp [shape] at hs
   | succ n =>
     unfold shape at hs
     split at hs
     · rename_i k ht
       injection hs with hs; subst hs
       obtain ⟨m,rfl,_,hw⟩:=DataW.trod_int ht h
       exact ⟨[.it k m],by simp only [FitsL,Fits]; exact ⟨_,[],rfl,⟨m,rfl,hw⟩,rfl⟩,by simp only [RV.relV,RV.rel]; exact ⟨_,[],rfl,rfl,rfl⟩,by simp [Value.oneCell']⟩
     · rename_i ht
       injection hs with hs; subst hs
       obtain ⟨b,rfl,_⟩:=DataW.trod_bool ht h
       exact ⟨[.bo b],by simp only [FitsL,Fits]; exact ⟨_,[],rfl,⟨b,rfl⟩,rfl⟩,by simp only [RV.relV,RV.rel]; exact ⟨_,[],rfl,rfl,rfl⟩,by simp [Value.oneCell']⟩
     · rename_i e ht
       split at hs
       · rename_i es hes
         split at hs
         · rename_i hc
           simp only [Bool.and_eq_true,beq_iff_eq,decide_eq_true_eq] at hc
           injection hs with hs; subst hs
           rcases DataW.trod_slice ht h with ⟨rfl,_⟩ | ⟨a,len,cap,elems,rest,m,hm,rfl,_,_,hlc,hcm,hel,hget,_⟩
           · refine ⟨[.sl es.length []],?_,?_,by simp [Value.oneCell']⟩
             · simp only [FitsL,Fits];exact ⟨_,[],rfl,⟨[],rfl,by simp only [FitsE]⟩,rfl⟩
             · simp only [RV.relV,RV.rel];exact ⟨_,[],rfl,⟨none,0,rfl,Nat.le_refl _,Nat.zero_le _,fun h=>absurd rfl h⟩,rfl⟩
           · injection hm with hm; subst hm
             have hall : ∀ i,i < len → ∃ e',FitsL es e' ∧ e'.length = es.length ∧ RV.relC w (old w) e' (a.add (i * es.length)) 0 ∧ a.block < w.heap.size:=fun i hi=>by
              have h1:=hget i hi
              have h2 : i < elems.length:=by omega
              rw [List.getElem?_eq_getElem h2] at h1
              obtain ⟨ci,hci,htr⟩:=Option.bind_eq_some_iff.1 h1
              rw [← hc.1] at hci
              obtain ⟨hl,hcell⟩:=cells?_get hci
              obtain ⟨xs,f,r,o⟩:=ih n e ci _ es htr hes
              refine ⟨xs,f,fitsL_length f,relC_of_cells r o (fun j hj=>hcell j (by omega)),?_⟩
              have h3:=hcell 0 hc.2
              have h4 : 0 < ci.length:=by omega
              rw [List.getElem?_eq_getElem h4] at h3
              have:=cell_lt h3
              rwa [block_add,block_add] at this
             obtain ⟨els,hlen,hels⟩:=choice len hall
             refine ⟨[.sl es.length els],?_,?_,by simp [Value.oneCell']⟩
             · simp only [FitsL,Fits]
               refine ⟨_,[],rfl,⟨els,rfl,fitsE_of fun e' he'=>?_⟩,rfl⟩
               obtain ⟨i,hi⟩:=List.getElem?_of_mem he'
               exact (hels i e' hi).1
             · simp only [RV.relV,RV.rel]
               refine ⟨_,[],rfl,⟨some a,cap,by rw [hlen],by omega,hcm,fun hne=>?_⟩,rfl⟩
               obtain ⟨e0,he0⟩ : ∃ e0,els[0]? = some e0:=by
                cases els with
                | nil=>exact absurd rfl hne
                | cons a l=>exact ⟨a,rfl⟩
               refine ⟨a,rfl,(hels 0 e0 he0).2.2.2,RV.relE_of_get fun i e' he'=>?_⟩
               obtain ⟨_,q1,q2,_⟩:=hels i e' he'
               exact ⟨q1,RV.relC_unbase _ q2⟩
         · cases hs
       · cases hs
     · rename_i m e ht
       split at hs
       · rename_i es hes
         split at hs
         · rename_i hc
           simp only [Bool.and_eq_true,beq_iff_eq] at hc
           injection hs with hs; subst hs
           obtain ⟨xs,fm,hm,_,hcl,hxl,hget⟩:=DataW.trod_array ht h
           injection hm with hm; subst hm
           have key : ∀ j,j ≤ m → Good3 w (List.replicate j es).flatten (cs.take (j * es.length)):=by
            intro j
            induction j with
            | zero=>intro _; exact ⟨[],by simp [FitsL],by simp [RV.relV],by simp⟩
            | succ j ihj =>
              intro hj
              have h1:=hget j (by omega)
              have h2 : j < xs.length:=by omega
              rw [List.getElem?_eq_getElem h2,← hc.1] at h1
              have h3:=ih n e _ _ es h1 hes
              have:=good3_append (ihj (by omega)) h3
              rw [← List.take_add] at this
              rw [List.replicate_succ',List.flatten_append,Nat.add_mul]
              simpa using this
           have:=key m (Nat.le_refl _)
           rwa [← hc.2,← hcl,List.take_length] at this
         · cases hs
       · cases hs
     · rename_i fs ht
       split at hs
       · rename_i q hq
         split at hs
         · rename_i hc
           simp only [beq_iff_eq] at hc
           injection hs with hs; subst hs
           obtain ⟨xs,fm,hm,_,hcl,hxl,hget⟩:=DataW.trod_struct ht h
           injection hm with hm; subst hm
           have key : ∀ (l : List Field) (o : Nat) (q : List Sh),(∀ f ∈ l,∃ y,DataW.trod enc P w base spare held fuel f.type ((cs.drop f.offset).take (P.cellsOf f.type)) = some y) → fieldsSh P (shape P n) l o = some q → Good3 w q ((cs.drop o).take q.length):=by
            intro l
            induction l with
            | nil =>
              intro o q _ hq
              simp only [fieldsSh,Option.some.injEq] at hq
              subst hq
              exact ⟨[],by simp [FitsL],by simp [RV.relV],by simp⟩
            | cons f l ihl =>
              intro o q hall hq
              simp only [fieldsSh] at hq
              split at hq
              · rename_i s1 hs1
                split at hq
                · rename_i hc1
                  simp only [Bool.and_eq_true,beq_iff_eq] at hc1
                  split at hq
                  · rename_i q2 hq2
                    injection hq with hq; subst hq
                    obtain ⟨y,hy⟩:=hall f (by simp)
                    have g1:=ih n f.type _ _ s1 hy hs1
                    have g2:=ihl (o + s1.length) q2 (fun f' hf'=>hall f' (by simp [hf'])) hq2
                    rw [hc1.1,← hc1.2] at g1
                    have:=good3_append g1 g2
                    rw [← List.drop_drop,← List.take_add] at this
                    simpa using this
                  · cases hq
                · cases hq
              · cases hq
           have:=key fs.toList 0 q (fun f hf=>by
            obtain ⟨i,hi⟩:=List.getElem?_of_mem hf
            have hi' : fs[i]? = some f:=by simpa using hi
            have h1:=hget i f hi'
            have h2 : i < xs.length:=by have:=(Array.getElem?_eq_some_iff.1 hi').1; omega
            exact ⟨xs[i],by rw [h1]; exact List.getElem?_eq_getElem h2⟩) hq
           rwa [List.drop_zero,hc,← hcl,List.take_length] at this
         · cases hs
       · cases hs
     · cases hs
def FitsT (P : Program) (n : Nat) (t : TypeId) (x : RV) : Prop:=∃ ss,shape P n t = some ss ∧ if aggOf P t then ∃ xs,x = .ag xs ∧ FitsL ss xs else FitsL ss [x]
theorem arg_fits {n : Nat} {t : TypeId} {v : Value} {d : DataW H} {ps : List MemPlace} {r : Reach} {b0 : Nat} (hs : (shape P n t).isSome = true) (hval : Value.okWide P w r b0 t v) (h : DataW.Trod enc P w base spare held t v d ps) :
 ∃ x,FitsT P n t x ∧ x.rel w (old w) v:=by
 obtain ⟨ss,hss⟩:=Option.isSome_iff_exists.1 hs
 obtain ⟨fuel,hf⟩:=h
 obtain ⟨xs,f,r,o⟩:=trod_fits fuel n t _ _ ss hf hss
 have one : aggOf P t = false → v.cells.toList = [v] → ∃ x,FitsT P n t x ∧ x.rel w (old w) v:=fun ha hc=>by
  rw [hc] at r
  match xs,r with
  | [x], r =>
    simp only [RV.relV] at r
    obtain ⟨u,us,e,hr,_⟩:=r
    injection e with e1 e2
    subst e1
    exact ⟨x,⟨ss,hss,by rw [ha]; exact f⟩,hr⟩
  | [],r=>simp [RV.relV] at r
  | _ :: _ :: _, r =>
    simp only [RV.relV] at r
    obtain ⟨u,us,e,_,u2,us2,e2,_⟩:=r
    injection e with _ e
    rw [e2] at e; cases e
 cases n with
 | zero=>simp [shape] at hss
 | succ n =>
   have hss':=hss
   unfold shape at hss'
   split at hss'
   · rename_i k ht
     obtain ⟨m,rfl⟩:=okWide_int ht hval
     exact one (by simp [aggOf,ht]) rfl
   · rename_i ht
     obtain ⟨b,rfl⟩:=okWide_bool ht hval
     exact one (by simp [aggOf,ht]) rfl
   · rename_i e ht
     obtain ⟨a,l,c,rfl⟩:=okWide_slice ht hval
     exact one (by simp [aggOf,ht]) rfl
   · rename_i m e ht
     obtain ⟨cs,rfl⟩ : ∃ cs,v = .agg cs:=by
      simp only [Value.okWide,ht] at hval
      obtain ⟨cs,h1,_⟩:=hval
      exact ⟨cs,h1⟩
     exact ⟨.ag xs,⟨ss,hss,by simp only [aggOf,ht,if_true]; exact ⟨xs,rfl,f⟩⟩,by simp only [RV.rel]; exact ⟨cs,rfl,o,r⟩⟩
   · rename_i fs ht
     obtain ⟨cs,rfl,_⟩:=okWide_struct ht hval
     exact ⟨.ag xs,⟨ss,hss,by simp only [aggOf,ht,if_true]; exact ⟨xs,rfl,f⟩⟩,by simp only [RV.rel]; exact ⟨cs,rfl,o,r⟩⟩
   · cases hss'
theorem wf_i64 {n : Int} (h : (Lit.int .i64 n).wf = true) : -9223372036854775808 ≤ n ∧ n ≤ 9223372036854775807:=by
 simp only [Lit.wf,Bool.and_eq_true,decide_eq_true_eq] at h
 have h1 : IntKind.min .i64 = -9223372036854775808:=by decide
 have h2 : IntKind.max .i64 = 9223372036854775807:=by decide
 rw [h1,h2] at h
 exact h
theorem fitsE_ints : ∀ {es : List (List RV)},FitsE [.int .i64] es → ∃ l : List Int,es = l.map (fun x=>[.it .i64 x]) ∧ ∀ x ∈ l,-9223372036854775808 ≤ x ∧ x ≤ 9223372036854775807
 | [],_=>⟨[],rfl,by simp⟩
 | e :: es, h => by
   simp only [FitsE,FitsL,Fits] at h
   obtain ⟨⟨y,ys,rfl,⟨n,rfl,hn⟩,rfl⟩,h⟩:=h
   obtain ⟨l,rfl,hl⟩:=fitsE_ints h
   refine ⟨n :: l,rfl,fun x hx=>?_⟩
   rcases List.mem_cons.1 hx with rfl | hx
   · exact wf_i64 hn
   · exact hl x hx
theorem fitsT_ag {n : Nat} {t : TypeId} {x : RV} {ss : List Sh} (h : FitsT P n t x) (hs : shape P n t = some ss) (ha : aggOf P t = true) : ∃ xs,x = .ag xs ∧ FitsL ss xs:=by
 obtain ⟨s',h1,h2⟩:=h
 rw [hs] at h1; injection h1 with h1; subst h1
 rw [ha] at h2
 exact h2
theorem fitsT_one {n : Nat} {t : TypeId} {x : RV} {s : Sh} (h : FitsT P n t x) (hs : shape P n t = some [s]) (ha : aggOf P t = false) : Fits s x:=by
 obtain ⟨s',h1,h2⟩:=h
 rw [hs] at h1; injection h1 with h1; subst h1
 rw [ha] at h2
 simp only [Bool.false_eq_true,if_false,FitsL] at h2
 obtain ⟨y,ys,e,h3,_⟩:=h2
 injection e with e1 e2
 subst e1
 exact h3
theorem fitsT_int {n : Nat} {t : TypeId} {x : RV} (h : FitsT P n t x) (hs : shape P n t = some [.int .i64]) (ha : aggOf P t = false) : ∃ m,x = .it .i64 m ∧ -9223372036854775808 ≤ m ∧ m ≤ 9223372036854775807:=by
 have:=fitsT_one h hs ha
 simp only [Fits] at this
 obtain ⟨m,h1,h2⟩:=this
 exact ⟨m,h1,wf_i64 h2⟩
theorem fitsT_ints {n : Nat} {t : TypeId} {x : RV} (h : FitsT P n t x) (hs : shape P n t = some [.sl [.int .i64]]) (ha : aggOf P t = false) : ∃ l : List Int,x = .sl 1 (l.map (fun x=>[.it .i64 x])) ∧ ∀ x ∈ l,-9223372036854775808 ≤ x ∧ x ≤ 9223372036854775807:=by
 have:=fitsT_one h hs ha
 simp only [Fits] at this
 obtain ⟨es,h1,h2⟩:=this
 obtain ⟨l,rfl,hl⟩:=fitsE_ints h2
 exact ⟨l,h1,hl⟩
end
end Go.Oc

namespace Go.Oc
open Go Go.RowKit
theorem wf_u8 {n : Int} (h : (Lit.int .u8 n).wf = true) : 0 ≤ n ∧ n ≤ 255:=by
 simp only [Lit.wf,Bool.and_eq_true,decide_eq_true_eq] at h
 have h1 : IntKind.min .u8 = 0:=by decide
 have h2 : IntKind.max .u8 = 255:=by decide
 rw [h1,h2] at h
 exact h
theorem wf_u16 {n : Int} (h : (Lit.int .u16 n).wf = true) : 0 ≤ n ∧ n ≤ 65535:=by
 simp only [Lit.wf,Bool.and_eq_true,decide_eq_true_eq] at h
 have h1 : IntKind.min .u16 = 0:=by decide
 have h2 : IntKind.max .u16 = 65535:=by decide
 rw [h1,h2] at h
 exact h
theorem wf_u32 {n : Int} (h : (Lit.int .u32 n).wf = true) : 0 ≤ n ∧ n ≤ 4294967295:=by
 simp only [Lit.wf,Bool.and_eq_true,decide_eq_true_eq] at h
 have h1 : IntKind.min .u32 = 0:=by decide
 have h2 : IntKind.max .u32 = 4294967295:=by decide
 rw [h1,h2] at h
 exact h
theorem fitsE_u8 : ∀ {es : List (List RV)},FitsE [.int .u8] es → ∃ l : List Int,es = l.map (fun x=>[.it .u8 x]) ∧ ∀ x ∈ l,0 ≤ x ∧ x ≤ 255
 | [],_=>⟨[],rfl,by simp⟩
 | e :: es, h => by
   simp only [FitsE,FitsL,Fits] at h
   obtain ⟨⟨y,ys,rfl,⟨n,rfl,hn⟩,rfl⟩,h⟩:=h
   obtain ⟨l,rfl,hl⟩:=fitsE_u8 h
   refine ⟨n :: l,rfl,fun x hx=>?_⟩
   rcases List.mem_cons.1 hx with rfl | hx
   · exact wf_u8 hn
   · exact hl x hx
theorem fitsE_u16 : ∀ {es : List (List RV)},FitsE [.int .u16] es → ∃ l : List Int,es = l.map (fun x=>[.it .u16 x]) ∧ ∀ x ∈ l,0 ≤ x ∧ x ≤ 65535
 | [],_=>⟨[],rfl,by simp⟩
 | e :: es, h => by
   simp only [FitsE,FitsL,Fits] at h
   obtain ⟨⟨y,ys,rfl,⟨n,rfl,hn⟩,rfl⟩,h⟩:=h
   obtain ⟨l,rfl,hl⟩:=fitsE_u16 h
   refine ⟨n :: l,rfl,fun x hx=>?_⟩
   rcases List.mem_cons.1 hx with rfl | hx
   · exact wf_u16 hn
   · exact hl x hx
end Go.Oc

namespace Go.Proofs.Ytgfbenanljjgaaa.Du.Th.Ai
open Go Go.Oc
theorem fitsE_u16 : ∀ {es : List (List RV)},FitsE [.int .u16] es → ∃ l : List Int,es = l.map (fun x=>[.it .u16 x]) ∧ ∀ x ∈ l,0 ≤ x ∧ x ≤ 65535
 | [],_=>⟨[],rfl,by simp⟩
 | e :: es, h => by
   simp only [FitsE,FitsL,Oc.Fits] at h
   obtain ⟨⟨y,ys,rfl,⟨n,rfl,hn⟩,rfl⟩,h⟩:=h
   obtain ⟨l,rfl,hl⟩:=fitsE_u16 h
   refine ⟨n :: l,rfl,fun x hx=>?_⟩
   rcases List.mem_cons.1 hx with rfl | hx
   · exact wf_u16 hn
   · exact hl x hx
theorem fits45 {x : RV} (h : FitsT Try.prog 9 45 x) : ∃ y,x = .ag (rxC y) ∧ WfRx y:=by
 obtain ⟨xs,rfl,hx⟩:=fitsT_ag (ss:=[.sl [.int .u16],.sl [.int .u8],.sl [.int .u8],.int .u8,.int .u8]) h (by kernel_rfl) (by kernel_rfl)
 simp only [Oc.FitsL,Oc.Fits] at hx
 obtain ⟨_,_,rfl,⟨es,rfl,hes⟩,_,_,rfl,⟨es1,rfl,hes1⟩,_,_,rfl,⟨es2,rfl,hes2⟩,_,_,rfl,⟨r,rfl,hr⟩,_,_,rfl,⟨o,rfl,ho⟩,rfl⟩:=hx
 obtain ⟨l,rfl,hl⟩:=fitsE_u16 hes
 obtain ⟨l1,rfl,hl1⟩:=fitsE_u8 hes1
 obtain ⟨l2,rfl,hl2⟩:=fitsE_u8 hes2
 exact ⟨⟨l,l1,l2,r,o⟩,rfl,⟨hl,hl1,hl2,wf_u8 hr,wf_u8 ho⟩⟩
end Go.Proofs.Ytgfbenanljjgaaa.Du.Th.Ai

namespace Go.Proofs.Ytgfbenanljjgaaa
open Go Go.Oc
theorem law8' {x0 : RV} (h0 : FitsT Try.prog 9 45 x0) : ACalls Try.prog 8 [x0] (.bo true):=by
 obtain ⟨x,rfl,hx⟩:=Du.Th.Ai.fits45 h0
 exact Du.Th.Ai.law_proof hx
end Go.Proofs.Ytgfbenanljjgaaa


namespace Go.Proofs.Ytgfbenanljjgaaa
open Go Go.Oc Go.ChangeShapes Go.WideShapes Go.RowKit
set_option linter.unusedVariables false
theorem own : ownKnob Try.prog.godebug = none := by kernel_rfl
theorem laidOut : laidOutB Try.prog = true := by kernel_rfl
set_option maxRecDepth 100000 in
theorem lifted (os : Os) (started : os.Started) (H : Type) (enc : TypeId × Value → H) :
    ReturnsInHanded {} Try.checked os 8 .any (Rows.aimProofSpec.pre6 enc Try.prog Try.f8 Rows.aimProofRow.domain false) (Rows.aimProofSpec.post enc Try.prog Try.f8 false true false false) := by
  refine returnsInHanded_of_change (C := Try.checked) own started (by kernel_rfl) Try.func8
    (ChangeSpec.witness6 (enc := enc) (C := Try.checked) false ⟨#[], #[.agg #[.slice none 0 0, .slice none 0 0, .slice none 0 0, .int .u8 0, .int .u8 0]], []⟩ 8 (by kernel_rfl) (by kernel_rfl) (by kernel_rfl) (by kernel_rfl)) ?_
  intro W base args ds gs before hval0 hW hcnd _
  have hval : ∀ (j : Nat) t v, Try.f8.params[j]? = some t → args[j]? = some v → Value.okWide Try.prog W .any base t v := hval0
  have hW' := hW
  obtain ⟨p, q, hA0, hV, rfl, hfz, hnd⟩ := hW
  have hA : DataW.TrodAll enc Try.prog W 0 (fun _ => true) true Try.f8.params.toList args.toList ds p := hA0
  rw [Try.params8] at hA hval
  obtain ⟨v0, vs0, d0, ds0, p0, q0, hargs, rfl, rfl, h0, r0⟩ := trodAll_cons hA
  obtain ⟨rfl, rfl, rfl⟩ := trodAll_nil r0
  obtain rfl : args = #[v0] := by cases args; simp_all
  obtain ⟨rfl, rfl⟩ := trodVars_none hV
  have lt0 : ∀ x ∈ p0, x.block < W.heap.size := by obtain ⟨m, hm⟩ := h0; exact DataW.trod_lt m _ _ _ hm
  obtain ⟨x0, g0, e0⟩ := arg_fits (n := 9) (by kernel_rfl) (hval 0 45 v0 rfl rfl) h0
  clear hA0 hval0
  refine ((law8' g0).2 W (old W) #[v0] (fun _ h => h) (by simp only [RV.relV]; exact ⟨_, _, rfl, e0, rfl⟩)).mono fun e W' he => ?_
  obtain ⟨v, R', rfl, bel, _, _, _, hr⟩ := he
  simp only [RV.rel] at hr
  subst hr
  exact ⟨_, rfl, _, _, _, [], _, [], hW', trodAll_mk1 (shut_bool Try.underlying4 _), (trodAll_cons_mk (Below.trod laidOut (by kernel_rfl) (of_decide_eq_true (by kernel_rfl)) h0 bel lt0) trodAll_mk0), rfl, bel.frame _, fun h => by cases h⟩
theorem over : Rows.aimProofRow.holds Try.pinned (OpenSpec.ofChange Rows.aimProofSpec) :=
  OpenClaim.holds_of_wide 8 Try.f8 rfl rfl rfl rfl rfl rfl rfl ⟨rfl, rfl, rfl, rfl, rfl⟩ rfl rfl rfl rfl rfl (by kernel_rfl) Try.func8 (by kernel_rfl)
    (of_decide_eq_true (by kernel_rfl)) (by unfold Func.isWrapper; first | (rw [if_pos (by decide +kernel)]; kernel_rfl) | (rw [if_neg (by decide +kernel)]; exact ⟨rfl, rfl⟩))
    (fun os started H enc _ => lifted os started H enc)
theorem aimProof_holds : Rows.AimProofSaid := over
#print axioms aimProof_holds
end Go.Proofs.Ytgfbenanljjgaaa
