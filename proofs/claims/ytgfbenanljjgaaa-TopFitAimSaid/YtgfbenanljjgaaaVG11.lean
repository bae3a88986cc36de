/- For all visits made of bytes, the given function TopFitAim returns true: a law from visits of known darts has no greater upper number, and no smaller lower one, than one from the totals of the same visits. No conditions beyond those of the given statement. -/
import Derived.Test.YtgfbenanljjgaaaVG10
import Derived.Test.YtgfbenanljjgaaaVG7
import Derived.Test.YtgfbenanljjgaaaVG8
import Derived.Test.YtgfbenanljjgaaaVG5
import Derived.ChangeShapes
import Derived.WideShapes
import Derived.OpenShut
import Derived.ShutString
import Derived.ChangeOld
import Derived.Carry
import Derived.Below
import Derived.Test.YtgfbenanljjgaaaRows
import Derived.JoinedOf
namespace Go.Proofs.Ytgfbenanljjgaaa.Du.Th.Ai
open Go Go.Oc
set_option linter.unusedSimpArgs false
set_option linter.unusedVariables false
set_option maxRecDepth 8000
set_option maxHeartbeats 8000000
structure Ps where
 st : Int
 left : Int
 darts : Int
abbrev psR (p : Ps) : RV:=.ag [i64 p.st,i64 p.left,i64 p.darts]
def posOk (r : Rk) (p : Ps) : Bool:=decide ((lowG r.out ≤ p.st ∧ p.st ≤ r.start) ∧ (lowG r.out ≤ p.left ∧ p.left ≤ p.st) ∧ (1 ≤ p.darts ∧ p.darts ≤ 3) ∧ (p.darts < 3 ∨ p.left = p.st))
theorem isPos_ok (r : Rk) (p : Ps) : ACalls Try.prog 95 [rkR r,psR p] (.bo (posOk r p)):=by
 have hlow:=alow_ok r.out
 have ha:=awithin_ok (lowG r.out) r.start [p.st]
 have hb:=awithin_ok (lowG r.out) p.st [p.left]
 have hd:=awithin_ok 1 3 [p.darts]
 have ea : withinL (lowG r.out) r.start [p.st] = decide (lowG r.out ≤ p.st ∧ p.st ≤ r.start):=by simp [withinL]
 have eb : withinL (lowG r.out) p.st [p.left] = decide (lowG r.out ≤ p.left ∧ p.left ≤ p.st):=by simp [withinL]
 have ed : withinL 1 3 [p.darts] = decide (1 ≤ p.darts ∧ p.darts ≤ 3):=by simp [withinL]
 rw [ea] at ha
 rw [eb] at hb
 rw [ed] at hd
 unfold posOk
 refine acalls_st (rs:=[.bo (decide ((lowG r.out ≤ p.st ∧ p.st ≤ r.start) ∧ (lowG r.out ≤ p.left ∧ p.left ≤ p.st) ∧ (1 ≤ p.darts ∧ p.darts ≤ 3) ∧ (p.darts < 3 ∨ p.left = p.st)))]) [.tmp 4] Try.func95 rfl (by kernel_rfl) Try.ntmps95 rfl (by simp) rfl fun C vs=>?_
 refine zq ?_
 refine zb fun K hK=>?_;simp only [go_sem];refine hK _ ?_;clear hK K;refine zw (sub_frzP 2 2 [i64 r.d,aimsR r.aims,i64 r.start,i64 r.out] (by omega) rfl rfl) ?_;refine zw (sub_frzP 3 3 [i64 p.st,i64 p.left,i64 p.darts] (by omega) rfl rfl) ?_;refine zw (zk [2,3]) ?_;simp only [go_sem]
 refine zq ?_
 refine zb fun K hK=>?_;simp only [go_sem]
 refine zh (hlow) rfl (by simp only [go_sem,i64,ints]) (by simp only [go_sem,i64,ints]) (by first | exact .inl rfl | exact .inr rfl) ?_
 (try simp only [go_sem]);refine hK _ ?_;clear hK K;refine zw (zk [2,3,5]) ?_;simp only [go_sem]
 by_cases h1 : lowG r.out ≤ p.st ∧ p.st ≤ r.start
 · rw [decide_eq_true h1] at ha
   by_cases h2 : lowG r.out ≤ p.left ∧ p.left ≤ p.st
   · rw [decide_eq_true h2] at hb
     by_cases h3 : 1 ≤ p.darts ∧ p.darts ≤ 3
     · rw [decide_eq_true h3] at hd
       by_cases h4 : p.darts < 3
       · have e4 : decide (p.darts < 3) = true:=by simpa using h4
         refine zq ?_
         refine zb fun K hK=>?_;simp only [go_sem,e4]
         refine zh (ha) rfl (by simp only [go_sem,i64,ints,e4]) (by simp only [go_sem,i64,ints,e4]) (by first | exact .inl rfl | exact .inr rfl) ?_
         (try simp only [go_sem,e4])
         refine zh (hb) rfl (by simp only [go_sem,i64,ints,e4]) (by simp only [go_sem,i64,ints,e4]) (by first | exact .inl rfl | exact .inr rfl) ?_
         (try simp only [go_sem,e4])
         refine zh (hd) rfl (by simp only [go_sem,i64,ints,e4]) (by simp only [go_sem,i64,ints,e4]) (by first | exact .inl rfl | exact .inr rfl) ?_
         (try simp only [go_sem,e4]);refine hK _ ?_;clear hK K;refine zw (zk [4]) ?_;simp only [go_sem];refine ze ?_;simp only [go_sem]
         simp [h1,h2,h3,h4]
       · have e4 : decide (p.darts < 3) = false:=by simpa using h4
         refine zq ?_
         refine zb fun K hK=>?_;simp only [go_sem,e4]
         refine zh (ha) rfl (by simp only [go_sem,i64,ints,e4]) (by simp only [go_sem,i64,ints,e4]) (by first | exact .inl rfl | exact .inr rfl) ?_
         (try simp only [go_sem,e4])
         refine zh (hb) rfl (by simp only [go_sem,i64,ints,e4]) (by simp only [go_sem,i64,ints,e4]) (by first | exact .inl rfl | exact .inr rfl) ?_
         (try simp only [go_sem,e4])
         refine zh (hd) rfl (by simp only [go_sem,i64,ints,e4]) (by simp only [go_sem,i64,ints,e4]) (by first | exact .inl rfl | exact .inr rfl) ?_
         (try simp only [go_sem,e4]);refine hK _ ?_;clear hK K;refine zw (zk [4]) ?_;simp only [go_sem];refine ze ?_;simp only [go_sem];rw [Bool.eq_iff_iff]
         simp [h1,h2,h3,h4]
     · rw [decide_eq_false h3] at hd
       refine zq ?_
       refine zb fun K hK=>?_;simp only [go_sem]
       refine zh (ha) rfl (by simp only [go_sem,i64,ints]) (by simp only [go_sem,i64,ints]) (by first | exact .inl rfl | exact .inr rfl) ?_
       (try simp only [go_sem])
       refine zh (hb) rfl (by simp only [go_sem,i64,ints]) (by simp only [go_sem,i64,ints]) (by first | exact .inl rfl | exact .inr rfl) ?_
       (try simp only [go_sem])
       refine zh (hd) rfl (by simp only [go_sem,i64,ints]) (by simp only [go_sem,i64,ints]) (by first | exact .inl rfl | exact .inr rfl) ?_
       (try simp only [go_sem]);refine hK _ ?_;clear hK K;refine zw (zk [4]) ?_;simp only [go_sem];refine ze ?_;simp only [go_sem]
       simp [h3]
   · rw [decide_eq_false h2] at hb
     refine zq ?_
     refine zb fun K hK=>?_;simp only [go_sem]
     refine zh (ha) rfl (by simp only [go_sem,i64,ints]) (by simp only [go_sem,i64,ints]) (by first | exact .inl rfl | exact .inr rfl) ?_
     (try simp only [go_sem])
     refine zh (hb) rfl (by simp only [go_sem,i64,ints]) (by simp only [go_sem,i64,ints]) (by first | exact .inl rfl | exact .inr rfl) ?_
     (try simp only [go_sem]);refine hK _ ?_;clear hK K;refine zw (zk [4]) ?_;simp only [go_sem];refine ze ?_;simp only [go_sem]
     simp [h2]
 · rw [decide_eq_false h1] at ha
   refine zq ?_
   refine zb fun K hK=>?_;simp only [go_sem]
   refine zh (ha) rfl (by simp only [go_sem,i64,ints]) (by simp only [go_sem,i64,ints]) (by first | exact .inl rfl | exact .inr rfl) ?_
   (try simp only [go_sem]);refine hK _ ?_;clear hK K;refine zw (zk [4]) ?_;simp only [go_sem];refine ze ?_;simp only [go_sem]
   simp [h1]
def openR (r : Rk) (p : Ps) : Int:=if checkR r = 0 then (if posOk r p = true then 0 else 2) else checkR r
theorem open_ok (r : Rk) (p : Ps) (hw : WfL r.d r.aims) : ACalls Try.prog 60 [rkR r,psR p] (i64 (openR r p)):=by
 have hch:=acheck_ok r hw
 have hp:=isPos_ok r p
 unfold openR
 refine acalls_st (rs:=[i64 (if checkR r = 0 then (if posOk r p = true then 0 else 2) else checkR r)]) [.tmp 4] Try.func60 rfl (by kernel_rfl) Try.ntmps60 rfl (by simp) rfl fun C vs=>?_
 refine zq ?_
 refine zb fun K hK=>?_;simp only [go_sem];refine hK _ ?_;clear hK K;refine zw (sub_frzP 2 2 [i64 r.d,aimsR r.aims,i64 r.start,i64 r.out] (by omega) rfl rfl) ?_;refine zw (sub_frzP 3 3 [i64 p.st,i64 p.left,i64 p.darts] (by omega) rfl rfl) ?_;refine zw (zk [2,3]) ?_;simp only [go_sem]
 refine zq ?_
 refine zb fun K hK=>?_;simp only [go_sem]
 refine zh (hch) rfl (by simp only [go_sem,i64,ints]) (by simp only [go_sem,i64,ints]) (by first | exact .inl rfl | exact .inr rfl) ?_
 (try simp only [go_sem]);refine hK _ ?_;clear hK K;refine zw (zk [2,3,5]) ?_;simp only [go_sem]
 by_cases h0 : checkR r = 0
 · have e0 : (checkR r == 0) = true:=by simpa using h0
   rw [if_pos h0]
   cases hP : posOk r p
   · rw [hP] at hp
     repeat refine zq ?_
     refine zb fun K hK=>?_;simp only [go_sem,e0]
     refine zh (hp) rfl (by simp only [go_sem,i64,ints]) (by simp only [go_sem,i64,ints]) (by first | exact .inl rfl | exact .inr rfl) ?_
     (try simp only [go_sem]);refine hK _ ?_;clear hK K;refine zw (zk [5,15]) ?_;simp only [go_sem]
     refine zc rfl (fun hc=>?_) (fun hc=>?_) <;> (try simp only [go_sem] at hc)
     refine zb fun K hK=>?_;simp only [go_sem];refine hK _ ?_;clear hK K;refine zw (zk [5]) ?_;simp only [go_sem]
     refine zq ?_
     refine zb fun K hK=>?_;simp only [go_sem];refine hK _ ?_;clear hK K;refine zw (zk [4]) ?_;simp only [go_sem];refine ze ?_;simp only [go_sem]
   · rw [hP] at hp
     repeat refine zq ?_
     refine zb fun K hK=>?_;simp only [go_sem,e0]
     refine zh (hp) rfl (by simp only [go_sem,i64,ints]) (by simp only [go_sem,i64,ints]) (by first | exact .inl rfl | exact .inr rfl) ?_
     (try simp only [go_sem]);refine hK _ ?_;clear hK K;refine zw (zk [5,15]) ?_;simp only [go_sem]
     refine zc rfl (fun hc=>?_) (fun hc=>?_) <;> (try simp only [go_sem] at hc)
     refine zx ?_
     try simp only [go_sem]
     refine zq ?_
     refine zb fun K hK=>?_;simp only [go_sem];refine hK _ ?_;clear hK K;refine zw (zk [4]) ?_;simp only [go_sem];refine ze ?_;simp only [go_sem]
     simp [h0]
 · have e0 : (checkR r == 0) = false:=by simpa using h0
   rw [if_neg h0]
   repeat refine zq ?_
   refine zb fun K hK=>?_;simp only [go_sem,e0];refine hK _ ?_;clear hK K;refine zw (zk [5,15]) ?_;simp only [go_sem]
   refine zc rfl (fun hc=>?_) (fun hc=>?_) <;> (try simp only [go_sem] at hc)
   refine zx ?_
   try simp only [go_sem]
   refine zq ?_
   refine zb fun K hK=>?_;simp only [go_sem];refine hK _ ?_;clear hK K;refine zw (zk [4]) ?_;simp only [go_sem];refine ze ?_;simp only [go_sem]
theorem min_ok (x : Int) (l : List Int) (hl : l.length ≤ 1000) : ACalls Try.prog 62 [ints (x :: l)] (i64 (l.foldl min x)):=by
 refine acalls_st (rs:=[i64 (l.foldl min x)]) [.tmp 2] Try.func62 rfl (by kernel_rfl) Try.ntmps62 rfl (by simp) rfl fun C vs=>?_
 refine zq ?_
 refine zb fun K hK=>?_;simp only [go_sem];refine hK _ ?_;clear hK K;refine zw (zk [0]) ?_;simp only [go_sem]
 have e0 : decide ((l.length : Int) + 1 < 1) = false:=by simp; omega
 repeat refine zq ?_
 refine zb fun K hK=>?_;simp only [go_sem,List.length_map,e0]
 intro _
 refine hK _ ?_;clear hK K;refine zw (zk [0,7]) ?_;simp only [go_sem]
 refine zc rfl (fun hc=>?_) (fun hc=>?_) <;> (try simp only [go_sem] at hc)
 refine zx ?_
 try simp only [go_sem]
 refine zq ?_
 refine zb fun K hK=>?_;simp only [go_sem,List.length_map]
 refine ⟨by omega,?_⟩
 refine hK _ ?_;clear hK K;refine zw (zk [0,3]) ?_;simp only [go_sem]
 repeat refine zq ?_
 refine zb fun K hK=>?_;simp only [go_sem];refine hK _ ?_;clear hK K;refine zw (zk [0,3,4]) ?_;simp only [go_sem];refine zd ?_
 refine awp_upto (n:=25) l.length (fun i vs=>[(0,.r (ints (x :: l))),(3,.r (i64 ((l.take i).foldl min x))),(4,.r (i64 ((i : Int) + 1)))]) (fun _=>[]) (fun _=>True) 0 (fit_of [] ?_ ?_) (Nat.zero_le _) trivial ?_
 · try simp only [go_sem]
   try simp
 · try simp only [go_sem]
 intro i vs hi _
 by_cases hc0 : i < l.length
 · obtain ⟨y,hy⟩:=opt_of_lt hc0
   have hsn : (l.take (i + 1)).foldl min x = min ((l.take i).foldl min x) y:=by rw [take_of_opt hy,List.foldl_append]; rfl
   have e1 : decide ((i : Int) + 1 < (l.length : Int) + 1) = true:=by simp; omega
   repeat refine zq ?_
   refine zb fun K hK=>?_;simp only [go_sem,e1,List.length_map,hc0]
   intro _
   refine hK _ ?_;clear hK K;refine zw (zk [0,3,4,15]) ?_;simp only [go_sem]
   refine zc rfl (fun hc=>?_) (fun hc=>?_) <;> (try simp only [go_sem] at hc)
   refine zx ?_
   try simp only [go_sem]
   refine zq ?_
   refine zd ?_;refine zb fun K hK=>?_;simp only [go_sem,hy,hc0,List.length_map,List.length_cons,List.getElem?_cons_succ]
   refine ⟨by omega,?_⟩
   refine hK _ ?_;clear hK K;refine zw (zk [0,3,4]) ?_;simp only [go_sem]
   have w1 : IntKind.i64.wrap ((i : Int) + 1 + 1) = (i : Int) + 1 + 1:=by rw [zI] <;> omega
   refine zb fun K hK=>?_;simp only [go_sem,w1];refine hK _ ?_;clear hK K
   try simp only [go_sem]
   refine ⟨hc0,fit_of [] ?_ ?_⟩
   · simp only [go_sem,hsn]
   · try simp only [go_sem]
 · have hie : i = l.length:=by omega
   subst hie
   have e1 : decide ((l.length : Int) + 1 < (l.length : Int) + 1) = false:=by simp
   repeat refine zq ?_
   refine zb fun K hK=>?_;simp only [go_sem,e1,List.length_map]
   intro _
   refine hK _ ?_;clear hK K;refine zw (zk [0,3,4,15]) ?_;simp only [go_sem]
   refine zc rfl (fun hc=>?_) (fun hc=>?_) <;> (try simp only [go_sem] at hc)
   refine zf ?_;simp only [go_sem]
   refine zq ?_
   refine zb fun K hK=>?_;simp only [go_sem];refine hK _ ?_;clear hK K;refine zw (zk [2]) ?_;simp only [go_sem];refine ze ?_;simp only [go_sem]
   simp
def atI (v : Int) : List Int → Nat → Int
 | [],_=>-1
 | x :: l,i=>if v = x then i else atI v l (i + 1)
theorem atI_step (v : Int) : ∀ (l : List Int) (i : Nat),(∀ x ∈ l.take i,v ≠ x) → atI v l 0 = atI v (l.drop i) i
 | l,0,_=>rfl
 | [],i + 1,_=>by simp [atI]
 | y :: l, i + 1, h => by
   have gen : ∀ (l : List Int) (i k : Nat),(∀ x ∈ l.take i,v ≠ x) → atI v l k = atI v (l.drop i) (k + i):=by
    intro l
    induction l with
    | nil=>intro i k _; simp [atI]
    | cons z l ih =>
      intro i k hz
      cases i with
      | zero=>rfl
      | succ i =>
        have h0:=hz z (by simp)
        rw [atI,if_neg h0,ih i (k + 1) (fun x hx=>hz x (by simp [hx]))]
        simp only [List.drop_succ_cons]
        congr 1; omega
   have:=gen (y :: l) (i + 1) 0 h
   rwa [Nat.zero_add] at this
theorem index_ok (v : Int) (l : List Int) (hl : l.length ≤ 1000) : ACalls Try.prog 63 [ints l,i64 v] (i64 (atI v l 0)):=by
 refine acalls_st (rs:=[i64 (atI v l 0)]) [.tmp 4] Try.func63 rfl (by kernel_rfl) Try.ntmps63 rfl (by simp) rfl fun C vs=>?_
 refine zq ?_
 refine zb fun K hK=>?_;simp only [go_sem];refine hK _ ?_;clear hK K;refine zw (zk [0,1]) ?_;simp only [go_sem]
 repeat refine zq ?_
 refine zb fun K hK=>?_;simp only [go_sem,List.length_map]
 intro _
 refine hK _ ?_;clear hK K;refine zw (zk [0,1,7,8]) ?_;simp only [go_sem];refine zd ?_
 refine awp_upto (n:=19) l.length (fun i vs=>[(0,.r (ints l)),(1,.r (i64 v)),(7,.r (i64 l.length)),(8,.r (i64 (i : Int)))]) (fun _=>[]) (fun i=>∀ x ∈ l.take i,v ≠ x) 0 (fit_of [] ?_ ?_) (Nat.zero_le _) (by simp) ?_
 · try simp only [go_sem]
 · try simp only [go_sem]
 intro i vs hi hI
 by_cases hc0 : i < l.length
 · obtain ⟨y,hy⟩:=opt_of_lt hc0
   have hst:=atI_step v l i hI
   rw [drop_of_opt hy] at hst
   refine zq ?_
   refine zb fun K hK=>?_;simp only [go_sem,hc0];refine hK _ ?_;clear hK K;refine zw (zk [0,1,7,8,9]) ?_;simp only [go_sem]
   refine zq ?_
   refine zc rfl (fun hc=>?_) (fun hc=>?_) <;> (try simp only [go_sem] at hc)
   refine zx ?_
   try simp only [go_sem]
   refine zq ?_
   refine zd ?_
   refine zq ?_
   refine zb fun K hK=>?_;simp only [go_sem];refine hK _ ?_;clear hK K;refine zw (zk [0,1,5,7,8]) ?_;simp only [go_sem]
   refine zq ?_
   refine zb fun K hK=>?_;simp only [go_sem,hy,hc0,List.length_map];refine hK _ ?_;clear hK K;refine zw (zk [0,1,5,7,8,16]) ?_;simp only [go_sem]
   by_cases hvy : v = y
   · have e1 : (v == y) = true:=by simpa using hvy
     rw [e1]
     refine zc rfl (fun hc=>?_) (fun hc=>?_) <;> (try simp only [go_sem] at hc)
     refine zq ?_
     refine zb fun K hK=>?_;simp only [go_sem];refine hK _ ?_;clear hK K;refine zw (zk [4]) ?_;simp only [go_sem];refine ze ?_;simp only [go_sem];rw [hst,atI,if_pos hvy]
   · have e1 : (v == y) = false:=by simpa using hvy
     rw [e1]
     refine zc rfl (fun hc=>?_) (fun hc=>?_) <;> (try simp only [go_sem] at hc)
     refine zx ?_
     try simp only [go_sem]
     refine zb fun K hK=>?_;simp only [go_sem];(try simp (disch:=omega) only [zI]);refine hK _ ?_;clear hK K
     try simp only [go_sem]
     refine ⟨hc0,?_,fit_of [] ?_ ?_⟩
     · intro x hx
       rw [take_of_opt hy] at hx
       rcases List.mem_append.1 hx with hx | hx
       · exact hI x hx
       · simp at hx; subst hx; exact hvy
     · try simp only [go_sem]
     · try simp only [go_sem]
 · have hie : i = l.length:=by omega
   subst hie
   have hst:=atI_step v l l.length hI
   rw [List.drop_length] at hst
   refine zq ?_
   refine zb fun K hK=>?_;simp only [go_sem,Nat.lt_irrefl];refine hK _ ?_;clear hK K;refine zw (zk [0,1,7,8,9]) ?_;simp only [go_sem]
   refine zq ?_
   refine zc rfl (fun hc=>?_) (fun hc=>?_) <;> (try simp only [go_sem] at hc)
   refine zf ?_;simp only [go_sem]
   refine zq ?_
   refine zb fun K hK=>?_;simp only [go_sem];refine hK _ ?_;clear hK K;refine zw (zk [4]) ?_;simp only [go_sem];refine ze ?_;simp only [go_sem]
   rw [hst]; rfl
def aimL (l : List Int) : Int × Int × Int:=if leastA l = 2000000000 then (0,0,7) else (atI (leastA l) l 0,leastA l,0)
def aimQ (r : Rk) (p : Ps) : Int × Int × Int:=if openR r p = 0 then aimL (At.atV r false (tabT r false) p.st.toNat p.left.toNat (p.darts - 1).toNat) else (0,0,openR r p)
theorem openR_zero {r : Rk} {p : Ps} (h : openR r p = 0) : ROk r ∧ posOk r p = true:=by
 unfold openR at h
 by_cases h0 : checkR r = 0
 · rw [if_pos h0] at h
   refine ⟨(checkR_zero h0).2,?_⟩
   cases hp : posOk r p
   · rw [hp] at h; simp at h
   · rfl
 · rw [if_neg h0] at h; exact (h0 h).elim
theorem aim_ok (r : Rk) (p : Ps) (hw : WfL r.d r.aims) : ACalls Try.prog 26 [rkR r,psR p] (.tu [i64 (aimQ r p).1,i64 (aimQ r p).2.1,i64 (aimQ r p).2.2]):=by
 have hop:=open_ok r p hw
 refine acalls_st (rs:=[i64 (aimQ r p).1,i64 (aimQ r p).2.1,i64 (aimQ r p).2.2]) [.tmp 4,.tmp 5,.tmp 6] Try.func26 rfl (by kernel_rfl) Try.ntmps26 rfl (by simp) rfl fun C vs=>?_
 refine zq ?_
 refine zb fun K hK=>?_;simp only [go_sem];refine hK _ ?_;clear hK K;refine zw (sub_frzP 2 2 [i64 r.d,aimsR r.aims,i64 r.start,i64 r.out] (by omega) rfl rfl) ?_;refine zw (sub_frzP 3 3 [i64 p.st,i64 p.left,i64 p.darts] (by omega) rfl rfl) ?_;refine zw (zk [2,3]) ?_;simp only [go_sem]
 repeat refine zq ?_
 refine zb fun K hK=>?_;simp only [go_sem]
 refine zh (hop) rfl (by simp only [go_sem,i64,ints]) (by simp only [go_sem,i64,ints]) (by first | exact .inl rfl | exact .inr rfl) ?_
 (try simp only [go_sem]);refine hK _ ?_;clear hK K;refine zw (zk [2,3,7]) ?_;simp only [go_sem]
 refine zq ?_
 refine zb fun K hK=>?_;simp only [go_sem];refine hK _ ?_;clear hK K;refine zw (zk [2,3,7,13]) ?_;simp only [go_sem]
 by_cases h0 : openR r p = 0
 · have e0 : (openR r p != 0) = false:=by simp [h0]
   have hA : aimQ r p = aimL (At.atV r false (tabT r false) p.st.toNat p.left.toNat (p.darts - 1).toNat):=by unfold aimQ; rw [if_pos h0]
   obtain ⟨hr,hp⟩:=openR_zero h0
   simp only [posOk,decide_eq_true_eq] at hp
   have hlg:=lowG_le r.out
   have hrs:=hr.start
   have hat:=At.at_ok hr false p.st.toNat p.left.toNat (p.darts - 1).toNat (by omega) (by omega) (by omega) (by omega)
   have g1 : ((p.st.toNat : Nat) : Int) = p.st:=by omega
   have g2 : ((p.left.toNat : Nat) : Int) = p.left:=by omega
   have g3 : (((p.darts - 1).toNat : Nat) : Int) + 1 = p.darts:=by omega
   rw [g1,g2,g3] at hat
   have hlen : (At.atV r false (tabT r false) p.st.toNat p.left.toNat (p.darts - 1).toNat).length = r.aims.length:=by simp [At.atV]
   have htt:=tab_eq hr false (cntA r) (Nat.le_refl _)
   have hLv : ∀ y ∈ At.atV r false (tabT r false) p.st.toNat p.left.toNat (p.darts - 1).toNat,VOk y:=fun y hy=>by
    obtain ⟨a,ha,rfl⟩:=List.mem_map.1 hy
    exact meanA_vok (getD_vok htt.2.2 _) (valA_vok hr htt.2.2 (getD_vok htt.2.2 _) _) (hr.aims a ha)
   rw [hA,e0]
   generalize At.atV r false (tabT r false) p.st.toNat p.left.toNat (p.darts - 1).toNat = L at *
   have hLl : L.length ≤ 20:=by rw [hlen]; exact hr.len
   obtain ⟨x,L',rfl⟩ : ∃ x L',L = x :: L':=by
    cases L with
    | nil=>exact absurd (List.length_eq_zero_iff.1 hlen.symm) hr.ne
    | cons x L'=>exact ⟨x,L',rfl⟩
   have hmin:=min_ok x L' (by simp at hLl; omega)
   have hleast : leastA (x :: L') = min 2000000000 (L'.foldl min x):=by
    unfold leastA
    simp only [List.foldl_cons]
    have : ∀ (l : List Int) (a b : Int),l.foldl min (min a b) = min a (l.foldl min b):=by
     intro l
     induction l with
     | nil=>intro a b; rfl
     | cons y l ih=>intro a b; simp only [List.foldl_cons]; rw [← ih]; congr 1; omega
    exact this L' 2000000000 x
   refine zc rfl (fun hc=>?_) (fun hc=>?_) <;> (try simp only [go_sem] at hc)
   refine zx ?_
   try simp only [go_sem]
   refine zq ?_
   refine zb fun K hK=>?_;simp only [go_sem]
   refine zh (hat) rfl (by simp only [go_sem,i64,ints]) (by simp only [go_sem,i64,ints]) (by first | exact .inl rfl | exact .inr rfl) ?_
   (try simp only [go_sem]);refine hK _ ?_;clear hK K;refine zw (zk [8]) ?_;simp only [go_sem]
   refine zq ?_
   refine zb fun K hK=>?_;simp only [go_sem]
   refine zh (hmin) rfl (by simp only [go_sem,i64,ints]) (by simp only [go_sem,i64,ints]) (by first | exact .inl rfl | exact .inr rfl) ?_
   (try simp only [go_sem]);refine hK _ ?_;clear hK K;refine zw (zk [5,8]) ?_;simp only [go_sem]
   have hx:=hLv x (by simp)
   have hfm:=foldl_min L' x
   have hm : leastA (x :: L') = L'.foldl min x:=by rw [hleast]; unfold VOk at hx; omega
   have hix:=index_ok (leastA (x :: L')) (x :: L') (by omega)
   rw [← hm]
   unfold aimL
   generalize leastA (x :: L') = m at *
   repeat refine zq ?_
   refine zb fun K hK=>?_;simp only [go_sem];refine hK _ ?_;clear hK K;refine zw (zk [5,8,21]) ?_;simp only [go_sem]
   by_cases hN : m = 2000000000
   · have eN : (m == 2000000000) = true:=by simpa using hN
     rw [eN,if_pos hN]
     refine zc rfl (fun hc=>?_) (fun hc=>?_) <;> (try simp only [go_sem] at hc)
     refine zq ?_
     refine zb fun K hK=>?_;simp only [go_sem];refine hK _ ?_;clear hK K;refine zw (zk [4,5,6]) ?_;simp only [go_sem];refine ze ?_;simp only [go_sem]
   · have eN : (m == 2000000000) = false:=by simpa using hN
     rw [eN,if_neg hN]
     refine zc rfl (fun hc=>?_) (fun hc=>?_) <;> (try simp only [go_sem] at hc)
     refine zx ?_
     try simp only [go_sem]
     refine zq ?_
     refine zb fun K hK=>?_;simp only [go_sem]
     refine zh (hix) rfl (by simp only [go_sem,i64,ints]) (by simp only [go_sem,i64,ints]) (by first | exact .inl rfl | exact .inr rfl) ?_
     (try simp only [go_sem]);refine hK _ ?_;clear hK K;refine zw (zk [4,5,6]) ?_;simp only [go_sem];refine ze ?_;simp only [go_sem]
 · have e0 : (openR r p != 0) = true:=by simpa using h0
   have hA : aimQ r p = (0,0,openR r p):=by unfold aimQ; rw [if_neg h0]
   rw [hA,e0]
   refine zc rfl (fun hc=>?_) (fun hc=>?_) <;> (try simp only [go_sem] at hc)
   refine zq ?_
   refine zb fun K hK=>?_;simp only [go_sem];refine hK _ ?_;clear hK K;refine zw (zk [4,5,6]) ?_;simp only [go_sem];refine ze ?_;simp only [go_sem]
end Go.Proofs.Ytgfbenanljjgaaa.Du.Th.Ai

namespace Go.Proofs.Ytgfbenanljjgaaa.Du.Th
open Go Go.Oc
set_option linter.unusedSimpArgs false
set_option linter.unusedVariables false
set_option maxRecDepth 8000
instance : DecidableEq Bd:=fun a b=>decidable_of_iff (a.b = b.b ∧ a.lo = b.lo ∧ a.hi = b.hi) (by cases a; cases b; simp)
instance : DecidableEq Am:=fun a b=>decidable_of_iff (a.at_ = b.at_ ∧ a.beds = b.beds) (by cases a; cases b; simp)
theorem any_step {α : Type} {p : α → Bool} {l : List α} {k : Nat} {y : α} (hy : l[k]? = some y) : (l.take (k + 1)).any p = ((l.take k).any p || p y):=by rw [take_of_opt hy]; simp
theorem any_of {α : Type} {p : α → Bool} {l : List α} {k : Nat} {y : α} (hy : l[k]? = some y) (h : p y = true) : l.any p = true:=List.any_eq_true.2 ⟨y,mem_of_opt hy,h⟩
def greatL (l : List Am) : Bool:=decide (22 < l.length) || l.any fun a=>decide (12 < a.beds.length)
theorem alike_ok (a b : List Int) : ACalls Try.prog 23 [ints a,ints b] (.bo (decide (a = b))):=by
 refine acalls_st (rs:=[.bo (decide (a = b))]) [.tmp 4] Try.func23 rfl (by kernel_rfl) Try.ntmps23 rfl (by simp) rfl fun C vs=>?_
 refine zq ?_
 refine zb fun K hK=>?_;simp only [go_sem];refine hK _ ?_;clear hK K;refine zw (zk [0,1]) ?_;simp only [go_sem]
 repeat refine zq ?_
 refine zb fun K hK=>?_;simp only [go_sem]
 intro hla hlb
 by_cases h1 : a.length = b.length
 case neg =>
  have e4 : ((a.length : Int) != b.length) = true:=by simp; omega
  rw [e4]
  refine hK _ ?_;clear hK K
  refine zc rfl (fun hc=>?_) (fun hc=>?_) <;> (try simp only [go_sem] at hc)
  refine zq ?_
  refine zb fun K hK=>?_;simp only [go_sem];refine hK _ ?_;clear hK K;refine ze ?_;simp only [go_sem]
  simp
  exact fun h=>h1 (by rw [h])
 have e4 : ((a.length : Int) != b.length) = false:=by simp [h1]
 rw [e4]
 refine hK _ ?_;clear hK K;refine zw (zk [0,1,10]) ?_;simp only [go_sem]
 refine zc rfl (fun hc=>?_) (fun hc=>?_) <;> (try simp only [go_sem] at hc)
 refine zx ?_
 try simp only [go_sem]
 repeat refine zq ?_
 refine zb fun K hK=>?_;simp only [go_sem];refine hK _ ?_;clear hK K;refine zw (zk [0,1,5]) ?_;simp only [go_sem];refine zd ?_
 refine awp_upto (n:=26) a.length (fun i vs=>[(0,.r (ints a)),(1,.r (ints b)),(5,.r (i64 i))])
  (fun i=>[]) (fun i=>a.take i = b.take i) 0 (fit_of [] ?_ ?_) (Nat.zero_le _) (by simp) ?_
 · try simp only [go_sem]
 · try simp only [go_sem]
 · intro i vs hi hI
   repeat refine zq ?_
   refine zb fun K hK=>?_;simp only [go_sem]
   intro _
   refine hK _ ?_;clear hK K;refine zw (zk [0,1,5,14]) ?_;simp only [go_sem]
   refine zc rfl (fun hc=>?_) (fun hc=>?_) <;> (try simp only [go_sem] at hc)
   · skip
     have hci : i < a.length:=by omega
     have hc2 : i < b.length:=by omega
     obtain ⟨u,hu⟩:=opt_of_lt hci
     obtain ⟨v,hv⟩:=opt_of_lt hc2
     refine zx ?_
     try simp only [go_sem]
     refine zq ?_
     refine zd ?_
     refine zq ?_
     refine zg follows (by decide +kernel) (by kernel_rfl) fun K hK=>?_;simp only [go_sem,hu,hv,hci,hc2];refine hK _ ?_;clear hK K
     by_cases huv : u = v
     · have e6 : (u != v) = false:=by simp [huv]
       rw [e6]
       refine zc rfl (fun hc=>?_) (fun hc=>?_) <;> (try simp only [go_sem] at hc)
       refine zx ?_
       try simp only [go_sem]
       refine zb fun K hK=>?_;simp only [go_sem];(try simp (disch:=omega) only [zI]);refine hK _ ?_;clear hK K
       try simp only [go_sem]
       refine ⟨hci,?_,fit_of [] ?_ ?_⟩
       · rw [take_of_opt hu,take_of_opt hv,hI,huv]
       · try simp only [go_sem]
       · try simp only [go_sem]
     · have e6 : (u != v) = true:=by simp [huv]
       rw [e6]
       refine zc rfl (fun hc=>?_) (fun hc=>?_) <;> (try simp only [go_sem] at hc)
       refine zq ?_
       refine zb fun K hK=>?_;simp only [go_sem];refine hK _ ?_;clear hK K;refine ze ?_;simp only [go_sem]
       simp
       rintro rfl
       rw [hu] at hv
       injection hv with hv
       exact huv hv
   · skip
     refine zf ?_;simp only [go_sem]
     refine zq ?_
     refine zb fun K hK=>?_;simp only [go_sem];refine hK _ ?_;clear hK K;refine zw (zk [4]) ?_;simp only [go_sem];refine ze ?_;simp only [go_sem]
     have : i = a.length:=by omega
     subst this
     have hab : a = b:=by rwa [List.take_length,h1,List.take_length] at hI
     simp [hab]
end Go.Proofs.Ytgfbenanljjgaaa.Du.Th

namespace Go.Proofs.Ytgfbenanljjgaaa.Du.Th.Ai
open Go Go.Oc
set_option linter.unusedSimpArgs false
set_option linter.unusedVariables false
set_option maxRecDepth 8000
set_option maxHeartbeats 8000000
def dblB (b : Bool) : List Bd:=if b then [⟨0,0,1⟩,⟨101,0,1⟩,⟨201,1,1⟩] else [⟨0,1,1⟩,⟨201,1,1⟩]
def dbl (st : Int) (b : Bool) : Rk:=⟨2,[⟨201,dblB b⟩],st,1⟩
theorem double_ok (st : Int) (b : Bool) : ACalls Try.prog 53 [i64 st,.bo b] (rkR (dbl st b)):=by
 refine acalls_st (rs:=[rkR (dbl st b)]) [.cell 4 27] Try.func53 rfl (by kernel_rfl) Try.ntmps53 rfl (by simp) rfl fun C vs=>?_
 refine zq ?_
 refine zb fun K hK=>?_;simp only [go_sem];refine hK _ ?_;clear hK K;refine zw (zk [0,1,4]) ?_;simp only [go_sem]
 cases b
 · refine zq ?_
   refine zb fun K hK=>?_;simp only [go_sem];refine hK _ ?_;clear hK K;refine zw (zk [0,1,4,5]) ?_;simp only [go_sem]
   repeat refine zq ?_
   refine zb fun K hK=>?_;simp only [go_sem];refine hK _ ?_;clear hK K;refine zw (zk [0,4,5,11]) ?_;simp only [go_sem]
   refine zc rfl (fun hc=>?_) (fun hc=>?_) <;> (try simp only [go_sem] at hc)
   refine zx ?_
   try simp only [go_sem]
   refine zq ?_
   refine zb fun K hK=>?_;simp only [go_sem];refine hK _ ?_;clear hK K;refine zw (zk [4]) ?_;simp only [go_sem];refine ze ?_;simp only [go_sem];exact ⟨rfl,rfl,rfl,rfl⟩
 · refine zq ?_
   refine zb fun K hK=>?_;simp only [go_sem];refine hK _ ?_;clear hK K;refine zw (zk [0,1,4,5]) ?_;simp only [go_sem]
   repeat refine zq ?_
   refine zb fun K hK=>?_;simp only [go_sem];refine hK _ ?_;clear hK K;refine zw (zk [0,4,5,11]) ?_;simp only [go_sem]
   refine zc rfl (fun hc=>?_) (fun hc=>?_) <;> (try simp only [go_sem] at hc)
   refine zb fun K hK=>?_;simp only [go_sem];refine hK _ ?_;clear hK K;refine zw (zk [0,4,5]) ?_;simp only [go_sem]
   refine zq ?_
   refine zb fun K hK=>?_;simp only [go_sem];refine hK _ ?_;clear hK K;refine zw (zk [4]) ?_;simp only [go_sem];refine ze ?_;simp only [go_sem];exact ⟨rfl,rfl,rfl,rfl⟩
theorem dbl_ok32 : ROk (dbl 3 false):=(checkR_zero (by decide +kernel)).2
theorem dbl_ok22 : ROk (dbl 2 false):=(checkR_zero (by decide +kernel)).2
theorem dbl_ok2t : ROk (dbl 2 true):=(checkR_zero (by decide +kernel)).2
theorem vok_list {l : List Int} (h : l.all (fun x=>decide (0 ≤ x) && decide (x ≤ 1000000000) || decide (x = 2000000000)) = true) : ∀ x ∈ l,VOk x:=fun x hx=>by
 have:=List.all_eq_true.1 h x hx
 simp at this
 exact this
theorem u3 : tabT (dbl 3 false) false = [0,0,1142858,2000000000]:=by
 have h1 : numA (dbl 3 false) false [0,0,0,0] 2 = 1142858:=numA_upper dbl_ok32 (vok_list (by decide)) (by decide) (by decide) (by omega) (by decide +kernel) (.inr (by decide +kernel))
 have h2 : numA (dbl 3 false) false [0,0,1142858,0] 3 = 2000000000:=numA_never dbl_ok32 (vok_list (by decide)) (by decide) (by decide) (by decide +kernel)
 show (([0,0,0,0] : List Int).set 2 (numA (dbl 3 false) false [0,0,0,0] 2)).set 3 (numA (dbl 3 false) false (([0,0,0,0] : List Int).set 2 (numA (dbl 3 false) false [0,0,0,0] 2)) 3) = _
 rw [h1]
 show ([0,0,1142858,0] : List Int).set 3 (numA (dbl 3 false) false [0,0,1142858,0] 3) = _
 rw [h2]; rfl
theorem l3 : tabT (dbl 3 false) true = [0,0,1142857,1000000000]:=by
 have h1 : numA (dbl 3 false) true [0,0,0,0] 2 = 1142857:=numA_lower dbl_ok32 (vok_list (by decide)) (by decide) (by decide) (by omega) (.inr (by decide +kernel)) (.inr (by decide +kernel))
 have h2 : numA (dbl 3 false) true [0,0,1142857,0] 3 = 1000000000:=numA_lower dbl_ok32 (vok_list (by decide)) (by decide) (by decide) (by omega) (.inr (by decide +kernel)) (.inl rfl)
 show (([0,0,0,0] : List Int).set 2 (numA (dbl 3 false) true [0,0,0,0] 2)).set 3 (numA (dbl 3 false) true (([0,0,0,0] : List Int).set 2 (numA (dbl 3 false) true [0,0,0,0] 2)) 3) = _
 rw [h1]
 show ([0,0,1142857,0] : List Int).set 3 (numA (dbl 3 false) true [0,0,1142857,0] 3) = _
 rw [h2]; rfl
theorem u2t : tabT (dbl 2 true) false = [0,0,2000000]:=by
 have h1 : numA (dbl 2 true) false [0,0,0] 2 = 2000000:=numA_upper dbl_ok2t (vok_list (by decide)) (by decide) (by decide) (by omega) (by decide +kernel) (.inr (by decide +kernel))
 show ([0,0,0] : List Int).set 2 (numA (dbl 2 true) false [0,0,0] 2) = _
 rw [h1]; rfl
theorem l2t : tabT (dbl 2 true) true = [0,0,1142857]:=by
 have h1 : numA (dbl 2 true) true [0,0,0] 2 = 1142857:=numA_lower dbl_ok2t (vok_list (by decide)) (by decide) (by decide) (by omega) (.inr (by decide +kernel)) (.inr (by decide +kernel))
 show ([0,0,0] : List Int).set 2 (numA (dbl 2 true) true [0,0,0] 2) = _
 rw [h1]; rfl
theorem u2 : tabT (dbl 2 false) false = [0,0,1142858]:=by
 have h1 : numA (dbl 2 false) false [0,0,0] 2 = 1142858:=numA_upper dbl_ok22 (vok_list (by decide)) (by decide) (by decide) (by omega) (by decide +kernel) (.inr (by decide +kernel))
 show ([0,0,0] : List Int).set 2 (numA (dbl 2 false) false [0,0,0] 2) = _
 rw [h1]; rfl
theorem aim2 : aimQ (dbl 2 false) ⟨2,2,1⟩ = (0,571429,0):=by
 unfold aimQ
 rw [u2]
 decide +kernel
theorem nev3 : nevL (dbl 3 false) (tabT (dbl 3 false) false) (cntA (dbl 3 false)) = [3]:=by
 rw [u3]
 decide +kernel
theorem wf_dbl (st : Int) (b : Bool) : WfL (dbl st b).d (dbl st b).aims:=by
 refine ⟨⟨by show (_ : Int) ≤ 2; omega,by show (2 : Int) ≤ _; omega⟩,fun a ha=>?_⟩
 simp only [dbl,List.mem_singleton] at ha
 subst ha
 refine ⟨⟨by show (_ : Int) ≤ 201; omega,by show (201 : Int) ≤ _; omega⟩,?_⟩
 cases b <;> intro x hx <;> simp [dblB] at hx <;> (first | (rcases hx with rfl | rfl | rfl) | (rcases hx with rfl | rfl)) <;> exact ⟨⟨by simp,by simp⟩,⟨by simp,by simp⟩,⟨by simp,by simp⟩⟩
theorem table_at {r : Rk} {u l : List Int} (hw : WfL r.d r.aims) (h0 : checkR r = 0) (hu : tabT r false = u) (hl : tabT r true = l) : ACalls Try.prog 17 [rkR r] (.tu [ints u,ints l,i64 0]):=by
 have:=table_ok r hw
 rw [h0,if_pos rfl,if_pos rfl,hu,hl] at this
 exact this
theorem known_ok : ACalls Try.prog 14 [] (.bo true):=by
 have d3:=double_ok 3 false
 have d2t:=double_ok 2 true
 have d2:=double_ok 2 false
 have t3:=table_at (wf_dbl 3 false) (by decide +kernel) u3 l3
 have t2:=table_at (wf_dbl 2 true) (by decide +kernel) u2t l2t
 have a2:=aim_ok (dbl 2 false) ⟨2,2,1⟩ (wf_dbl 2 false)
 rw [aim2] at a2
 have n3:=never_ok (dbl 3 false) (wf_dbl 3 false)
 rw [nev3,show checkR (dbl 3 false) = 0 by decide +kernel,if_pos rfl] at n3
 have k1:=alike_ok [0,0,1142858,2000000000] [0,0,1142858,2000000000]
 have k2:=alike_ok [0,0,1142857,1000000000] [0,0,1142857,1000000000]
 have k3:=alike_ok [0,0,2000000] [0,0,2000000]
 have k4:=alike_ok [0,0,1142857] [0,0,1142857]
 have k5:=alike_ok [3] [3]
 rw [decide_eq_true rfl] at k1 k2 k3 k4 k5
 generalize dbl 3 false = R3 at *
 generalize dbl 2 true = R2t at *
 generalize dbl 2 false = R2 at *
 refine acalls_st (rs:=[.bo true]) [.tmp 0] Try.func14 rfl (by kernel_rfl) Try.ntmps14 rfl (by simp) rfl fun C vs=>?_
 refine zq ?_
 refine zb fun K hK=>?_;simp only [go_sem];refine hK _ ?_;clear hK K
 refine zq ?_
 refine zb fun K hK=>?_;simp only [go_sem]
 refine zh (d3) rfl (by simp only [go_sem,i64,ints]) (by simp only [go_sem,i64,ints]) (by first | exact .inl rfl | exact .inr rfl) ?_
 (try simp only [go_sem])
 refine zh (t3) rfl (by simp only [go_sem,i64,ints]) (by simp only [go_sem,i64,ints]) (by first | exact .inl rfl | exact .inr rfl) ?_
 (try simp only [go_sem]);refine hK _ ?_;clear hK K;refine zw (zk [1,2,3]) ?_;simp only [go_sem]
 refine zq ?_
 refine zb fun K hK=>?_;simp only [go_sem]
 refine zh (d2t) rfl (by simp only [go_sem,i64,ints]) (by simp only [go_sem,i64,ints]) (by first | exact .inl rfl | exact .inr rfl) ?_
 (try simp only [go_sem])
 refine zh (t2) rfl (by simp only [go_sem,i64,ints]) (by simp only [go_sem,i64,ints]) (by first | exact .inl rfl | exact .inr rfl) ?_
 (try simp only [go_sem]);refine hK _ ?_;clear hK K;refine zw (zk [1,2,3,4,5,6]) ?_;simp only [go_sem]
 refine zq ?_
 refine zb fun K hK=>?_;simp only [go_sem]
 refine zh (d2) rfl (by simp only [go_sem,i64,ints]) (by simp only [go_sem,i64,ints]) (by first | exact .inl rfl | exact .inr rfl) ?_
 (try simp only [go_sem])
 refine zh (a2) rfl (by simp only [go_sem,i64,ints]) (by simp only [go_sem,i64,ints]) (by first | exact .inl rfl | exact .inr rfl) ?_
 (try simp only [go_sem]);refine hK _ ?_;clear hK K;refine zw (zk [1,2,3,4,5,6,7,8,9]) ?_;simp only [go_sem]
 refine zq ?_
 refine zb fun K hK=>?_;simp only [go_sem]
 refine zh (d3) rfl (by simp only [go_sem,i64,ints]) (by simp only [go_sem,i64,ints]) (by first | exact .inl rfl | exact .inr rfl) ?_
 (try simp only [go_sem])
 refine zh (n3) rfl (by simp only [go_sem,i64,ints]) (by simp only [go_sem,i64,ints]) (by first | exact .inl rfl | exact .inr rfl) ?_
 (try simp only [go_sem]);refine hK _ ?_;clear hK K;refine zw (zk [1,2,3,4,5,6,7,8,9,10,11]) ?_;simp only [go_sem]
 refine zq ?_
 refine zb fun K hK=>?_;simp only [go_sem]
 refine zh (k1) rfl (by simp only [go_sem,i64,ints]) (by simp only [go_sem,i64,ints]) (by first | exact .inl rfl | exact .inr rfl) ?_
 (try simp only [go_sem])
 refine zh (k2) rfl (by simp only [go_sem,i64,ints]) (by simp only [go_sem,i64,ints]) (by first | exact .inl rfl | exact .inr rfl) ?_
 (try simp only [go_sem])
 refine zh (k3) rfl (by simp only [go_sem,i64,ints]) (by simp only [go_sem,i64,ints]) (by first | exact .inl rfl | exact .inr rfl) ?_
 (try simp only [go_sem])
 refine zh (k4) rfl (by simp only [go_sem,i64,ints]) (by simp only [go_sem,i64,ints]) (by first | exact .inl rfl | exact .inr rfl) ?_
 (try simp only [go_sem])
 refine zh (k5) rfl (by simp only [go_sem,i64,ints]) (by simp only [go_sem,i64,ints]) (by first | exact .inl rfl | exact .inr rfl) ?_
 (try simp only [go_sem]);refine hK _ ?_;clear hK K;refine zw (zk [0]) ?_;simp only [go_sem];refine ze ?_;simp only [go_sem]
theorem l2 : tabT (dbl 2 false) true = [0,0,1142857]:=by
 have h1 : numA (dbl 2 false) true [0,0,0] 2 = 1142857:=numA_lower dbl_ok22 (vok_list (by decide)) (by decide) (by decide) (by omega) (.inr (by decide +kernel)) (.inr (by decide +kernel))
 show ([0,0,0] : List Int).set 2 (numA (dbl 2 false) true [0,0,0] 2) = _
 rw [h1]; rfl
theorem pubAim_ok : ACalls Try.prog 38 [] (.bo true):=by
 have hck : checkR (dbl 2 false) = 0:=by decide +kernel
 have hwf : WfL (dbl 2 false).d (dbl 2 false).aims:=wfL_chk (checkR_zero hck).1 (by decide)
 have htb:=table_ok (dbl 2 false) hwf
 rw [if_pos hck,if_pos hck,hck,u2,l2] at htb
 have htb' : ACalls Try.prog 17 [.ag [.it .i64 2,aimsR (dbl 2 false).aims,.it .i64 2,.it .i64 1]] (.tu [ints [0,0,1142858],ints [0,0,1142857],i64 0]):=htb
 have h1:=one_mk 1
 refine acalls_st (rs:=[.bo true]) [.tmp 0] Try.func38 rfl (by kernel_rfl) Try.ntmps38 rfl (by simp) rfl fun C vs=>?_
 refine zq ?_
 refine zb fun K hK=>?_;simp only [go_sem];refine hK _ ?_;clear hK K;refine zw (zk []) ?_;simp only [go_sem]
 refine zq ?_
 refine zb fun K hK=>?_;simp only [go_sem]
 refine zh (h1) rfl (by simp only [go_sem,i64,ints]) (by simp only [go_sem,i64,ints]) (by first | exact .inl rfl | exact .inr rfl) ?_
 (try simp only [go_sem])
 refine zh (h1) rfl (by simp only [go_sem,i64,ints]) (by simp only [go_sem,i64,ints]) (by first | exact .inl rfl | exact .inr rfl) ?_
 (try simp only [go_sem]);refine hK _ ?_;clear hK K;refine zw (sub_frzP 1 1 [i64 2,aimsR (dbl 2 false).aims] (by omega) (by try simp only [go_sem]) (by try simp only [go_sem]; rfl)) ?_;refine zw (zk [1]) ?_;simp only [go_sem]
 refine zq ?_
 refine zb fun K hK=>?_;simp only [go_sem]
 refine zh (htb') rfl (by simp only [go_sem,i64,ints]) (by simp only [go_sem,i64,ints]) (by first | exact .inl rfl | exact .inr rfl) ?_
 (try simp only [go_sem]);refine hK _ ?_;clear hK K;refine zw (zk [2,3,4]) ?_;simp only [go_sem]
 have e0 : ((0 : Int) == 0) = true:=rfl
 have e1 : ((3 : Int) == 3) = true:=rfl
 have e2 : ((1142858 : Int) == 1142858) = true:=rfl
 have e3 : ((1142857 : Int) == 1142857) = true:=rfl
 refine zq ?_
 refine zb fun K hK=>?_;simp only [go_sem,e0,e1,e2,e3,List.map_cons,List.map_nil,List.length_cons,List.length_nil]
 (try intros)
 refine hK _ ?_;clear hK K;refine zw (zk [0]) ?_;simp only [go_sem];refine ze ?_;simp only [go_sem]
end Go.Proofs.Ytgfbenanljjgaaa.Du.Th.Ai

namespace Go.Oc
open Go Go.RowKit
end Go.Oc
namespace Go.Proofs.Ytgfbenanljjgaaa.Du.Th.Ai
open Go Go.Oc
set_option linter.unusedSimpArgs false
set_option linter.unusedVariables false
set_option maxRecDepth 8000
set_option maxHeartbeats 8000000
def isN (s : Bool) (n : Int) : Bool:=decide (0 ≤ n ∧ n ≤ 1000000000) || (decide (n = 2000000000) && !s)
def formR (r : Rk) (s : Bool) (T : List Int) : Int:=if (T.length : Int) ≠ r.start + 1 then 4 else if withinL 0 0 (T.take (lowG r.out).toNat) = false then 4 else if (T.drop (lowG r.out).toNat).any (fun n=>!isN s n) = true then 2 else 0
def fstR (f : Nat → Bool) : Nat → Nat → Int
 | 0,_=>0
 | n + 1,i=>if f i then fstR f n (i + 1) else (i : Int)
def firstR (r : Rk) (s : Bool) (T : List Int) : Int:=fstR (holdsA r s T) (cntA r) (lowG r.out).toNat
def provR (r : Rk) (s : Bool) (T : List Int) : Int × Int:=if checkR r = 0 then (if formR r s T = 0 then (firstR r s T,0) else (0,formR r s T)) else (0,checkR r)
end Go.Proofs.Ytgfbenanljjgaaa.Du.Th.Ai

namespace Go.Proofs.Ytgfbenanljjgaaa.Du.Th.Ai
open Go Go.Oc
set_option linter.unusedSimpArgs false
set_option linter.unusedVariables false
set_option maxRecDepth 8000
theorem nextA_cg {out own left : Int} {f g : Int → Int} (h : ∀ x,lowG out ≤ x → x ≤ left → f x = g x) {b : Int} (hb : 0 ≤ b ∧ b ≤ 499) : nextA out own left f b = nextA out own left g b:=by
 have hs:=score_nn hb
 unfold nextA
 split
 · rfl
 · split
   · rfl
   · exact h _ (by omega) (by omega)
theorem meanA_cg {r : Rk} {s : Bool} {own left : Int} {f g : Int → Int} (h : ∀ x,lowG r.out ≤ x → x ≤ left → f x = g x) {a : Am} (ha : AOk r.d a.beds) : meanA r s own left f a = meanA r s own left g a:=by
 unfold meanA
 congr 1
 exact List.map_congr_left fun b hb=>nextA_cg h (ha.bed b hb)
theorem valA_cg {r : Rk} (hr : ROk r) {s : Bool} {T U : List Int} {own : Int} {st : Nat} (h : ∀ x,x ≤ st → T.getD x 0 = U.getD x 0) : ∀ (k : Nat) (left : Int),lowG r.out ≤ left → left ≤ st → valA r s T own k left = valA r s U own k left
 | 0,left,h1,h2=>h _ (by omega)
 | k + 1, left, h1, h2 => by
   unfold valA
   congr 1
   exact List.map_congr_left fun a ha=>meanA_cg (fun x q1 q2=>valA_cg hr h k x q1 (by omega)) (hr.aims a ha)
theorem holds_cg {r : Rk} (hr : ROk r) {s : Bool} {T U : List Int} {st : Nat} (hlo : lowG r.out ≤ st) (h : ∀ x,x ≤ st → T.getD x 0 = U.getD x 0) : holdsA r s T st = holdsA r s U st:=by
 have h1:=h st (Nat.le_refl _)
 have h2:=valA_cg hr (s:=s) (own:=U.getD st 0) h 3 st hlo (Int.le_refl _)
 unfold holdsA
 rw [h1,h2]
theorem numA_false {r : Rk} (hr : ROk r) {nums : List Int} {st : Nat} (hn : ∀ x ∈ nums,VOk x) (hst : st < nums.length) (hlo : lowG r.out ≤ st) :
 numA r false nums st = 2000000000 ∨ ((1000000 ≤ numA r false nums st ∧ numA r false nums st ≤ 1000000000) ∧ holdsA r false (nums.set st (numA r false nums st)) st = true ∧ holdsA r false (nums.set st (numA r false nums st - 1)) st = false):=by
 obtain ⟨g1,g2,g3,g4⟩:=srch_spec (fun k=>holdsA r false (nums.set st (1000000 + (k : Int))) st) 0 999000001 (by omega) fun a b q1 q2 q3 q4=>holds_up hr hn hst hlo (by omega) (by omega) (by omega) q4
 unfold numA
 simp only [Bool.false_eq_true,if_false]
 generalize srch (fun k=>holdsA r false (nums.set st (1000000 + (k : Int))) st) 0 999000001 = k at *
 by_cases h : 1000000000 < 1000000 + (k : Int)
 · left; rw [if_pos h]
 · right
   rw [if_neg h]
   refine ⟨by omega,g4 (by omega),?_⟩
   by_cases hk : k = 0
   · subst hk
     have hv:=valA_le hr (s:=false) (set_vok hn st (n:=999999) (.inl ⟨by omega,by omega⟩)) (own:=999999) (.inl ⟨by omega,by omega⟩) 3 st
     have e : (1000000 : Int) + ((0 : Nat) : Int) - 1 = 999999:=by omega
     rw [e]
     unfold holdsA
     simp only [Bool.false_eq_true,if_false,getD_set hst,if_true];rw [Bool.or_eq_false_iff,decide_eq_false_iff_not,decide_eq_false_iff_not]
     omega
   · have:=g3 (k - 1) (by omega) (by omega)
     have e : (1000000 : Int) + ((k - 1 : Nat) : Int) = 1000000 + (k : Int) - 1:=by omega
     rw [e] at this
     exact this
theorem numA_true {r : Rk} (hr : ROk r) {nums : List Int} {st : Nat} (hn : ∀ x ∈ nums,VOk x) (hst : st < nums.length) (hlo : lowG r.out ≤ st) :
 (0 ≤ numA r true nums st ∧ numA r true nums st ≤ 1000000000) ∧ holdsA r true (nums.set st (numA r true nums st)) st = true ∧ (numA r true nums st < 1000000000 → holdsA r true (nums.set st (numA r true nums st + 1)) st = false):=by
 obtain ⟨g1,g2,g3,g4⟩:=srch_spec (fun k=>!holdsA r true (nums.set st ((k : Int) + 1)) st) 0 1000000000 (by omega) fun a b q1 q2 q3 q4=>by
  simp only [Bool.not_eq_true'] at q4 ⊢
  cases hb : holdsA r true (nums.set st ((b : Int) + 1)) st
  · rfl
  · have:=holds_down hr hn hst hlo (a:=(a : Int) + 1) (by omega) (by omega) (by omega) hb
    rw [q4] at this; cases this
 unfold numA
 simp only [if_true]
 generalize srch (fun k=>!holdsA r true (nums.set st ((k : Int) + 1)) st) 0 1000000000 = k at *
 refine ⟨by omega,?_,fun h=>?_⟩
 · by_cases hk : k = 0
   · subst hk
     have hv:=valA_le hr (s:=true) (set_vok hn st (n:=0) (.inl ⟨by omega,by omega⟩)) (own:=0) (.inl ⟨by omega,by omega⟩) 3 st
     show holdsA r true (nums.set st 0) st = true
     unfold holdsA
     simp only [if_true,getD_set hst];rw [decide_eq_true_eq]
     omega
   · have:=g3 (k - 1) (by omega) (by omega)
     have e : ((k - 1 : Nat) : Int) + 1 = (k : Int):=by omega
     simp only [e,Bool.not_eq_false'] at this
     exact this
 · have:=g4 (by omega)
   simpa using this
theorem tabA_pre {r : Rk} (s : Bool) (i : Nat) (x : Nat) (hx : x ≤ (lowG r.out).toNat + i) : ∀ m,(tabA r s (i + 1 + m)).getD x 0 = (tabA r s (i + 1)).getD x 0
 | 0=>rfl
 | m + 1 => by
   rw [← tabA_pre s i x hx m]
   show ((tabA r s (i + 1 + m)).set ((lowG r.out).toNat + (i + 1 + m)) _).getD x 0 = _
   rw [List.getD_eq_getElem?_getD,List.getElem?_set_ne (by omega),← List.getD_eq_getElem?_getD]
theorem tabT_at {r : Rk} (hr : ROk r) (s : Bool) {st : Nat} (h1 : lowG r.out ≤ st) (h2 : (st : Int) ≤ r.start) : ∃ nums : List Int,(∀ x ∈ nums,VOk x) ∧ st < nums.length ∧ (tabT r s).getD st 0 = numA r s nums st ∧ (∀ v,∀ x,x ≤ st → ((tabT r s).set st v).getD x 0 = (nums.set st v).getD x 0) ∧
 (∀ x,x ≤ st → (tabT r s).getD x 0 = (nums.set st (numA r s nums st)).getD x 0):=by
 have hl:=lowG_le r.out
 obtain ⟨i,hi⟩ : ∃ i,st = (lowG r.out).toNat + i:=⟨st - (lowG r.out).toNat,by omega⟩
 have hic : i < cntA r:=by unfold cntA; omega
 obtain ⟨_,e2,e3⟩:=tab_eq hr s i (by omega)
 obtain ⟨_,f2,f3⟩:=tab_eq hr s (cntA r) (Nat.le_refl _)
 have hlen : st < (tabA r s i).length:=by rw [e2]; omega
 obtain ⟨m,hm⟩ : ∃ m,cntA r = i + 1 + m:=⟨cntA r - (i + 1),by omega⟩
 have hpre:=fun x (hx : x ≤ st)=>tabA_pre (r:=r) s i x (by omega) m
 rw [← hm] at hpre
 have hsu : tabA r s (i + 1) = (tabA r s i).set st (numA r s (tabA r s i) st):=by rw [hi]; rfl
 rw [hsu] at hpre
 have hlT : st < (tabT r s).length:=by unfold tabT; rw [f2]; omega
 refine ⟨tabA r s i,e3,hlen,?_,fun v x hx=>?_,hpre⟩
 · have:=hpre st (Nat.le_refl _)
   rw [getD_set hlen,if_pos rfl] at this
   exact this
 · rw [getD_set hlT,getD_set hlen]
   split
   · rfl
   · rename_i hne
     have:=hpre x hx
     rw [getD_set hlen,if_neg hne] at this
     exact this
theorem tabT_holds {r : Rk} (hr : ROk r) (s : Bool) {st : Nat} (h1 : lowG r.out ≤ st) (h2 : (st : Int) ≤ r.start) : holdsA r s (tabT r s) st = true:=by
 obtain ⟨nums,hn,hst,g1,g2,g3⟩:=tabT_at hr s h1 h2
 rw [holds_cg hr h1 g3]
 cases s
 · rcases numA_false hr hn hst h1 with h | ⟨_,h,_⟩
   · rw [h]
     unfold holdsA
     simp only [Bool.false_eq_true,if_false,getD_set hst,if_true,decide_true,Bool.or_true]
   · exact h
 · exact (numA_true hr hn hst h1).2.1
theorem tabT_less {r : Rk} (hr : ROk r) {st : Nat} (h1 : lowG r.out ≤ st) (h2 : (st : Int) ≤ r.start) (hne : (tabT r false).getD st 0 ≠ 2000000000) : (1000000 ≤ (tabT r false).getD st 0 ∧ (tabT r false).getD st 0 ≤ 1000000000) ∧ holdsA r false ((tabT r false).set st ((tabT r false).getD st 0 - 1)) st = false:=by
 obtain ⟨nums,hn,hst,g1,g2,g3⟩:=tabT_at hr false h1 h2
 rw [holds_cg hr h1 (g2 _),g1]
 rw [g1] at hne
 rcases numA_false hr hn hst h1 with h | ⟨h,_,h'⟩
 · exact absurd h hne
 · exact ⟨h,h'⟩
theorem tabT_more {r : Rk} (hr : ROk r) {st : Nat} (h1 : lowG r.out ≤ st) (h2 : (st : Int) ≤ r.start) : (0 ≤ (tabT r true).getD st 0 ∧ (tabT r true).getD st 0 ≤ 1000000000) ∧ ((tabT r true).getD st 0 < 1000000000 → holdsA r true ((tabT r true).set st ((tabT r true).getD st 0 + 1)) st = false):=by
 obtain ⟨nums,hn,hst,g1,g2,g3⟩:=tabT_at hr true h1 h2
 rw [holds_cg hr h1 (g2 _),g1]
 obtain ⟨a,b,c⟩:=numA_true hr hn hst h1
 exact ⟨a,c⟩
theorem tabT_len {r : Rk} (hr : ROk r) (s : Bool) : ((tabT r s).length : Int) = r.start + 1:=by
 have:=(tab_eq hr s (cntA r) (Nat.le_refl _)).2.1
 have hs:=hr.start
 unfold tabT; rw [this]; omega
def OrdP (p q x y : Int) : Prop:=y = 2000000000 ∨ (x ≠ 2000000000 ∧ x * p ≤ y * q)
structure NarB (l l' : List Bd) : Prop where
 len : l'.length = l.length
 bed : ∀ i,i < l.length → (bAt l' i).b = (bAt l i).b ∧ (bAt l i).lo ≤ (bAt l' i).lo ∧ (bAt l' i).hi ≤ (bAt l i).hi
theorem NarB.refl (l : List Bd) : NarB l l:=⟨rfl,fun i hi=>⟨rfl,Int.le_refl _,Int.le_refl _⟩⟩
theorem NarB.truth {d : Int} {l l' : List Bd} {y : List Int} (h : NarB l l') (ht : TruthN d l' y) : TruthN d l y :=
 ⟨by rw [ht.len,h.len],fun i hi=>by
  have h1:=ht.each i (by rw [h.len]; exact hi)
  have h2:=h.bed i hi
  omega,ht.sum⟩
theorem NarB.can {d : Int} {l l' : List Bd} (h : NarB l l') {i : Nat} (hi : i < l.length) : canA l' i d ≤ canA l i d:=by
 have hg : ∀ j,j < l.length → (l'.map (·.lo)).getD j 0 = (bAt l' j).lo:=fun j hj=>by
  obtain ⟨c,hc⟩:=opt_of_lt (show j < l'.length by rw [h.len]; exact hj)
  simp [List.getD,hc,bAt]
 have hs:=sum_but (l:=l) (y:=l'.map (·.lo)) (i:=i) (by rw [List.length_map,h.len]) (fun j hj=>by rw [hg j hj]; exact (h.bed j hj).2.1) hi
 rw [hg i hi] at hs
 have hb:=h.bed i hi
 have e : (l'.map (·.lo)).sum = loS l':=rfl
 rw [e] at hs
 rw [canA_bAt,canA_bAt]
 omega
theorem narUp {d : Int} {l l' : List Bd} (h : AOk d l) (h' : AOk d l') (hn : NarB l l') {u v : List Int} (hu : u.length = l.length) (hv : v.length = l.length) (hvu : ∀ x ∈ u,VOk x) (hvv : ∀ x ∈ v,VOk x)
 (huv : ∀ i,i < l.length → u.getD i 0 ≤ v.getD i 0) : meanS false d l' u ≤ meanS false d l v:=by
 have hd:=h.d1
 have hlen:=hn.len
 have hmv:=meanS_vok false h' hvu
 by_cases hb : (List.range l.length).any (badA l d v) = true
 · have e : meanS false d l v = 2000000000:=by unfold meanS; rw [if_pos hb]
   rw [e]; unfold VOk at hmv; omega
 have hgood : ∀ i,i < l.length → 0 < canA l i d → v.getD i 0 ≠ 2000000000:=fun i hi h0 hn=>hb (List.any_eq_true.2 ⟨i,List.mem_range.2 hi,by simp only [badA,Bool.and_eq_true,decide_eq_true_eq]; exact ⟨hn,h0⟩⟩)
 have hgu : ∀ i,i < l.length → 0 < canA l' i d → u.getD i 0 ≠ 2000000000 ∧ v.getD i 0 ≠ 2000000000:=fun i hi h0=>by
  have h1:=hn.can (d:=d) hi
  have h2:=hgood i hi (by omega)
  have h3:=getD_vok hvv i
  have h4:=huv i hi
  refine ⟨?_,h2⟩
  unfold VOk at h3; omega
 have hbu : ¬ (List.range l'.length).any (badA l' d u) = true:=fun hh=>by
  obtain ⟨i,hi,hbi⟩:=List.any_eq_true.1 hh
  have hil : i < l.length:=by have:=List.mem_range.1 hi; omega
  simp only [badA,Bool.and_eq_true,decide_eq_true_eq] at hbi
  exact (hgu i hil hbi.2).1 hbi.1
 have eu : meanS false d l' u = (meanHi d l' (u.map zN) + (d - 1)) / d:=by unfold meanS; rw [if_neg hbu]; rfl
 have ev : meanS false d l v = (meanHi d l (v.map zN) + (d - 1)) / d:=by unfold meanS; rw [if_neg hb]; rfl
 rw [eu,ev]
 have ht':=h'.truth (fun x y=>cmpI y x) (u.map zN)
 have ht:=hn.truth ht'
 have b2:=(filled_bound (d:=d) (l:=l) (vals:=v.map zN) (by rw [List.length_map,hv]) ht).2
 have em : meanHi d l' (u.map zN) = dotV (filledV (fun x y=>cmpI y x) d l' (u.map zN)) (u.map zN):=rfl
 rw [em]
 generalize filledV (fun x y=>cmpI y x) d l' (u.map zN) = y at *
 have key:=dotV_leI (y:=y) (u:=u.map zN) (v:=v.map zN) (c:=0) (by rw [ht.len]; simp [hu]) (by rw [ht.len]; simp [hv]) fun i hi=>by
  have hil : i < l.length:=by rw [← ht.len]; exact hi
  refine ⟨?_,fun h0=>?_⟩
  · have h1:=(ht.each i hil).1
    have h2:=(h.each _ (bAt_mem hil)).1
    omega
  · have hc:=truth_can ht' (show i < l'.length by omega)
    have hg:=hgu i hil (by omega)
    rw [getD_mapz,getD_mapz]
    unfold zN
    rw [if_neg hg.1,if_neg hg.2]
    have:=huv i hil
    omega
 exact Int.ediv_le_ediv (by omega) (by omega)
theorem narLo {d : Int} {l l' : List Bd} (h : AOk d l) (h' : AOk d l') (hn : NarB l l') {u v : List Int} (hu : u.length = l.length) (hv : v.length = l.length) (hvu : ∀ x ∈ u,VOk x) (hvv : ∀ x ∈ v,VOk x)
 (huv : ∀ i,i < l.length → u.getD i 0 ≠ 2000000000 ∧ u.getD i 0 ≤ v.getD i 0) : meanS true d l u ≠ 2000000000 ∧ meanS true d l u ≤ meanS true d l' v:=by
 have hd:=h.d1
 have hlen:=hn.len
 have hnb : ¬ (List.range l.length).any (badA l d u) = true:=fun hh=>by
  obtain ⟨i,hi,hbi⟩:=List.any_eq_true.1 hh
  have hil:=List.mem_range.1 hi
  simp only [badA,Bool.and_eq_true,decide_eq_true_eq] at hbi
  exact (huv i hil).1 hbi.1
 have eu : meanS true d l u = meanLo d l (u.map zN) / d:=by unfold meanS; rw [if_neg hnb]; rfl
 have hub:=meanZ_bound true h (M:=1000000000) (by omega) (v:=u.map zN) fun x hx=>by
  obtain ⟨y,hy,rfl⟩:=List.mem_map.1 hx
  exact zN_ok (hvu y hy)
 have hub' : meanLo d l (u.map zN) / d ≤ 1000000000:=by
  have:=hub.2
  unfold meanZ at this
  simpa using this
 rw [eu]
 refine ⟨by omega,?_⟩
 by_cases hb : (List.range l'.length).any (badA l' d v) = true
 · have e : meanS true d l' v = 2000000000:=by unfold meanS; rw [if_pos hb]
   rw [e]; omega
 have ev : meanS true d l' v = meanLo d l' (v.map zN) / d:=by unfold meanS; rw [if_neg hb]; rfl
 rw [ev]
 have hgood : ∀ i,i < l'.length → 0 < canA l' i d → v.getD i 0 ≠ 2000000000:=fun i hi h0 hn=>hb (List.any_eq_true.2 ⟨i,List.mem_range.2 hi,by simp only [badA,Bool.and_eq_true,decide_eq_true_eq]; exact ⟨hn,h0⟩⟩)
 have ht':=h'.truth cmpI (v.map zN)
 have ht:=hn.truth ht'
 have b1:=(filled_bound (d:=d) (l:=l) (vals:=u.map zN) (by rw [List.length_map,hu]) ht).1
 have em : meanLo d l' (v.map zN) = dotV (filledV cmpI d l' (v.map zN)) (v.map zN):=rfl
 rw [em]
 generalize filledV cmpI d l' (v.map zN) = y at *
 have key:=dotV_leI (y:=y) (u:=u.map zN) (v:=v.map zN) (c:=0) (by rw [ht.len]; simp [hu]) (by rw [ht.len]; simp [hv]) fun i hi=>by
  have hil : i < l.length:=by rw [← ht.len]; exact hi
  refine ⟨?_,fun h0=>?_⟩
  · have h1:=(ht.each i hil).1
    have h2:=(h.each _ (bAt_mem hil)).1
    omega
  · have hc:=truth_can ht' (show i < l'.length by omega)
    have hg:=hgood i (by omega) (by omega)
    have:=huv i hil
    rw [getD_mapz,getD_mapz]
    unfold zN
    rw [if_neg this.1,if_neg hg]
    omega
 exact Int.ediv_le_ediv (by omega) (by omega)
theorem nextUp {out own own' left : Int} {f g : Int → Int} (h : ∀ x,lowG out ≤ x → x ≤ left → f x ≤ g x) (ho : own ≤ own') {b : Int} (hb : 0 ≤ b ∧ b ≤ 499) : nextA out own left f b ≤ nextA out own' left g b:=by
 have hs:=score_nn hb
 unfold nextA
 split
 · exact Int.le_refl _
 · split
   · exact ho
   · exact h _ (by omega) (by omega)
theorem nextLo {out own own' left : Int} {f g : Int → Int} (h : ∀ x,lowG out ≤ x → x ≤ left → f x ≠ 2000000000 ∧ f x ≤ g x) (ho : own ≠ 2000000000 ∧ own ≤ own') {b : Int} (hb : 0 ≤ b ∧ b ≤ 499) : nextA out own left f b ≠ 2000000000 ∧ nextA out own left f b ≤ nextA out own' left g b:=by
 have hs:=score_nn hb
 unfold nextA
 split
 · exact ⟨by omega,Int.le_refl _⟩
 · split
   · exact ho
   · exact h _ (by omega) (by omega)
theorem next_at {out own left : Int} {f : Int → Int} {l : List Bd} {i : Nat} (hi : i < l.length) : (l.map fun b=>nextA out own left f b.b).getD i 0 = nextA out own left f (bAt l i).b:=by
 obtain ⟨b,hb⟩:=opt_of_lt hi
 simp [List.getD,hb,bAt]
theorem next_vok {out own left : Int} {f : Int → Int} (o1 : VOk own) (hf : ∀ x,VOk (f x)) (l : List Bd) : ∀ x ∈ (l.map fun b=>nextA out own left f b.b),VOk x:=fun x hx=>by
 obtain ⟨b,_,rfl⟩:=List.mem_map.1 hx
 exact nextA_vok o1 hf _
theorem meanUp {A B : Rk} (hd : A.d = B.d) (ho : A.out = B.out) {own own' left : Int} {f g : Int → Int} (h : ∀ x,lowG B.out ≤ x → x ≤ left → f x ≤ g x) (hw : own ≤ own') (o1 : VOk own) (o2 : VOk own') (hf : ∀ x,VOk (f x)) (hg : ∀ x,VOk (g x)) {a b : Am} (ha : AOk A.d a.beds) (hb : AOk B.d b.beds) (hn : NarB b.beds a.beds) :
 meanA A false own left f a ≤ meanA B false own' left g b:=by
 unfold meanA
 have hlen:=hn.len
 rw [hd] at ha ⊢
 rw [ho]
 refine narUp hb ha hn (by simp [hlen]) (by simp) (next_vok o1 hf _) (next_vok o2 hg _) fun i hi=>?_
 rw [next_at hi,next_at (by omega),(hn.bed i hi).1]
 exact nextUp h hw (hb.bed _ (bAt_mem hi))
theorem meanLw {A B : Rk} (hd : A.d = B.d) (ho : A.out = B.out) {own own' left : Int} {f g : Int → Int} (h : ∀ x,lowG B.out ≤ x → x ≤ left → f x ≠ 2000000000 ∧ f x ≤ g x) (hw : own ≠ 2000000000 ∧ own ≤ own') (o1 : VOk own) (o2 : VOk own') (hf : ∀ x,VOk (f x)) (hg : ∀ x,VOk (g x)) {a b : Am} (ha : AOk A.d a.beds) (hb : AOk B.d b.beds) (hn : NarB a.beds b.beds) :
 meanA A true own left f a ≠ 2000000000 ∧ meanA A true own left f a ≤ meanA B true own' left g b:=by
 unfold meanA
 have hlen:=hn.len
 rw [hd] at ha ⊢
 rw [ho]
 refine narLo ha hb hn (by simp) (by simp [hlen]) (next_vok o1 hf _) (next_vok o2 hg _) fun i hi=>?_
 rw [next_at hi,next_at (by omega),(hn.bed i hi).1]
 exact nextLo h hw (ha.bed _ (bAt_mem hi))
theorem valUp {A B : Rk} (hA : ROk A) (hB : ROk B) (hd : A.d = B.d) (ho : A.out = B.out) (hs : ∀ b ∈ B.aims,∃ a ∈ A.aims,NarB b.beds a.beds) {T U : List Int} {own own' : Int} {st : Nat} (hT : ∀ x ∈ T,VOk x) (hU : ∀ x ∈ U,VOk x) (o1 : VOk own) (o2 : VOk own') (hw : own ≤ own') (h : ∀ x : Nat,lowG B.out ≤ x → x ≤ st → T.getD x 0 ≤ U.getD x 0) :
 ∀ (k : Nat) (left : Int),lowG B.out ≤ left → left ≤ st → valA A false T own k left ≤ valA B false U own' k left
 | 0, left, h1, h2 => by
   have hl:=lowG_le B.out
   exact h left.toNat (by omega) (by omega)
 | k + 1, left, h1, h2 => by
   unfold valA
   obtain ⟨a1,a2,_⟩:=foldl_min (A.aims.map (meanA A false own left (valA A false T own k))) 2000000000
   obtain ⟨_,_,b3⟩:=foldl_min (B.aims.map (meanA B false own' left (valA B false U own' k))) 2000000000
   rcases b3 with b3 | b3
   · show leastA _ ≤ List.foldl min 2000000000 _
     rw [b3]; exact a1
   · obtain ⟨b,hb,hbe⟩:=List.mem_map.1 b3
     obtain ⟨a,ha,hn⟩:=hs b hb
     have hm:=meanUp hd ho (left:=left) (f:=valA A false T own k) (g:=valA B false U own' k) (fun x q1 q2=>valUp hA hB hd ho hs hT hU o1 o2 hw h k x q1 (by omega)) hw o1 o2 (valA_vok hA hT o1 k) (valA_vok hB hU o2 k) (hA.aims a ha) (hB.aims b hb) hn
     rw [hbe] at hm
     exact Int.le_trans (a2 _ (List.mem_map.2 ⟨a,ha,rfl⟩)) hm
theorem valLw {A B : Rk} (hA : ROk A) (hB : ROk B) (hd : A.d = B.d) (ho : A.out = B.out) (hs : ∀ b ∈ B.aims,∃ a ∈ A.aims,NarB a.beds b.beds) {T U : List Int} {own own' : Int} {st : Nat} (hT : ∀ x ∈ T,VOk x) (hU : ∀ x ∈ U,VOk x) (o1 : VOk own) (o2 : VOk own') (hw : own ≠ 2000000000 ∧ own ≤ own') (h : ∀ x : Nat,lowG B.out ≤ x → x ≤ st → T.getD x 0 ≠ 2000000000 ∧ T.getD x 0 ≤ U.getD x 0) :
 ∀ (k : Nat) (left : Int),lowG B.out ≤ left → left ≤ st → valA A true T own k left ≠ 2000000000 ∧ valA A true T own k left ≤ valA B true U own' k left
 | 0, left, h1, h2 => by
   have hl:=lowG_le B.out
   exact h left.toNat (by omega) (by omega)
 | k + 1, left, h1, h2 => by
   have hm:=fun (a b : Am) (ha : a ∈ A.aims) (hb : b ∈ B.aims) (hn : NarB a.beds b.beds)=>meanLw hd ho (left:=left) (f:=valA A true T own k) (g:=valA B true U own' k) (fun x q1 q2=>valLw hA hB hd ho hs hT hU o1 o2 hw h k x q1 (by omega)) hw o1 o2 (valA_vok hA hT o1 k) (valA_vok hB hU o2 k) (hA.aims a ha) (hB.aims b hb) hn
   have hmv:=fun (a : Am) (ha : a ∈ A.aims)=>meanA_vok (r:=A) (s:=true) (left:=left) o1 (valA_vok hA (s:=true) hT o1 k) (hA.aims a ha)
   unfold valA
   obtain ⟨a1,a2,_⟩:=foldl_min (A.aims.map (meanA A true own left (valA A true T own k))) 2000000000
   obtain ⟨_,_,b3⟩:=foldl_min (B.aims.map (meanA B true own' left (valA B true U own' k))) 2000000000
   have hle : ∀ a ∈ A.aims,leastA (A.aims.map (meanA A true own left (valA A true T own k))) ≤ meanA A true own left (valA A true T own k) a:=fun a ha=>a2 _ (List.mem_map.2 ⟨a,ha,rfl⟩)
   refine ⟨?_,?_⟩
   · obtain ⟨b,hb⟩ : ∃ b,b ∈ B.aims:=List.exists_mem_of_ne_nil _ hB.ne
     obtain ⟨a,ha,hn⟩:=hs b hb
     have h3:=hle a ha
     have h4:=(hm a b ha hb hn).1
     have h5:=hmv a ha
     unfold VOk at h5
     omega
   · rcases b3 with b3 | b3
     · show leastA _ ≤ List.foldl min 2000000000 _
       rw [b3]; exact a1
     · obtain ⟨b,hb,hbe⟩:=List.mem_map.1 b3
       obtain ⟨a,ha,hn⟩:=hs b hb
       have h6:=(hm a b ha hb hn).2
       rw [hbe] at h6
       exact Int.le_trans (hle a ha) h6
theorem numA_leU {r : Rk} (hr : ROk r) {nums : List Int} {st : Nat} (hn : ∀ x ∈ nums,VOk x) (hst : st < nums.length) (hlo : lowG r.out ≤ st) {b : Int} (hb : 1000000 ≤ b ∧ b ≤ 1000000000) (h : holdsA r false (nums.set st b) st = true) : numA r false nums st ≤ b:=by
 obtain ⟨g1,g2,g3,g4⟩:=srch_spec (fun k=>holdsA r false (nums.set st (1000000 + (k : Int))) st) 0 999000001 (by omega) fun a b q1 q2 q3 q4=>holds_up hr hn hst hlo (by omega) (by omega) (by omega) q4
 unfold numA
 simp only [Bool.false_eq_true,if_false]
 generalize srch (fun k=>holdsA r false (nums.set st (1000000 + (k : Int))) st) 0 999000001 = k at *
 have hk : (k : Int) ≤ b - 1000000:=by
  refine Int.not_lt.1 fun hlt=>?_
  have:=g3 (b - 1000000).toNat (Nat.zero_le _) (by omega)
  rw [show 1000000 + ((b - 1000000).toNat : Int) = b by omega,h] at this
  cases this
 split <;> omega
theorem numA_geL {r : Rk} (hr : ROk r) {nums : List Int} {st : Nat} (hn : ∀ x ∈ nums,VOk x) (hst : st < nums.length) (hlo : lowG r.out ≤ st) {a : Int} (ha : 0 ≤ a ∧ a ≤ 1000000000) (h : holdsA r true (nums.set st a) st = true) : a ≤ numA r true nums st:=by
 obtain ⟨g1,g2,g3,g4⟩:=srch_spec (fun k=>!holdsA r true (nums.set st ((k : Int) + 1)) st) 0 1000000000 (by omega) fun a b q1 q2 q3 q4=>by
  simp only [Bool.not_eq_true'] at q4 ⊢
  cases hb : holdsA r true (nums.set st ((b : Int) + 1)) st
  · rfl
  · have:=holds_down hr hn hst hlo (a:=(a : Int) + 1) (by omega) (by omega) (by omega) hb
    rw [this] at q4; cases q4
 unfold numA
 simp only [if_true]
 generalize srch (fun k=>!holdsA r true (nums.set st ((k : Int) + 1)) st) 0 1000000000 = k at *
 refine Int.not_lt.1 fun hlt=>?_
 have hk:=g4 (by omega)
 simp only [Bool.not_eq_true'] at hk
 have:=holds_down hr hn hst hlo (a:=(k : Int) + 1) (b:=a) (by omega) (by omega) (by omega) h
 rw [this] at hk; cases hk
theorem tab_leUp {A B : Rk} (hA : ROk A) (hB : ROk B) (hd : A.d = B.d) (ho : A.out = B.out) (hst : A.start = B.start) (hs : ∀ b ∈ B.aims,∃ a ∈ A.aims,NarB b.beds a.beds) : ∀ (st : Nat),lowG B.out ≤ st → (st : Int) ≤ B.start → (tabT A false).getD st 0 ≤ (tabT B false).getD st 0:=by
 intro st
 induction st using Nat.strongRecOn with
 | _ st ih =>
   intro h1 h2
   have hT : ∀ x ∈ tabT A false,VOk x:=(tab_eq hA false (cntA A) (Nat.le_refl _)).2.2
   have hU : ∀ x ∈ tabT B false,VOk x:=(tab_eq hB false (cntA B) (Nat.le_refl _)).2.2
   have ha:=getD_vok hT st
   by_cases hn : (tabT B false).getD st 0 = 2000000000
   · rw [hn]; unfold VOk at ha; omega
   have hb:=(tabT_less hB h1 h2 hn).1
   have k2:=tabT_holds hB false h1 h2
   obtain ⟨b,hbe⟩ : ∃ b,b = (tabT B false).getD st 0:=⟨_,rfl⟩
   have h1' : lowG A.out ≤ st:=by rw [ho]; exact h1
   have h2' : (st : Int) ≤ A.start:=by rw [hst]; exact h2
   obtain ⟨nums,hnn,hns,g1,g2,g3⟩:=tabT_at hA false h1' h2'
   have hlA:=tabT_len hA false
   unfold holdsA at k2
   simp only [Bool.false_eq_true,if_false,decide_eq_true_eq,Bool.or_eq_true] at k2
   rw [← hbe] at k2 hb hn ⊢
   have hS : ∀ x ∈ (tabT A false).set st b,VOk x:=fun x hx=>by
    rcases List.mem_or_eq_of_mem_set hx with hx | rfl
    · exact hT x hx
    · unfold VOk; omega
   have hget : ∀ x,((tabT A false).set st b).getD x 0 = if st = x then b else (tabT A false).getD x 0:=fun x=>getD_set (by omega) b x
   have hv:=valUp hA hB hd ho hs (T:=(tabT A false).set st b) (U:=tabT B false) (own:=b) (own':=b) (st:=st) hS hU (by unfold VOk; omega) (by unfold VOk; omega) (Int.le_refl _) (fun x q1 q2=>by
    rw [hget]
    split
    · rename_i e; subst e; rw [hbe]; exact Int.le_refl _
    · exact ih x (by omega) q1 (by omega)) 3 st h1 (Int.le_refl _)
   have hold : holdsA A false ((tabT A false).set st b) st = true:=by
    unfold holdsA
    simp only [Bool.false_eq_true,if_false,decide_eq_true_eq,Bool.or_eq_true]
    left
    rw [hget,if_pos rfl]
    rcases k2 with k2 | k2
    · omega
    · exact absurd k2 hn
   rw [holds_cg hA h1' (g2 b)] at hold
   rw [g1]
   exact numA_leU hA hnn hns h1' hb hold
theorem tab_leLw {A B : Rk} (hA : ROk A) (hB : ROk B) (hd : A.d = B.d) (ho : A.out = B.out) (hst : A.start = B.start) (hs : ∀ b ∈ B.aims,∃ a ∈ A.aims,NarB a.beds b.beds) : ∀ (st : Nat),lowG B.out ≤ st → (st : Int) ≤ B.start → (tabT A true).getD st 0 ≤ (tabT B true).getD st 0:=by
 intro st
 induction st using Nat.strongRecOn with
 | _ st ih =>
   intro h1 h2
   have hT : ∀ x ∈ tabT A true,VOk x:=(tab_eq hA true (cntA A) (Nat.le_refl _)).2.2
   have hU : ∀ x ∈ tabT B true,VOk x:=(tab_eq hB true (cntA B) (Nat.le_refl _)).2.2
   have h1' : lowG A.out ≤ st:=by rw [ho]; exact h1
   have h2' : (st : Int) ≤ A.start:=by rw [hst]; exact h2
   have ha:=(tabT_more hA h1' h2').1
   have k1:=tabT_holds hA true h1' h2'
   obtain ⟨nums,hnn,hns,g1,g2,g3⟩:=tabT_at hB true h1 h2
   have hlB:=tabT_len hB true
   unfold holdsA at k1
   simp only [if_true,decide_eq_true_eq] at k1
   obtain ⟨a,hae⟩ : ∃ a,a = (tabT A true).getD st 0:=⟨_,rfl⟩
   rw [← hae] at k1 ha ⊢
   have hS : ∀ x ∈ (tabT B true).set st a,VOk x:=fun x hx=>by
    rcases List.mem_or_eq_of_mem_set hx with hx | rfl
    · exact hU x hx
    · unfold VOk; omega
   have hget : ∀ x,((tabT B true).set st a).getD x 0 = if st = x then a else (tabT B true).getD x 0:=fun x=>getD_set (by omega) a x
   have hv:=valLw hA hB hd ho hs (T:=tabT A true) (U:=(tabT B true).set st a) (own:=a) (own':=a) (st:=st) hT hS (by unfold VOk; omega) (by unfold VOk; omega) ⟨by omega,Int.le_refl _⟩ (fun x q1 q2=>by
    rw [hget]
    split
    · rename_i e; subst e; rw [← hae]; exact ⟨by omega,Int.le_refl _⟩
    · have:=(tabT_more hA (st:=x) (by rw [ho]; exact q1) (by omega)).1
      exact ⟨by omega,ih x (by omega) q1 (by omega)⟩) 3 st h1 (Int.le_refl _)
   have hold : holdsA B true ((tabT B true).set st a) st = true:=by
    unfold holdsA
    simp only [if_true,decide_eq_true_eq];rw [hget,if_pos rfl]
    omega
   rw [holds_cg hB h1 (g2 a)] at hold
   rw [g1]
   exact numA_geL hB hnn hns h1 ha hold
theorem tab_below (r : Rk) (s : Bool) {x : Nat} (hx : (x : Int) < lowG r.out) : ∀ i,(tabA r s i).getD x 0 = 0
 | 0 => by
   unfold tabA
   rw [List.getD_eq_getElem?_getD,List.getElem?_replicate]
   split <;> rfl
 | i + 1 => by
   have ih:=tab_below r s hx i
   unfold tabA
   rw [List.getD_eq_getElem?_getD,List.getElem?_set_ne (by omega),← List.getD_eq_getElem?_getD]
   exact ih
set_option maxHeartbeats 4000000
theorem check_one {d : Int} {a : Am} {st g : Int} (h : checkV d [a] = 0) (hs : 2 ≤ st ∧ st ≤ 60) (hg : 0 ≤ g ∧ g ≤ 2) : checkR ⟨d,[a],st,g⟩ = 0:=by
 unfold checkR
 rw [if_pos h,if_pos ⟨hs,hg⟩]
theorem law_fitaim (l : List Nat) (hl : ∀ n ∈ l,n < 256) (H : List (List Nat)) (hH : ∀ a ∈ H,a.length = 3 ∧ ∀ n ∈ a,n < 256) (x0 x1 : Nat) (h0 : x0 < 256) (h1 : x1 < 256) :
 ACalls Try.prog 10 [bytR l,trisR H,.ag [u8Q x0,u8Q x1]] (.bo true):=by
 have hkn:=pubAim_ok
 have hbs:=bsP_ok hl (most:=5) (by omega)
 have hfi:=fits_ok l hl H hH
 have hN:=fit_nar hbs H
 have hc1:=fit_chk hbs H true
 have hc2:=fit_chk hbs H false
 have hvn : 1 ≤ visN H ∧ visN H ≤ 20:=by unfold visN; omega
 obtain ⟨D,hD⟩ : ∃ D : Int,D = 3 * (visN H : Int):=⟨_,rfl⟩
 rw [← hD] at hc1 hc2 hfi
 have hw1:=wfL_chk hc1 (by omega)
 have hw2:=wfL_chk hc2 (by omega)
 have m0:=Nat.mod_lt x0 (show 6 > 0 by omega)
 have m1:=Nat.mod_lt x1 (show 3 > 0 by omega)
 have k0 : IntKind.i64.wrap (x0 : Int) = x0:=by rw [zI] <;> omega
 have k1 : IntKind.i64.wrap (x1 : Int) = x1:=by rw [zI] <;> omega
 have r0 : Int.tmod (x0 : Int) 6 = ((x0 % 6 : Nat) : Int):=rfl
 have r1 : Int.tmod (x1 : Int) 3 = ((x1 % 3 : Nat) : Int):=rfl
 have w0 : IntKind.i64.wrap (2 + ((x0 % 6 : Nat) : Int)) = ((2 + x0 % 6 : Nat) : Int):=by rw [zI] <;> omega
 generalize hst : 2 + x0 % 6 = st at *
 have hst2 : 2 ≤ st ∧ st ≤ 7:=by omega
 generalize hg : x1 % 3 = g at *
 generalize hF1 : fitB (bsP l 5) H true = F1 at *
 generalize hF2 : fitB (bsP l 5) H false = F2 at *
 have hN' : NarB F2 F1:=⟨hN.len,hN.each⟩
 obtain ⟨R1,hR1⟩ : ∃ R1 : Rk,R1 = ⟨D,[⟨201,F1⟩],st,g⟩:=⟨_,rfl⟩
 obtain ⟨R2,hR2⟩ : ∃ R2 : Rk,R2 = ⟨D,[⟨201,F2⟩],st,g⟩:=⟨_,rfl⟩
 have q1 : checkR R1 = 0:=by rw [hR1]; exact check_one hc1 (by omega) (by omega)
 have q2 : checkR R2 = 0:=by rw [hR2]; exact check_one hc2 (by omega) (by omega)
 have o1:=(checkR_zero q1).2
 have o2:=(checkR_zero q2).2
 have ht1:=table_ok R1 (by rw [hR1]; exact hw1)
 have ht2:=table_ok R2 (by rw [hR2]; exact hw2)
 rw [if_pos q1,if_pos q1,q1] at ht1
 rw [if_pos q2,if_pos q2,q2] at ht2
 have e1 : R1.out = (g : Int) ∧ R1.start = (st : Int) ∧ R1.d = D ∧ R1.aims = [⟨201,F1⟩]:=by rw [hR1]; exact ⟨rfl,rfl,rfl,rfl⟩
 have e2 : R2.out = (g : Int) ∧ R2.start = (st : Int) ∧ R2.d = D ∧ R2.aims = [⟨201,F2⟩]:=by rw [hR2]; exact ⟨rfl,rfl,rfl,rfl⟩
 have hup : ∀ s : Nat,s ≤ st → (tabT R1 false).getD s 0 ≤ (tabT R2 false).getD s 0:=fun s hs=>by
  by_cases hlo : lowG R2.out ≤ s
  · refine tab_leUp o1 o2 (by rw [e1.2.2.1,e2.2.2.1]) (by rw [e1.1,e2.1]) (by rw [e1.2.1,e2.2.1]) (fun b hb=>?_) s hlo (by rw [e2.2.1]; omega)
    rw [e2.2.2.2,List.mem_singleton] at hb
    subst hb
    exact ⟨⟨201,F1⟩,by rw [e1.2.2.2]; simp,hN'⟩
  · have g1:=tab_below R1 false (x:=s) (by rw [e1.1]; rw [e2.1] at hlo; omega) (cntA R1)
    have g2:=tab_below R2 false (x:=s) (by omega) (cntA R2)
    show (tabA R1 false (cntA R1)).getD s 0 ≤ (tabA R2 false (cntA R2)).getD s 0
    rw [g1,g2]; exact Int.le_refl _
 have hlw : ∀ s : Nat,s ≤ st → (tabT R2 true).getD s 0 ≤ (tabT R1 true).getD s 0:=fun s hs=>by
  by_cases hlo : lowG R1.out ≤ s
  · refine tab_leLw o2 o1 (by rw [e1.2.2.1,e2.2.2.1]) (by rw [e1.1,e2.1]) (by rw [e1.2.1,e2.2.1]) (fun b hb=>?_) s hlo (by rw [e1.2.1]; omega)
    rw [e1.2.2.2,List.mem_singleton] at hb
    subst hb
    exact ⟨⟨201,F2⟩,by rw [e2.2.2.2]; simp,hN'⟩
  · have g1:=tab_below R1 true (x:=s) (by omega) (cntA R1)
    have g2:=tab_below R2 true (x:=s) (by rw [e2.1]; rw [e1.1] at hlo; omega) (cntA R2)
    show (tabA R2 true (cntA R2)).getD s 0 ≤ (tabA R1 true (cntA R1)).getD s 0
    rw [g1,g2]; exact Int.le_refl _
 have lA:=tabT_len o1 false
 have lB:=tabT_len o1 true
 have lC:=tabT_len o2 false
 have lE:=tabT_len o2 true
 rw [e1.2.1] at lA lB
 rw [e2.2.1] at lC lE
 rw [hR1] at ht1
 rw [hR2] at ht2
 rw [← hR1] at ht1
 rw [← hR2] at ht2
 generalize tabT R1 false = A at *
 generalize tabT R1 true = B at *
 generalize tabT R2 false = C2 at *
 generalize tabT R2 true = E2 at *
 rw [hR1] at ht1
 rw [hR2] at ht2
 have ht1' : ACalls Try.prog 17 [.ag [.it .i64 D,.sl 2 [[.it .i64 201,bedsR F1]],.it .i64 (st : Int),.it .i64 (g : Int)]] (.tu [ints A,ints B,i64 0]):=ht1
 have ht2' : ACalls Try.prog 17 [.ag [.it .i64 D,.sl 2 [[.it .i64 201,bedsR F2]],.it .i64 (st : Int),.it .i64 (g : Int)]] (.tu [ints C2,ints E2,i64 0]):=ht2
 have z0 : ((0 : Int) != 0) = false:=rfl
 have lA' : A.length = st + 1:=by omega
 have lB' : B.length = st + 1:=by omega
 have lC' : C2.length = st + 1:=by omega
 have lE' : E2.length = st + 1:=by omega
 have ws : IntKind.i64.wrap ((st : Int) + 1) = ((st + 1 : Nat) : Int):=by rw [zI] <;> omega
 have zl2 : ((st : Int) + 1 != (st : Int) + 1) = false:=by simp
 have zl : (((st + 1 : Nat) : Int) != ((st + 1 : Nat) : Int)) = false:=by simp
 refine acalls_st (rs:=[.bo true]) [.tmp 6] Try.func10 rfl (by kernel_rfl) Try.ntmps10 rfl (by simp) rfl fun C vs=>?_
 refine zq ?_
 refine zb fun K hK=>?_;simp only [go_sem];refine hK _ ?_;clear hK K;refine zw (sub_frzP 5 5 [u8Q x0,u8Q x1] (by omega) rfl rfl) ?_;refine zw (zk [0,1,5]) ?_;simp only [go_sem]
 refine zq ?_
 refine zb fun K hK=>?_;simp only [go_sem]
 refine zh (hfi) rfl (by simp only [go_sem,i64,ints]) (by simp only [go_sem,i64,ints]) (by first | exact .inl rfl | exact .inr rfl) ?_
 (try simp only [go_sem]);refine hK _ ?_;clear hK K;refine zw (sub_frzP 7 7 [i64 201,bedsR F1] (by omega) rfl rfl) ?_;refine zw (sub_frzP 8 8 [i64 201,bedsR F2] (by omega) rfl rfl) ?_;refine zw (zk [5,7,8,9,10]) ?_;simp only [go_sem]
 repeat refine zq ?_
 refine zb fun K hK=>?_;simp only [go_sem];refine hK _ ?_;clear hK K;refine zw (zk [5,7,8,9,29]) ?_;simp only [go_sem]
 refine zc rfl (fun hc=>?_) (fun hc=>?_) <;> (try simp only [go_sem] at hc)
 refine zx ?_
 try simp only [go_sem]
 refine zq ?_
 refine zg follows (by decide +kernel) (by kernel_rfl) fun K hK=>?_;simp only [go_sem,k0,k1,r0,r1,w0];refine hK _ ?_;clear hK K;refine zw (zk [7,8,9,11,12]) ?_;simp only [go_sem]
 refine zq ?_
 refine zb fun K hK=>?_;simp only [go_sem]
 refine zh (ht1') rfl (by simp only [go_sem,i64,ints]) (by simp only [go_sem,i64,ints]) (by first | exact .inl rfl | exact .inr rfl) ?_
 (try simp only [go_sem]);refine hK _ ?_;clear hK K;refine zw (zk [8,9,11,12,13,14,15]) ?_;simp only [go_sem]
 refine zq ?_
 refine zb fun K hK=>?_;simp only [go_sem]
 refine zh (ht2') rfl (by simp only [go_sem,i64,ints]) (by simp only [go_sem,i64,ints]) (by first | exact .inl rfl | exact .inr rfl) ?_
 (try simp only [go_sem]);refine hK _ ?_;clear hK K;refine zw (zk [11,13,14,15,16,17,18]) ?_;simp only [go_sem]
 repeat refine zq ?_
 refine zb fun K hK=>?_;simp only [go_sem,z0,lA',lB',lC',lE',ws,zl,zl2,List.length_map]
 (try intros)
 refine hK _ ?_;clear hK K;refine zw (zk [11,13,14,16,17,96]) ?_;simp only [go_sem]
 refine zc rfl (fun hc=>?_) (fun hc=>?_) <;> (try simp only [go_sem] at hc)
 refine zx ?_
 try simp only [go_sem]
 repeat refine zq ?_
 refine zb fun K hK=>?_;simp only [go_sem];refine hK _ ?_;clear hK K;refine zw (zk [11,13,14,16,17,19]) ?_;simp only [go_sem];refine zd ?_
 refine awp_upto (n:=123) (st + 1) (fun s vs=>[(11,.r (i64 (st : Int))),(13,.r (ints A)),(14,.r (ints B)),(16,.r (ints C2)),(17,.r (ints E2)),(19,.r (i64 (s : Int)))])
  (fun s=>[]) (fun _=>True) 0 (fit_of [] ?_ ?_) (Nat.zero_le _) trivial ?_
 · try simp only [go_sem]
 · try simp only [go_sem]
 intro s vs hs _
 by_cases hcs : s < st + 1
 · have g1 : decide ((s : Int) ≤ (st : Int)) = true:=decide_eq_true (by omega)
   obtain ⟨a,ha⟩:=opt_of_lt (show s < A.length by omega)
   obtain ⟨b,hb⟩:=opt_of_lt (show s < B.length by omega)
   obtain ⟨c,hc1⟩:=opt_of_lt (show s < C2.length by omega)
   obtain ⟨e,he⟩:=opt_of_lt (show s < E2.length by omega)
   have g2:=hup s (by omega)
   have g3:=hlw s (by omega)
   simp only [List.getD_eq_getElem?_getD,ha,hb,hc1,he,Option.getD_some] at g2 g3
   have c1 : decide (c < a) = false:=decide_eq_false (by omega)
   have c2 : decide (b < e) = false:=decide_eq_false (by omega)
   have ws1 : IntKind.i64.wrap ((s : Int) + 1) = (s : Int) + 1:=by rw [zI] <;> omega
   repeat refine zq ?_
   refine zb fun K hK=>?_;simp only [go_sem,g1];refine hK _ ?_;clear hK K;refine zw (zk [11,13,14,16,17,19,99]) ?_;simp only [go_sem]
   refine zc rfl (fun hc=>?_) (fun hc=>?_) <;> (try simp only [go_sem] at hc)
   rotate_left
   · exact absurd (show s ≤ st by omega) hc
   refine zx ?_
   try simp only [go_sem]
   refine zq ?_
   refine zd ?_
   refine zq ?_
   refine zg follows (by decide +kernel) (by kernel_rfl) fun K hK=>?_;simp only [go_sem,ha,hb,hc1,he,lA',lB',lC',lE',hcs,c1,c2,List.length_map]
   repeat refine ⟨by omega,?_⟩
   refine hK _ ?_;clear hK K;refine zw (zk [11,13,14,16,17,19,121]) ?_;simp only [go_sem]
   refine zc rfl (fun hc=>?_) (fun hc=>?_) <;> (try simp only [go_sem] at hc)
   refine zx ?_
   try simp only [go_sem]
   refine zb fun K hK=>?_;simp only [go_sem,ws1];refine hK _ ?_;clear hK K
   try simp only [go_sem]
   refine ⟨by omega,fit_of [] ?_ ?_⟩
   · try simp only [go_sem]
   · try simp only [go_sem]
 · have hse : s = st + 1:=by omega
   subst hse
   have g3 : decide (((st + 1 : Nat) : Int) ≤ (st : Int)) = false:=decide_eq_false (by omega)
   have g4 : ¬ (st + 1 ≤ st):=by omega
   have g5 : ¬ ((st : Int) + 1 ≤ (st : Int)):=by omega
   repeat refine zq ?_
   refine zb fun K hK=>?_;simp only [go_sem,g3,g4,g5];refine hK _ ?_;clear hK K;refine zw (zk [99]) ?_;simp only [go_sem]
   refine zc rfl (fun hc=>?_) (fun hc=>?_) <;> (try simp only [go_sem] at hc)
   refine zf ?_;simp only [go_sem]
   refine zq ?_
   refine zb fun K hK=>?_;simp only [go_sem]
   refine zh (hkn) rfl (by simp only [go_sem,i64,ints]) (by simp only [go_sem,i64,ints]) (by first | exact .inl rfl | exact .inr rfl) ?_
   (try simp only [go_sem]);refine hK _ ?_;clear hK K;refine zw (zk [6]) ?_;simp only [go_sem];refine ze ?_;simp only [go_sem]
end Go.Proofs.Ytgfbenanljjgaaa.Du.Th.Ai

namespace Go.Oc
open Go Go.RowKit Go.ChangeShapes Go.WideShapes
inductive Sh where
 | int (k : IntKind)
 | bool
 | sl (es : List Sh)
def fieldsSh (P : Program) (sh : TypeId → Option (List Sh)) : List Field → Nat → Option (List Sh)
 | [],_=>some []
 | f :: fs, o =>
   match sh f.type with
   | some ss=>if f.offset == o && ss.length == P.cellsOf f.type then match fieldsSh P sh fs (o + ss.length) with | some q=>some (ss ++ q) | none=>none else none
   | none=>none
def shape (P : Program) : Nat → TypeId → Option (List Sh)
 | 0,_=>none
 | n + 1, t =>
   match P.underlying t with
   | some (.int k)=>some [.int k]
   | some .bool=>some [.bool]
   | some (.slice e) =>
     match shape P n e with
     | some ss=>if ss.length == P.cellsOf e && decide (0 < ss.length) then some [.sl ss] else none
     | none=>none
   | some (.array m e) =>
     match shape P n e with
     | some ss=>if ss.length == P.cellsOf e && P.cellsOf t == m * ss.length then some (List.replicate m ss).flatten else none
     | none=>none
   | some (.struct fs) =>
     match fieldsSh P (shape P n) fs.toList 0 with
     | some ss=>if ss.length == P.cellsOf t then some ss else none
     | none=>none
   | _=>none
mutual
def Fits : Sh → RV → Prop
 | .int k,x=>∃ n,x = .it k n ∧ (Lit.int k n).wf = true
 | .bool,x=>∃ b,x = .bo b
 | .sl ss,x=>∃ es,x = .sl ss.length es ∧ FitsE ss es
def FitsL : List Sh → List RV → Prop
 | [],xs=>xs = []
 | s :: ss,xs=>∃ y ys,xs = y :: ys ∧ Fits s y ∧ FitsL ss ys
def FitsE (ss : List Sh) : List (List RV) → Prop
 | []=>True
 | e :: es=>FitsL ss e ∧ FitsE ss es
end
theorem fitsL_append : ∀ {s1 s2 : List Sh} {x1 x2 : List RV},FitsL s1 x1 → FitsL s2 x2 → FitsL (s1 ++ s2) (x1 ++ x2)
 | [],_,_,_,h1,h2=>by simp only [FitsL] at h1; subst h1; simpa using h2
 | s :: ss, s2, x1, x2, h1, h2 => by
   simp only [FitsL] at h1
   obtain ⟨y,ys,rfl,h3,h4⟩:=h1
   simp only [List.cons_append,FitsL];exact ⟨y,_,rfl,h3,fitsL_append h4 h2⟩
theorem fitsL_length : ∀ {ss : List Sh} {xs : List RV},FitsL ss xs → xs.length = ss.length
 | [],_,h=>by simp only [FitsL] at h; subst h; rfl
 | s :: ss, _, h => by
   simp only [FitsL] at h
   obtain ⟨y,ys,rfl,_,h⟩:=h
   simp [fitsL_length h]
theorem fitsE_of : ∀ {ss : List Sh} {es : List (List RV)},(∀ e ∈ es,FitsL ss e) → FitsE ss es
 | _,[],_=>by simp only [FitsE]
 | ss,e :: es,h=>by simp only [FitsE]; exact ⟨h e (by simp),fitsE_of fun x hx=>h x (by simp [hx])⟩
theorem choice {α : Type} {Q : Nat → α → Prop} : ∀ (n : Nat),(∀ i,i < n → ∃ x,Q i x) → ∃ xs : List α,xs.length = n ∧ ∀ i x,xs[i]? = some x → Q i x
 | 0,_=>⟨[],rfl,by simp⟩
 | n + 1, h => by
   obtain ⟨xs,hl,hx⟩:=choice n fun i hi=>h i (by omega)
   obtain ⟨y,hy⟩:=h n (by omega)
   refine ⟨xs ++ [y],by simp [hl],fun i x hi=>?_⟩
   by_cases h1 : i < n
   · rw [List.getElem?_append_left (by omega)] at hi; exact hx i x hi
   · rw [List.getElem?_append_right (by omega)] at hi
     have : i = n:=by have:=(List.getElem?_eq_some_iff.1 hi).1; simp at this; omega
     subst this
     simp [hl] at hi
     exact hi ▸ hy
section
variable {w : World} {P : Program}
theorem cells?_get {base n : Nat} {a : Addr} {cs : List Value} (h : w.cells? base a n = some cs) : cs.length = n ∧ ∀ i,i < n → w.cell? (a.add i) = cs[i]?:=by
 unfold World.cells? at h
 split at h
 · exact ⟨by simpa using mapM_some_length h,fun i hi=>mapM_some_get h i i (by simp [hi])⟩
 · cases h
theorem cell_lt {a : Addr} {v : Value} (h : w.cell? a = some v) : a.block < w.heap.size:=by
 refine Decidable.byContradiction fun hn=>?_
 have : w.heap[a.block]? = none:=by simp; omega
 simp [World.cell?,this] at h
def old (w : World) : Nat → Prop:=fun b=>b < w.heap.size
theorem relC_of_cells {xs : List RV} {cs : List Value} {ad : Addr} (hV : RV.relV w (old w) xs cs) (hone : ∀ u ∈ cs,u.oneCell' = true) (hc : ∀ i,i < cs.length → w.cell? (ad.add i) = cs[i]?) : RV.relC w (old w) xs ad 0:=by
 refine RV.relC_of_get fun i x hx=>?_
 obtain ⟨u,hu,hr⟩:=RV.relV_get hV hx
 have hi:=(List.getElem?_eq_some_iff.1 hu).1
 refine ⟨u,?_,hone u (List.mem_of_getElem? hu),hr⟩
 rw [Nat.zero_add,hc i hi,hu]
variable {H : Type} {enc : TypeId × Value → H} {base : Nat} {spare : Nat → Bool} {held : Bool}
def Good3 (w : World) (ss : List Sh) (cs : List Value) : Prop:=∃ xs,FitsL ss xs ∧ RV.relV w (old w) xs cs ∧ ∀ u ∈ cs,u.oneCell' = true
theorem good3_append {s1 s2 : List Sh} {c1 c2 : List Value} (h1 : Good3 w s1 c1) (h2 : Good3 w s2 c2) : Good3 w (s1 ++ s2) (c1 ++ c2):=by
 obtain ⟨x1,f1,r1,o1⟩:=h1
 obtain ⟨x2,f2,r2,o2⟩:=h2
 refine ⟨x1 ++ x2,fitsL_append f1 f2,RV.relV_append r1 r2,fun u hu=>?_⟩
 rcases List.mem_append.1 hu with hu | hu
 · exact o1 u hu
 · exact o2 u hu
theorem trod_fits : ∀ (fuel n : Nat) (t : TypeId) (cs : List Value) (x : DataW H × List MemPlace) (ss : List Sh),DataW.trod enc P w base spare held fuel t cs = some x → shape P n t = some ss → Good3 w ss cs:=by
 intro fuel
 induction fuel with
 | zero=>intro n t cs x ss h; simp [DataW.trod] at h
 | succ fuel ih =>
   intro n t cs x ss h hs
   cases n with
   | zero=>simp [shape] at hs
   | succ n =>
     unfold shape at hs
     split at hs
     · rename_i k ht
       injection hs with hs; subst hs
       obtain ⟨m,rfl,_,hw⟩:=DataW.trod_int ht h
       exact ⟨[.it k m],by simp only [FitsL,Fits]; exact ⟨_,[],rfl,⟨m,rfl,hw⟩,rfl⟩,by simp only [RV.relV,RV.rel]; exact ⟨_,[],rfl,rfl,rfl⟩,by simp [Value.oneCell']⟩
     · rename_i ht
       injection hs with hs; subst hs
       obtain ⟨b,rfl,_⟩:=DataW.trod_bool ht h
       exact ⟨[.bo b],by simp only [FitsL,Fits]; exact ⟨_,[],rfl,⟨b,rfl⟩,rfl⟩,by simp only [RV.relV,RV.rel]; exact ⟨_,[],rfl,rfl,rfl⟩,by simp [Value.oneCell']⟩
     · rename_i e ht
       split at hs
       · rename_i es hes
         split at hs
         · rename_i hc
           simp only [Bool.and_eq_true,beq_iff_eq,decide_eq_true_eq] at hc
           injection hs with hs; subst hs
           rcases DataW.trod_slice ht h with ⟨rfl,_⟩ | ⟨a,len,cap,elems,rest,m,hm,rfl,_,_,hlc,hcm,hel,hget,_⟩
           · refine ⟨[.sl es.length []],?_,?_,by simp [Value.oneCell']⟩
             · simp only [FitsL,Fits];exact ⟨_,[],rfl,⟨[],rfl,by simp only [FitsE]⟩,rfl⟩
             · simp only [RV.relV,RV.rel];exact ⟨_,[],rfl,⟨none,0,rfl,Nat.le_refl _,Nat.zero_le _,fun h=>absurd rfl h⟩,rfl⟩
           · injection hm with hm; subst hm
             have hall : ∀ i,i < len → ∃ e',FitsL es e' ∧ e'.length = es.length ∧ RV.relC w (old w) e' (a.add (i * es.length)) 0 ∧ a.block < w.heap.size:=fun i hi=>by
              have h1:=hget i hi
              have h2 : i < elems.length:=by omega
              rw [List.getElem?_eq_getElem h2] at h1
              obtain ⟨ci,hci,htr⟩:=Option.bind_eq_some_iff.1 h1
              rw [← hc.1] at hci
              obtain ⟨hl,hcell⟩:=cells?_get hci
              obtain ⟨xs,f,r,o⟩:=ih n e ci _ es htr hes
              refine ⟨xs,f,fitsL_length f,relC_of_cells r o (fun j hj=>hcell j (by omega)),?_⟩
              have h3:=hcell 0 hc.2
              have h4 : 0 < ci.length:=by omega
              rw [List.getElem?_eq_getElem h4] at h3
              have:=cell_lt h3
              rwa [block_add,block_add] at this
             obtain ⟨els,hlen,hels⟩:=choice len hall
             refine ⟨[.sl es.length els],?_,?_,by simp [Value.oneCell']⟩
             · simp only [FitsL,Fits]
               refine ⟨_,[],rfl,⟨els,rfl,fitsE_of fun e' he'=>?_⟩,rfl⟩
               obtain ⟨i,hi⟩:=List.getElem?_of_mem he'
               exact (hels i e' hi).1
             · simp only [RV.relV,RV.rel]
               refine ⟨_,[],rfl,⟨some a,cap,by rw [hlen],by omega,hcm,fun hne=>?_⟩,rfl⟩
               obtain ⟨e0,he0⟩ : ∃ e0,els[0]? = some e0:=by
                cases els with
                | nil=>exact absurd rfl hne
                | cons a l=>exact ⟨a,rfl⟩
               refine ⟨a,rfl,(hels 0 e0 he0).2.2.2,RV.relE_of_get fun i e' he'=>?_⟩
               obtain ⟨_,q1,q2,_⟩:=hels i e' he'
               exact ⟨q1,RV.relC_unbase _ q2⟩
         · cases hs
       · cases hs
     · rename_i m e ht
       split at hs
       · rename_i es hes
         split at hs
         · rename_i hc
           simp only [Bool.and_eq_true,beq_iff_eq] at hc
           injection hs with hs; subst hs
           obtain ⟨xs,fm,hm,_,hcl,hxl,hget⟩:=DataW.trod_array ht h
           injection hm with hm; subst hm
           have key : ∀ j,j ≤ m → Good3 w (List.replicate j es).flatten (cs.take (j * es.length)):=by
            intro j
            induction j with
            | zero=>intro _; exact ⟨[],by simp [FitsL],by simp [RV.relV],by simp⟩
            | succ j ihj =>
              intro hj
              have h1:=hget j (by omega)
              have h2 : j < xs.length:=by omega
              rw [List.getElem?_eq_getElem h2,← hc.1] at h1
              have h3:=ih n e _ _ es h1 hes
              have:=good3_append (ihj (by omega)) h3
              rw [← List.take_add] at this
              rw [List.replicate_succ',List.flatten_append,Nat.add_mul]
              simpa using this
           have:=key m (Nat.le_refl _)
           rwa [← hc.2,← hcl,List.take_length] at this
         · cases hs
       · cases hs
     · rename_i fs ht
       split at hs
       · rename_i q hq
         split at hs
         · rename_i hc
           simp only [beq_iff_eq] at hc
           injection hs with hs; subst hs
           obtain ⟨xs,fm,hm,_,hcl,hxl,hget⟩:=DataW.trod_struct ht h
           injection hm with hm; subst hm
           have key : ∀ (l : List Field) (o : Nat) (q : List Sh),(∀ f ∈ l,∃ y,DataW.trod enc P w base spare held fuel f.type ((cs.drop f.offset).take (P.cellsOf f.type)) = some y) → fieldsSh P (shape P n) l o = some q → Good3 w q ((cs.drop o).take q.length):=by
            intro l
            induction l with
            | nil =>
              intro o q _ hq
              simp only [fieldsSh,Option.some.injEq] at hq
              subst hq
              exact ⟨[],by simp [FitsL],by simp [RV.relV],by simp⟩
            | cons f l ihl =>
              intro o q hall hq
              simp only [fieldsSh] at hq
              split at hq
              · rename_i s1 hs1
                split at hq
                · rename_i hc1
                  simp only [Bool.and_eq_true,beq_iff_eq] at hc1
                  split at hq
                  · rename_i q2 hq2
                    injection hq with hq; subst hq
                    obtain ⟨y,hy⟩:=hall f (by simp)
                    have g1:=ih n f.type _ _ s1 hy hs1
                    have g2:=ihl (o + s1.length) q2 (fun f' hf'=>hall f' (by simp [hf'])) hq2
                    rw [hc1.1,← hc1.2] at g1
                    have:=good3_append g1 g2
                    rw [← List.drop_drop,← List.take_add] at this
                    simpa using this
                  · cases hq
                · cases hq
              · cases hq
           have:=key fs.toList 0 q (fun f hf=>by
            obtain ⟨i,hi⟩:=List.getElem?_of_mem hf
            have hi' : fs[i]? = some f:=by simpa using hi
            have h1:=hget i f hi'
            have h2 : i < xs.length:=by have:=(Array.getElem?_eq_some_iff.1 hi').1; omega
            exact ⟨xs[i],by rw [h1]; exact List.getElem?_eq_getElem h2⟩) hq
           rwa [List.drop_zero,hc,← hcl,List.take_length] at this
         · cases hs
       · cases hs
     · cases hs
def FitsT (P : Program) (n : Nat) (t : TypeId) (x : RV) : Prop:=∃ ss,shape P n t = some ss ∧ if aggOf P t then ∃ xs,x = .ag xs ∧ FitsL ss xs else FitsL ss [x]
theorem arg_fits {n : Nat} {t : TypeId} {v : Value} {d : DataW H} {ps : List MemPlace} {r : Reach} {b0 : Nat} (hs : (shape P n t).isSome = true) (hval : Value.okWide P w r b0 t v) (h : DataW.Trod enc P w base spare held t v d ps) :
 ∃ x,FitsT P n t x ∧ x.rel w (old w) v:=by
 obtain ⟨ss,hss⟩:=Option.isSome_iff_exists.1 hs
 obtain ⟨fuel,hf⟩:=h
 obtain ⟨xs,f,r,o⟩:=trod_fits fuel n t _ _ ss hf hss
 have one : aggOf P t = false → v.cells.toList = [v] → ∃ x,FitsT P n t x ∧ x.rel w (old w) v:=fun ha hc=>by
  rw [hc] at r
  match xs,r with
  | [x], r =>
    simp only [RV.relV] at r
    obtain ⟨u,us,e,hr,_⟩:=r
    injection e with e1 e2
    subst e1
    exact ⟨x,⟨ss,hss,by rw [ha]; exact f⟩,hr⟩
  | [],r=>simp [RV.relV] at r
  | _ :: _ :: _, r =>
    simp only [RV.relV] at r
    obtain ⟨u,us,e,_,u2,us2,e2,_⟩:=r
    injection e with _ e
    rw [e2] at e; cases e
 cases n with
 | zero=>simp [shape] at hss
 | succ n =>
   have hss':=hss
   unfold shape at hss'
   split at hss'
   · rename_i k ht
     obtain ⟨m,rfl⟩:=okWide_int ht hval
     exact one (by simp [aggOf,ht]) rfl
   · rename_i ht
     obtain ⟨b,rfl⟩:=okWide_bool ht hval
     exact one (by simp [aggOf,ht]) rfl
   · rename_i e ht
     obtain ⟨a,l,c,rfl⟩:=okWide_slice ht hval
     exact one (by simp [aggOf,ht]) rfl
   · rename_i m e ht
     obtain ⟨cs,rfl⟩ : ∃ cs,v = .agg cs:=by
      simp only [Value.okWide,ht] at hval
      obtain ⟨cs,h1,_⟩:=hval
      exact ⟨cs,h1⟩
     exact ⟨.ag xs,⟨ss,hss,by simp only [aggOf,ht,if_true]; exact ⟨xs,rfl,f⟩⟩,by simp only [RV.rel]; exact ⟨cs,rfl,o,r⟩⟩
   · rename_i fs ht
     obtain ⟨cs,rfl,_⟩:=okWide_struct ht hval
     exact ⟨.ag xs,⟨ss,hss,by simp only [aggOf,ht,if_true]; exact ⟨xs,rfl,f⟩⟩,by simp only [RV.rel]; exact ⟨cs,rfl,o,r⟩⟩
   · cases hss'
theorem fitsT_ag {n : Nat} {t : TypeId} {x : RV} {ss : List Sh} (h : FitsT P n t x) (hs : shape P n t = some ss) (ha : aggOf P t = true) : ∃ xs,x = .ag xs ∧ FitsL ss xs:=by
 obtain ⟨s',h1,h2⟩:=h
 rw [hs] at h1; injection h1 with h1; subst h1
 rw [ha] at h2
 exact h2
theorem fitsT_one {n : Nat} {t : TypeId} {x : RV} {s : Sh} (h : FitsT P n t x) (hs : shape P n t = some [s]) (ha : aggOf P t = false) : Fits s x:=by
 obtain ⟨s',h1,h2⟩:=h
 rw [hs] at h1; injection h1 with h1; subst h1
 rw [ha] at h2
 simp only [Bool.false_eq_true,if_false,FitsL] at h2
 obtain ⟨y,ys,e,h3,_⟩:=h2
 injection e with e1 e2
 subst e1
 exact h3
end
end Go.Oc

namespace Go.Oc
open Go Go.RowKit
end Go.Oc

namespace Go.Proofs.Ytgfbenanljjgaaa.Du.Th
open Go Go.Oc
set_option maxRecDepth 8000
theorem wfb8 {n : Int} (h : (Lit.int .u8 n).wf = true) : ∃ k : Nat,n = k ∧ k < 256:=by
 simp only [Lit.wf,Bool.and_eq_true,decide_eq_true_eq] at h
 have h1 : IntKind.min .u8 = 0:=by decide
 have h2 : IntKind.max .u8 = 255:=by decide
 rw [h1,h2] at h
 obtain ⟨k,hk⟩:=Int.eq_ofNat_of_zero_le h.1
 exact ⟨k,hk,by omega⟩
theorem fitsL_by8 : ∀ {n : Nat} {xs : List RV},FitsL (List.replicate n (.int .u8)) xs → ∃ l : List Nat,xs = l.map u8Q ∧ l.length = n ∧ ∀ k ∈ l,k < 256
 | 0, xs, h => by
   simp only [List.replicate_zero,Oc.FitsL] at h
   subst h
   exact ⟨[],rfl,rfl,by simp⟩
 | n + 1, xs, h => by
   simp only [List.replicate_succ,Oc.FitsL,Oc.Fits] at h
   obtain ⟨_,ys,rfl,⟨a,rfl,ha⟩,h⟩:=h
   obtain ⟨k,rfl,kk⟩:=wfb8 ha
   obtain ⟨l,rfl,hn,hl⟩:=fitsL_by8 h
   refine ⟨k :: l,rfl,by simp [hn],fun x hx=>?_⟩
   rcases List.mem_cons.1 hx with rfl | hx
   · exact kk
   · exact hl x hx
theorem fitsE_by8 {m : Nat} : ∀ {es : List (List RV)},FitsE (List.replicate m (.int .u8)) es → ∃ A : List (List Nat),es = A.map (fun a=>a.map u8Q) ∧ ∀ a ∈ A,a.length = m ∧ ∀ n ∈ a,n < 256
 | [],_=>⟨[],rfl,by simp⟩
 | e :: es, h => by
   simp only [Oc.FitsE] at h
   obtain ⟨h1,h2⟩:=h
   obtain ⟨l,rfl,hn,hl⟩:=fitsL_by8 h1
   obtain ⟨A,rfl,hA⟩:=fitsE_by8 h2
   refine ⟨l :: A,rfl,fun x hx=>?_⟩
   rcases List.mem_cons.1 hx with rfl | hx
   · exact ⟨hn,hl⟩
   · exact hA x hx
theorem fitsK81 {x : RV} (h : FitsT Try.prog 9 81 x) : ∃ A : List (List Nat),x = .sl 3 (A.map fun a=>a.map u8Q) ∧ ∀ a ∈ A,a.length = 3 ∧ ∀ n ∈ a,n < 256:=by
 have:=fitsT_one (s:=.sl (List.replicate 3 (.int .u8))) h (by kernel_rfl) (by kernel_rfl)
 simp only [Oc.Fits] at this
 obtain ⟨es,rfl,hes⟩:=this
 obtain ⟨A,rfl,hA⟩:=fitsE_by8 hes
 exact ⟨A,rfl,hA⟩
theorem fitsK43 {x : RV} (h : FitsT Try.prog 9 43 x) : ∃ l : List Nat,x = .sl 1 (l.map fun n=>[u8Q n]) ∧ ∀ n ∈ l,n < 256:=by
 have:=fitsT_one (s:=.sl (List.replicate 1 (.int .u8))) h (by kernel_rfl) (by kernel_rfl)
 simp only [Oc.Fits] at this
 obtain ⟨es,rfl,hes⟩:=this
 obtain ⟨A,rfl,hA⟩:=fitsE_by8 hes
 have key : ∀ A : List (List Nat),(∀ a ∈ A,a.length = 1 ∧ ∀ n ∈ a,n < 256) → A = A.flatten.map (fun n=>[n]) ∧ ∀ n ∈ A.flatten,n < 256:=by
  intro A
  induction A with
  | nil=>intro _; exact ⟨rfl,by simp⟩
  | cons a A ih =>
    intro h
    obtain ⟨i1,i2⟩:=ih fun b hb=>h b (by simp [hb])
    obtain ⟨h1,h2⟩:=h a (by simp)
    match a,h1,h2 with
    | [n], _, h2 =>
      refine ⟨?_,?_⟩
      · simp only [List.flatten_cons,List.singleton_append,List.map_cons];rw [← i1]
      · intro x hx
        simp only [List.flatten_cons,List.singleton_append,List.mem_cons] at hx
        rcases hx with rfl | hx
        · exact h2 _ (by simp)
        · exact i2 x hx
 obtain ⟨k1,k2⟩:=key A hA
 refine ⟨A.flatten,?_,k2⟩
 conv=>lhs; rw [k1]
 rw [List.map_map]; rfl
theorem fitsK82 {x : RV} (h : FitsT Try.prog 9 82 x) : ∃ a b : Nat,x = .ag [u8Q a,u8Q b] ∧ a < 256 ∧ b < 256:=by
 obtain ⟨xs,rfl,hx⟩:=fitsT_ag (ss:=List.replicate 2 (.int .u8)) h (by kernel_rfl) (by kernel_rfl)
 obtain ⟨l,rfl,hn,hl⟩:=fitsL_by8 hx
 match l,hn,hl with
 | [a,b],_,hl=>exact ⟨a,b,rfl,hl a (by simp),hl b (by simp)⟩
end Go.Proofs.Ytgfbenanljjgaaa.Du.Th

namespace Go.Proofs.Ytgfbenanljjgaaa
open Go Go.Oc
theorem law10' {x0 x1 x2 : RV} (h0 : FitsT Try.prog 9 43 x0) (h1 : FitsT Try.prog 9 81 x1) (h2 : FitsT Try.prog 9 82 x2) : ACalls Try.prog 10 [x0,x1,x2] (.bo true):=by
 obtain ⟨l,rfl,hl⟩:=Du.Th.fitsK43 h0
 obtain ⟨A,rfl,hA⟩:=Du.Th.fitsK81 h1
 obtain ⟨a,b,rfl,ka,kb⟩:=Du.Th.fitsK82 h2
 exact Du.Th.Ai.law_fitaim l hl A hA a b ka kb
end Go.Proofs.Ytgfbenanljjgaaa


namespace Go.Proofs.Ytgfbenanljjgaaa
open Go Go.Oc Go.ChangeShapes Go.WideShapes Go.RowKit
set_option linter.unusedVariables false
theorem own : ownKnob Try.prog.godebug = none := by kernel_rfl
theorem laidOut : laidOutB Try.prog = true := by kernel_rfl
set_option maxRecDepth 100000 in
theorem lifted (os : Os) (started : os.Started) (H : Type) (enc : TypeId × Value → H) :
    ReturnsInHanded {} Try.checked os 10 .any (Rows.topFitAimSpec.pre6 enc Try.prog Try.f10 Rows.topFitAimRow.domain false) (Rows.topFitAimSpec.post enc Try.prog Try.f10 false true false false) := by
  refine returnsInHanded_of_change (C := Try.checked) own started (by kernel_rfl) Try.func10
    (ChangeSpec.witness6 (enc := enc) (C := Try.checked) false ⟨#[], #[.slice none 0 0, .slice none 0 0, .agg #[.int .u8 0, .int .u8 0]], []⟩ 8 (by kernel_rfl) (by kernel_rfl) (by kernel_rfl) (by kernel_rfl)) ?_
  intro W base args ds gs before hval0 hW hcnd _
  have hval : ∀ (j : Nat) t v, Try.f10.params[j]? = some t → args[j]? = some v → Value.okWide Try.prog W .any base t v := hval0
  have hW' := hW
  obtain ⟨p, q, hA0, hV, rfl, hfz, hnd⟩ := hW
  have hA : DataW.TrodAll enc Try.prog W 0 (fun _ => true) true Try.f10.params.toList args.toList ds p := hA0
  rw [Try.params10] at hA hval
  obtain ⟨v0, vs0, d0, ds0, p0, q0, hargs, rfl, rfl, h0, r0⟩ := trodAll_cons hA
  obtain ⟨v1, vs1, d1, ds1, p1, q1, rfl, rfl, rfl, h1, r1⟩ := trodAll_cons r0
  obtain ⟨v2, vs2, d2, ds2, p2, q2, rfl, rfl, rfl, h2, r2⟩ := trodAll_cons r1
  obtain ⟨rfl, rfl, rfl⟩ := trodAll_nil r2
  obtain rfl : args = #[v0, v1, v2] := by cases args; simp_all
  obtain ⟨rfl, rfl⟩ := trodVars_none hV
  have lt0 : ∀ x ∈ p0, x.block < W.heap.size := by obtain ⟨m, hm⟩ := h0; exact DataW.trod_lt m _ _ _ hm
  have lt1 : ∀ x ∈ p1, x.block < W.heap.size := by obtain ⟨m, hm⟩ := h1; exact DataW.trod_lt m _ _ _ hm
  have lt2 : ∀ x ∈ p2, x.block < W.heap.size := by obtain ⟨m, hm⟩ := h2; exact DataW.trod_lt m _ _ _ hm
  obtain ⟨x0, g0, e0⟩ := arg_fits (n := 9) (by kernel_rfl) (hval 0 43 v0 rfl rfl) h0
  obtain ⟨x1, g1, e1⟩ := arg_fits (n := 9) (by kernel_rfl) (hval 1 81 v1 rfl rfl) h1
  obtain ⟨x2, g2, e2⟩ := arg_fits (n := 9) (by kernel_rfl) (hval 2 82 v2 rfl rfl) h2
  clear hA0 hval0
  refine ((law10' g0 g1 g2).2 W (old W) #[v0, v1, v2] (fun _ h => h) (by simp only [RV.relV]; exact ⟨_, _, rfl, e0, _, _, rfl, e1, _, _, rfl, e2, rfl⟩)).mono fun e W' he => ?_
  obtain ⟨v, R', rfl, bel, _, _, _, hr⟩ := he
  simp only [RV.rel] at hr
  subst hr
  exact ⟨_, rfl, _, _, _, [], _, [], hW', trodAll_mk1 (shut_bool Try.underlying4 _), (trodAll_cons_mk (Below.trod laidOut (by kernel_rfl) (of_decide_eq_true (by kernel_rfl)) h0 bel lt0) (trodAll_cons_mk (Below.trod laidOut (by kernel_rfl) (of_decide_eq_true (by kernel_rfl)) h1 bel lt1) (trodAll_cons_mk (Below.trod laidOut (by kernel_rfl) (of_decide_eq_true (by kernel_rfl)) h2 bel lt2) trodAll_mk0))), rfl, bel.frame _, fun h => by cases h⟩
theorem over : Rows.topFitAimRow.holds Try.pinned (OpenSpec.ofChange Rows.topFitAimSpec) :=
  OpenClaim.holds_of_wide 10 Try.f10 rfl rfl rfl rfl rfl rfl rfl ⟨rfl, rfl, rfl, rfl, rfl⟩ rfl rfl rfl rfl rfl (by kernel_rfl) Try.func10 (by kernel_rfl)
    (of_decide_eq_true (by kernel_rfl)) (by unfold Func.isWrapper; first | (rw [if_pos (by decide +kernel)]; kernel_rfl) | (rw [if_neg (by decide +kernel)]; exact ⟨rfl, rfl⟩))
    (fun os started H enc _ => lifted os started H enc)
theorem topFitAim_holds : Rows.TopFitAimSaid := over
#print axioms topFitAim_holds
end Go.Proofs.Ytgfbenanljjgaaa
