/- Part 10 of the texts of this claim. -/
import Derived.Test.YtgfbenanljjgaaaVF9
import Derived.Test.YtgfbenanljjgaaaVF6
import Derived.Test.YtgfbenanljjgaaaVF7
namespace Go.Proofs.Ytgfbenanljjgaaa.Du.Th
open Go Go.Oc
set_option linter.unusedSimpArgs false
set_option linter.unusedVariables false
set_option maxRecDepth 8000
instance : DecidableEq Bd:=fun a b=>decidable_of_iff (a.b = b.b ∧ a.lo = b.lo ∧ a.hi = b.hi) (by cases a; cases b; simp)
instance : DecidableEq Am:=fun a b=>decidable_of_iff (a.at_ = b.at_ ∧ a.beds = b.beds) (by cases a; cases b; simp)
theorem any_step {α : Type} {p : α → Bool} {l : List α} {k : Nat} {y : α} (hy : l[k]? = some y) : (l.take (k + 1)).any p = ((l.take k).any p || p y):=by rw [take_of_opt hy]; simp
theorem any_of {α : Type} {p : α → Bool} {l : List α} {k : Nat} {y : α} (hy : l[k]? = some y) (h : p y = true) : l.any p = true:=List.any_eq_true.2 ⟨y,mem_of_opt hy,h⟩
def greatL (l : List Am) : Bool:=decide (22 < l.length) || l.any fun a=>decide (12 < a.beds.length)
theorem alike_ok (a b : List Int) : ACalls Try.prog 23 [ints a,ints b] (.bo (decide (a = b))):=by
 refine acalls_st (rs:=[.bo (decide (a = b))]) [.tmp 4] Try.func23 rfl (by kernel_rfl) Try.ntmps23 rfl (by simp) rfl fun C vs=>?_
 repeat refine zq ?_
 refine zb fun K hK=>?_;simp only [go_sem];(try simp (disch:=omega) only [zI]);repeat first | intro _ | refine ⟨by omega,?_⟩
 refine hK _ ?_;clear hK K;refine zw (zk [0,1]) ?_;simp only [go_sem]
 repeat refine zq ?_
 refine zb fun K hK=>?_;simp only [go_sem];(try simp (disch:=omega) only [zI])
 intro hla hlb
 by_cases h1 : a.length = b.length
 case neg =>
  have e4 : ((a.length : Int) != b.length) = true:=by simp; omega
  rw [e4]
  repeat first | intro _ | refine ⟨by omega,?_⟩
  refine hK _ ?_;clear hK K
  repeat refine zq ?_
  refine zc rfl (fun hc=>?_) (fun hc=>?_) <;> (try simp only [go_sem] at hc)
  repeat refine zq ?_
  refine zb fun K hK=>?_;simp only [go_sem];(try simp (disch:=omega) only [zI]);repeat first | intro _ | refine ⟨by omega,?_⟩
  refine hK _ ?_;clear hK K;refine ze ?_;simp only [go_sem]
  simp
  exact fun h=>h1 (by rw [h])
 have e4 : ((a.length : Int) != b.length) = false:=by simp [h1]
 rw [e4]
 repeat first | intro _ | refine ⟨by omega,?_⟩
 refine hK _ ?_;clear hK K;refine zw (zk [0,1,10]) ?_;simp only [go_sem]
 repeat refine zq ?_
 refine zc rfl (fun hc=>?_) (fun hc=>?_) <;> (try simp only [go_sem] at hc)
 refine zx ?_
 try simp only [go_sem]
 repeat refine zq ?_
 refine zb fun K hK=>?_;simp only [go_sem];(try simp (disch:=omega) only [zI]);repeat first | intro _ | refine ⟨by omega,?_⟩
 refine hK _ ?_;clear hK K;refine zw (zk [0,1,5]) ?_;simp only [go_sem]
 repeat refine zq ?_
 refine zd ?_
 refine awp_upto (n:=26) a.length (fun i vs=>[(0,.r (ints a)),(1,.r (ints b)),(5,.r (i64 i))])
  (fun i=>[]) (fun i=>a.take i = b.take i) 0 (fit_of [] ?_ ?_) (Nat.zero_le _) (by simp) ?_
 · try simp only [go_sem]
 · try simp only [go_sem]
 · intro i vs hi hI
   repeat refine zq ?_
   refine zb fun K hK=>?_;simp only [go_sem];(try simp (disch:=omega) only [zI]);repeat first | intro _ | refine ⟨by omega,?_⟩
   refine hK _ ?_;clear hK K;refine zw (zk [0,1,5,14]) ?_;simp only [go_sem]
   repeat refine zq ?_
   refine zc rfl (fun hc=>?_) (fun hc=>?_) <;> (try simp only [go_sem] at hc)
   · skip
     have hci : i < a.length:=by omega
     have hc2 : i < b.length:=by omega
     obtain ⟨u,hu⟩:=opt_of_lt hci
     obtain ⟨v,hv⟩:=opt_of_lt hc2
     refine zx ?_
     try simp only [go_sem]
     repeat refine zq ?_
     refine zd ?_
     repeat refine zq ?_
     refine zg follows (by decide +kernel) (by kernel_rfl) fun K hK=>?_;simp only [go_sem,hu,hv,hci,hc2];(try simp (disch:=omega) only [zI]);repeat first | intro _ | refine ⟨by omega,?_⟩
     refine hK _ ?_;clear hK K
     by_cases huv : u = v
     · have e6 : (u != v) = false:=by simp [huv]
       rw [e6]
       repeat refine zq ?_
       refine zc rfl (fun hc=>?_) (fun hc=>?_) <;> (try simp only [go_sem] at hc)
       refine zx ?_
       try simp only [go_sem]
       repeat refine zq ?_
       refine zb fun K hK=>?_;simp only [go_sem];(try simp (disch:=omega) only [zI]);repeat first | intro _ | refine ⟨by omega,?_⟩
       refine hK _ ?_;clear hK K
       try simp only [go_sem]
       refine ⟨hci,?_,fit_of [] ?_ ?_⟩
       · rw [take_of_opt hu,take_of_opt hv,hI,huv]
       · try simp only [go_sem]
       · try simp only [go_sem]
     · have e6 : (u != v) = true:=by simp [huv]
       rw [e6]
       repeat refine zq ?_
       refine zc rfl (fun hc=>?_) (fun hc=>?_) <;> (try simp only [go_sem] at hc)
       repeat refine zq ?_
       refine zb fun K hK=>?_;simp only [go_sem];(try simp (disch:=omega) only [zI]);repeat first | intro _ | refine ⟨by omega,?_⟩
       refine hK _ ?_;clear hK K;refine ze ?_;simp only [go_sem]
       simp
       rintro rfl
       rw [hu] at hv
       injection hv with hv
       exact huv hv
   · skip
     refine zf ?_;simp only [go_sem]
     repeat refine zq ?_
     refine zb fun K hK=>?_;simp only [go_sem];(try simp (disch:=omega) only [zI]);repeat first | intro _ | refine ⟨by omega,?_⟩
     refine hK _ ?_;clear hK K;refine zw (zk [4]) ?_;simp only [go_sem];refine ze ?_;simp only [go_sem]
     have : i = a.length:=by omega
     subst this
     have hab : a = b:=by rwa [List.take_length,h1,List.take_length] at hI
     simp [hab]
end Go.Proofs.Ytgfbenanljjgaaa.Du.Th

namespace Go.Proofs.Ytgfbenanljjgaaa.Du.Th.Ai
open Go Go.Oc
set_option linter.unusedSimpArgs false
set_option linter.unusedVariables false
set_option maxRecDepth 8000
set_option maxHeartbeats 8000000
def dblB (b : Bool) : List Bd:=if b then [⟨0,0,1⟩,⟨101,0,1⟩,⟨201,1,1⟩] else [⟨0,1,1⟩,⟨201,1,1⟩]
def dbl (st : Int) (b : Bool) : Rk:=⟨2,[⟨201,dblB b⟩],st,1⟩
theorem double_ok (st : Int) (b : Bool) : ACalls Try.prog 53 [i64 st,.bo b] (rkR (dbl st b)):=by
 refine acalls_st (rs:=[rkR (dbl st b)]) [.cell 4 27] Try.func53 rfl (by kernel_rfl) Try.ntmps53 rfl (by simp) rfl fun C vs=>?_
 refine zq ?_
 refine zb fun K hK=>?_;simp only [go_sem];refine hK _ ?_;clear hK K;refine zw (zk [0,1,4]) ?_;simp only [go_sem]
 cases b
 · refine zq ?_
   refine zb fun K hK=>?_;simp only [go_sem];refine hK _ ?_;clear hK K;refine zw (zk [0,1,4,5]) ?_;simp only [go_sem]
   repeat refine zq ?_
   refine zb fun K hK=>?_;simp only [go_sem];refine hK _ ?_;clear hK K;refine zw (zk [0,4,5,11]) ?_;simp only [go_sem]
   refine zc rfl (fun hc=>?_) (fun hc=>?_) <;> (try simp only [go_sem] at hc)
   refine zx ?_
   try simp only [go_sem]
   refine zq ?_
   refine zb fun K hK=>?_;simp only [go_sem];refine hK _ ?_;clear hK K;refine zw (zk [4]) ?_;simp only [go_sem];refine ze ?_;simp only [go_sem];exact ⟨rfl,rfl,rfl,rfl⟩
 · refine zq ?_
   refine zb fun K hK=>?_;simp only [go_sem];refine hK _ ?_;clear hK K;refine zw (zk [0,1,4,5]) ?_;simp only [go_sem]
   repeat refine zq ?_
   refine zb fun K hK=>?_;simp only [go_sem];refine hK _ ?_;clear hK K;refine zw (zk [0,4,5,11]) ?_;simp only [go_sem]
   refine zc rfl (fun hc=>?_) (fun hc=>?_) <;> (try simp only [go_sem] at hc)
   refine zb fun K hK=>?_;simp only [go_sem];refine hK _ ?_;clear hK K;refine zw (zk [0,4,5]) ?_;simp only [go_sem]
   refine zq ?_
   refine zb fun K hK=>?_;simp only [go_sem];refine hK _ ?_;clear hK K;refine zw (zk [4]) ?_;simp only [go_sem];refine ze ?_;simp only [go_sem];exact ⟨rfl,rfl,rfl,rfl⟩
theorem dbl_ok32 : ROk (dbl 3 false):=(checkR_zero (by decide +kernel)).2
theorem dbl_ok22 : ROk (dbl 2 false):=(checkR_zero (by decide +kernel)).2
theorem dbl_ok2t : ROk (dbl 2 true):=(checkR_zero (by decide +kernel)).2
theorem vok_list {l : List Int} (h : l.all (fun x=>decide (0 ≤ x) && decide (x ≤ 1000000000) || decide (x = 2000000000)) = true) : ∀ x ∈ l,VOk x:=fun x hx=>by
 have:=List.all_eq_true.1 h x hx
 simp at this
 exact this
theorem u3 : tabT (dbl 3 false) false = [0,0,1142858,2000000000]:=by
 have h1 : numA (dbl 3 false) false [0,0,0,0] 2 = 1142858:=numA_upper dbl_ok32 (vok_list (by decide)) (by decide) (by decide) (by omega) (by decide +kernel) (.inr (by decide +kernel))
 have h2 : numA (dbl 3 false) false [0,0,1142858,0] 3 = 2000000000:=numA_never dbl_ok32 (vok_list (by decide)) (by decide) (by decide) (by decide +kernel)
 show (([0,0,0,0] : List Int).set 2 (numA (dbl 3 false) false [0,0,0,0] 2)).set 3 (numA (dbl 3 false) false (([0,0,0,0] : List Int).set 2 (numA (dbl 3 false) false [0,0,0,0] 2)) 3) = _
 rw [h1]
 show ([0,0,1142858,0] : List Int).set 3 (numA (dbl 3 false) false [0,0,1142858,0] 3) = _
 rw [h2]; rfl
theorem l3 : tabT (dbl 3 false) true = [0,0,1142857,1000000000]:=by
 have h1 : numA (dbl 3 false) true [0,0,0,0] 2 = 1142857:=numA_lower dbl_ok32 (vok_list (by decide)) (by decide) (by decide) (by omega) (.inr (by decide +kernel)) (.inr (by decide +kernel))
 have h2 : numA (dbl 3 false) true [0,0,1142857,0] 3 = 1000000000:=numA_lower dbl_ok32 (vok_list (by decide)) (by decide) (by decide) (by omega) (.inr (by decide +kernel)) (.inl rfl)
 show (([0,0,0,0] : List Int).set 2 (numA (dbl 3 false) true [0,0,0,0] 2)).set 3 (numA (dbl 3 false) true (([0,0,0,0] : List Int).set 2 (numA (dbl 3 false) true [0,0,0,0] 2)) 3) = _
 rw [h1]
 show ([0,0,1142857,0] : List Int).set 3 (numA (dbl 3 false) true [0,0,1142857,0] 3) = _
 rw [h2]; rfl
theorem u2t : tabT (dbl 2 true) false = [0,0,2000000]:=by
 have h1 : numA (dbl 2 true) false [0,0,0] 2 = 2000000:=numA_upper dbl_ok2t (vok_list (by decide)) (by decide) (by decide) (by omega) (by decide +kernel) (.inr (by decide +kernel))
 show ([0,0,0] : List Int).set 2 (numA (dbl 2 true) false [0,0,0] 2) = _
 rw [h1]; rfl
theorem l2t : tabT (dbl 2 true) true = [0,0,1142857]:=by
 have h1 : numA (dbl 2 true) true [0,0,0] 2 = 1142857:=numA_lower dbl_ok2t (vok_list (by decide)) (by decide) (by decide) (by omega) (.inr (by decide +kernel)) (.inr (by decide +kernel))
 show ([0,0,0] : List Int).set 2 (numA (dbl 2 true) true [0,0,0] 2) = _
 rw [h1]; rfl
theorem u2 : tabT (dbl 2 false) false = [0,0,1142858]:=by
 have h1 : numA (dbl 2 false) false [0,0,0] 2 = 1142858:=numA_upper dbl_ok22 (vok_list (by decide)) (by decide) (by decide) (by omega) (by decide +kernel) (.inr (by decide +kernel))
 show ([0,0,0] : List Int).set 2 (numA (dbl 2 false) false [0,0,0] 2) = _
 rw [h1]; rfl
theorem aim2 : aimQ (dbl 2 false) ⟨2,2,1⟩ = (0,571429,0):=by
 unfold aimQ
 rw [u2]
 decide +kernel
theorem nev3 : nevL (dbl 3 false) (tabT (dbl 3 false) false) (cntA (dbl 3 false)) = [3]:=by
 rw [u3]
 decide +kernel
theorem wf_dbl (st : Int) (b : Bool) : WfL (dbl st b).d (dbl st b).aims:=by
 refine ⟨⟨by show (_ : Int) ≤ 2; omega,by show (2 : Int) ≤ _; omega⟩,fun a ha=>?_⟩
 simp only [dbl,List.mem_singleton] at ha
 subst ha
 refine ⟨⟨by show (_ : Int) ≤ 201; omega,by show (201 : Int) ≤ _; omega⟩,?_⟩
 cases b <;> intro x hx <;> simp [dblB] at hx <;> (first | (rcases hx with rfl | rfl | rfl) | (rcases hx with rfl | rfl)) <;> exact ⟨⟨by simp,by simp⟩,⟨by simp,by simp⟩,⟨by simp,by simp⟩⟩
theorem table_at {r : Rk} {u l : List Int} (hw : WfL r.d r.aims) (h0 : checkR r = 0) (hu : tabT r false = u) (hl : tabT r true = l) : ACalls Try.prog 17 [rkR r] (.tu [ints u,ints l,i64 0]):=by
 have:=table_ok r hw
 rw [h0,if_pos rfl,if_pos rfl,hu,hl] at this
 exact this
theorem known_ok : ACalls Try.prog 14 [] (.bo true):=by
 have d3:=double_ok 3 false
 have d2t:=double_ok 2 true
 have d2:=double_ok 2 false
 have t3:=table_at (wf_dbl 3 false) (by decide +kernel) u3 l3
 have t2:=table_at (wf_dbl 2 true) (by decide +kernel) u2t l2t
 have a2:=aim_ok (dbl 2 false) ⟨2,2,1⟩ (wf_dbl 2 false)
 rw [aim2] at a2
 have n3:=never_ok (dbl 3 false) (wf_dbl 3 false)
 rw [nev3,show checkR (dbl 3 false) = 0 by decide +kernel,if_pos rfl] at n3
 have k1:=alike_ok [0,0,1142858,2000000000] [0,0,1142858,2000000000]
 have k2:=alike_ok [0,0,1142857,1000000000] [0,0,1142857,1000000000]
 have k3:=alike_ok [0,0,2000000] [0,0,2000000]
 have k4:=alike_ok [0,0,1142857] [0,0,1142857]
 have k5:=alike_ok [3] [3]
 rw [decide_eq_true rfl] at k1 k2 k3 k4 k5
 generalize dbl 3 false = R3 at *
 generalize dbl 2 true = R2t at *
 generalize dbl 2 false = R2 at *
 refine acalls_st (rs:=[.bo true]) [.tmp 0] Try.func14 rfl (by kernel_rfl) Try.ntmps14 rfl (by simp) rfl fun C vs=>?_
 refine zq ?_
 refine zb fun K hK=>?_;simp only [go_sem];refine hK _ ?_;clear hK K
 refine zq ?_
 refine zb fun K hK=>?_;simp only [go_sem]
 refine zh (d3) rfl (by simp only [go_sem,i64,ints]) (by simp only [go_sem,i64,ints]) (by first | exact .inl rfl | exact .inr rfl) ?_
 (try simp only [go_sem])
 refine zh (t3) rfl (by simp only [go_sem,i64,ints]) (by simp only [go_sem,i64,ints]) (by first | exact .inl rfl | exact .inr rfl) ?_
 (try simp only [go_sem]);refine hK _ ?_;clear hK K;refine zw (zk [1,2,3]) ?_;simp only [go_sem]
 refine zq ?_
 refine zb fun K hK=>?_;simp only [go_sem]
 refine zh (d2t) rfl (by simp only [go_sem,i64,ints]) (by simp only [go_sem,i64,ints]) (by first | exact .inl rfl | exact .inr rfl) ?_
 (try simp only [go_sem])
 refine zh (t2) rfl (by simp only [go_sem,i64,ints]) (by simp only [go_sem,i64,ints]) (by first | exact .inl rfl | exact .inr rfl) ?_
 (try simp only [go_sem]);refine hK _ ?_;clear hK K;refine zw (zk [1,2,3,4,5,6]) ?_;simp only [go_sem]
 refine zq ?_
 refine zb fun K hK=>?_;simp only [go_sem]
 refine zh (d2) rfl (by simp only [go_sem,i64,ints]) (by simp only [go_sem,i64,ints]) (by first | exact .inl rfl | exact .inr rfl) ?_
 (try simp only [go_sem])
 refine zh (a2) rfl (by simp only [go_sem,i64,ints]) (by simp only [go_sem,i64,ints]) (by first | exact .inl rfl | exact .inr rfl) ?_
 (try simp only [go_sem]);refine hK _ ?_;clear hK K;refine zw (zk [1,2,3,4,5,6,7,8,9]) ?_;simp only [go_sem]
 refine zq ?_
 refine zb fun K hK=>?_;simp only [go_sem]
 refine zh (d3) rfl (by simp only [go_sem,i64,ints]) (by simp only [go_sem,i64,ints]) (by first | exact .inl rfl | exact .inr rfl) ?_
 (try simp only [go_sem])
 refine zh (n3) rfl (by simp only [go_sem,i64,ints]) (by simp only [go_sem,i64,ints]) (by first | exact .inl rfl | exact .inr rfl) ?_
 (try simp only [go_sem]);refine hK _ ?_;clear hK K;refine zw (zk [1,2,3,4,5,6,7,8,9,10,11]) ?_;simp only [go_sem]
 refine zq ?_
 refine zb fun K hK=>?_;simp only [go_sem]
 refine zh (k1) rfl (by simp only [go_sem,i64,ints]) (by simp only [go_sem,i64,ints]) (by first | exact .inl rfl | exact .inr rfl) ?_
 (try simp only [go_sem])
 refine zh (k2) rfl (by simp only [go_sem,i64,ints]) (by simp only [go_sem,i64,ints]) (by first | exact .inl rfl | exact .inr rfl) ?_
 (try simp only [go_sem])
 refine zh (k3) rfl (by simp only [go_sem,i64,ints]) (by simp only [go_sem,i64,ints]) (by first | exact .inl rfl | exact .inr rfl) ?_
 (try simp only [go_sem])
 refine zh (k4) rfl (by simp only [go_sem,i64,ints]) (by simp only [go_sem,i64,ints]) (by first | exact .inl rfl | exact .inr rfl) ?_
 (try simp only [go_sem])
 refine zh (k5) rfl (by simp only [go_sem,i64,ints]) (by simp only [go_sem,i64,ints]) (by first | exact .inl rfl | exact .inr rfl) ?_
 (try simp only [go_sem]);refine hK _ ?_;clear hK K;refine zw (zk [0]) ?_;simp only [go_sem];refine ze ?_;simp only [go_sem]
abbrev spR (x : Int × Int) : List RV:=[i64 x.1,i64 x.2]
abbrev spsR (l : List (Int × Int)) : RV:=.sl 2 (l.map spR)
def costL (r : Rk) (p : Ps) : List (Int × Int):=(At.atV r true (tabT r true) p.st.toNat p.left.toNat (p.darts - 1).toNat).zip (At.atV r false (tabT r false) p.st.toNat p.left.toNat (p.darts - 1).toNat)
def minE (x : Int × Int) (l : List (Int × Int)) : Int × Int:=l.foldl (fun m x=>if x.2 < m.2 then x else m) x
def mayE (m : Int) : Nat → List (Int × Int) → List Int
 | _,[]=>[]
 | i,x :: l=>if x.1 ≤ m then (i : Int) :: mayE m (i + 1) l else mayE m (i + 1) l
def mayL (r : Rk) (p : Ps) : List Int:=match costL r p with
 | []=>[]
 | x :: l=>mayE (minE x l).2 0 (x :: l)
end Go.Proofs.Ytgfbenanljjgaaa.Du.Th.Ai

namespace Go.Oc
open Go Go.RowKit
end Go.Oc
namespace Go.Proofs.Ytgfbenanljjgaaa.Du.Th.Ai
open Go Go.Oc
set_option linter.unusedSimpArgs false
set_option linter.unusedVariables false
set_option maxRecDepth 8000
set_option maxHeartbeats 8000000
def isN (s : Bool) (n : Int) : Bool:=decide (0 ≤ n ∧ n ≤ 1000000000) || (decide (n = 2000000000) && !s)
def formR (r : Rk) (s : Bool) (T : List Int) : Int:=if (T.length : Int) ≠ r.start + 1 then 4 else if withinL 0 0 (T.take (lowG r.out).toNat) = false then 4 else if (T.drop (lowG r.out).toNat).any (fun n=>!isN s n) = true then 2 else 0
def fstR (f : Nat → Bool) : Nat → Nat → Int
 | 0,_=>0
 | n + 1,i=>if f i then fstR f n (i + 1) else (i : Int)
def firstR (r : Rk) (s : Bool) (T : List Int) : Int:=fstR (holdsA r s T) (cntA r) (lowG r.out).toNat
def provR (r : Rk) (s : Bool) (T : List Int) : Int × Int:=if checkR r = 0 then (if formR r s T = 0 then (firstR r s T,0) else (0,formR r s T)) else (0,checkR r)
end Go.Proofs.Ytgfbenanljjgaaa.Du.Th.Ai

namespace Go.Proofs.Ytgfbenanljjgaaa.Du.Th.Ai
open Go Go.Oc
set_option linter.unusedSimpArgs false
set_option linter.unusedVariables false
set_option maxRecDepth 8000
theorem nextA_cg {out own left : Int} {f g : Int → Int} (h : ∀ x,lowG out ≤ x → x ≤ left → f x = g x) {b : Int} (hb : 0 ≤ b ∧ b ≤ 499) : nextA out own left f b = nextA out own left g b:=by
 have hs:=score_nn hb
 unfold nextA
 split
 · rfl
 · split
   · rfl
   · exact h _ (by omega) (by omega)
theorem meanA_cg {r : Rk} {s : Bool} {own left : Int} {f g : Int → Int} (h : ∀ x,lowG r.out ≤ x → x ≤ left → f x = g x) {a : Am} (ha : AOk r.d a.beds) : meanA r s own left f a = meanA r s own left g a:=by
 unfold meanA
 congr 1
 exact List.map_congr_left fun b hb=>nextA_cg h (ha.bed b hb)
theorem valA_cg {r : Rk} (hr : ROk r) {s : Bool} {T U : List Int} {own : Int} {st : Nat} (h : ∀ x,x ≤ st → T.getD x 0 = U.getD x 0) : ∀ (k : Nat) (left : Int),lowG r.out ≤ left → left ≤ st → valA r s T own k left = valA r s U own k left
 | 0,left,h1,h2=>h _ (by omega)
 | k + 1, left, h1, h2 => by
   unfold valA
   congr 1
   exact List.map_congr_left fun a ha=>meanA_cg (fun x q1 q2=>valA_cg hr h k x q1 (by omega)) (hr.aims a ha)
theorem holds_cg {r : Rk} (hr : ROk r) {s : Bool} {T U : List Int} {st : Nat} (hlo : lowG r.out ≤ st) (h : ∀ x,x ≤ st → T.getD x 0 = U.getD x 0) : holdsA r s T st = holdsA r s U st:=by
 have h1:=h st (Nat.le_refl _)
 have h2:=valA_cg hr (s:=s) (own:=U.getD st 0) h 3 st hlo (Int.le_refl _)
 unfold holdsA
 rw [h1,h2]
theorem numA_false {r : Rk} (hr : ROk r) {nums : List Int} {st : Nat} (hn : ∀ x ∈ nums,VOk x) (hst : st < nums.length) (hlo : lowG r.out ≤ st) :
 numA r false nums st = 2000000000 ∨ ((1000000 ≤ numA r false nums st ∧ numA r false nums st ≤ 1000000000) ∧ holdsA r false (nums.set st (numA r false nums st)) st = true ∧ holdsA r false (nums.set st (numA r false nums st - 1)) st = false):=by
 obtain ⟨g1,g2,g3,g4⟩:=srch_spec (fun k=>holdsA r false (nums.set st (1000000 + (k : Int))) st) 0 999000001 (by omega) fun a b q1 q2 q3 q4=>holds_up hr hn hst hlo (by omega) (by omega) (by omega) q4
 unfold numA
 simp only [Bool.false_eq_true,if_false]
 generalize srch (fun k=>holdsA r false (nums.set st (1000000 + (k : Int))) st) 0 999000001 = k at *
 by_cases h : 1000000000 < 1000000 + (k : Int)
 · left; rw [if_pos h]
 · right
   rw [if_neg h]
   refine ⟨by omega,g4 (by omega),?_⟩
   by_cases hk : k = 0
   · subst hk
     have hv:=valA_le hr (s:=false) (set_vok hn st (n:=999999) (.inl ⟨by omega,by omega⟩)) (own:=999999) (.inl ⟨by omega,by omega⟩) 3 st
     have e : (1000000 : Int) + ((0 : Nat) : Int) - 1 = 999999:=by omega
     rw [e]
     unfold holdsA
     simp only [Bool.false_eq_true,if_false,getD_set hst,if_true];rw [Bool.or_eq_false_iff,decide_eq_false_iff_not,decide_eq_false_iff_not]
     omega
   · have:=g3 (k - 1) (by omega) (by omega)
     have e : (1000000 : Int) + ((k - 1 : Nat) : Int) = 1000000 + (k : Int) - 1:=by omega
     rw [e] at this
     exact this
theorem numA_true {r : Rk} (hr : ROk r) {nums : List Int} {st : Nat} (hn : ∀ x ∈ nums,VOk x) (hst : st < nums.length) (hlo : lowG r.out ≤ st) :
 (0 ≤ numA r true nums st ∧ numA r true nums st ≤ 1000000000) ∧ holdsA r true (nums.set st (numA r true nums st)) st = true ∧ (numA r true nums st < 1000000000 → holdsA r true (nums.set st (numA r true nums st + 1)) st = false):=by
 obtain ⟨g1,g2,g3,g4⟩:=srch_spec (fun k=>!holdsA r true (nums.set st ((k : Int) + 1)) st) 0 1000000000 (by omega) fun a b q1 q2 q3 q4=>by
  simp only [Bool.not_eq_true'] at q4 ⊢
  cases hb : holdsA r true (nums.set st ((b : Int) + 1)) st
  · rfl
  · have:=holds_down hr hn hst hlo (a:=(a : Int) + 1) (by omega) (by omega) (by omega) hb
    rw [q4] at this; cases this
 unfold numA
 simp only [if_true]
 generalize srch (fun k=>!holdsA r true (nums.set st ((k : Int) + 1)) st) 0 1000000000 = k at *
 refine ⟨by omega,?_,fun h=>?_⟩
 · by_cases hk : k = 0
   · subst hk
     have hv:=valA_le hr (s:=true) (set_vok hn st (n:=0) (.inl ⟨by omega,by omega⟩)) (own:=0) (.inl ⟨by omega,by omega⟩) 3 st
     show holdsA r true (nums.set st 0) st = true
     unfold holdsA
     simp only [if_true,getD_set hst];rw [decide_eq_true_eq]
     omega
   · have:=g3 (k - 1) (by omega) (by omega)
     have e : ((k - 1 : Nat) : Int) + 1 = (k : Int):=by omega
     simp only [e,Bool.not_eq_false'] at this
     exact this
 · have:=g4 (by omega)
   simpa using this
theorem tabA_pre {r : Rk} (s : Bool) (i : Nat) (x : Nat) (hx : x ≤ (lowG r.out).toNat + i) : ∀ m,(tabA r s (i + 1 + m)).getD x 0 = (tabA r s (i + 1)).getD x 0
 | 0=>rfl
 | m + 1 => by
   rw [← tabA_pre s i x hx m]
   show ((tabA r s (i + 1 + m)).set ((lowG r.out).toNat + (i + 1 + m)) _).getD x 0 = _
   rw [List.getD_eq_getElem?_getD,List.getElem?_set_ne (by omega),← List.getD_eq_getElem?_getD]
theorem tabT_at {r : Rk} (hr : ROk r) (s : Bool) {st : Nat} (h1 : lowG r.out ≤ st) (h2 : (st : Int) ≤ r.start) : ∃ nums : List Int,(∀ x ∈ nums,VOk x) ∧ st < nums.length ∧ (tabT r s).getD st 0 = numA r s nums st ∧ (∀ v,∀ x,x ≤ st → ((tabT r s).set st v).getD x 0 = (nums.set st v).getD x 0) ∧
 (∀ x,x ≤ st → (tabT r s).getD x 0 = (nums.set st (numA r s nums st)).getD x 0):=by
 have hl:=lowG_le r.out
 obtain ⟨i,hi⟩ : ∃ i,st = (lowG r.out).toNat + i:=⟨st - (lowG r.out).toNat,by omega⟩
 have hic : i < cntA r:=by unfold cntA; omega
 obtain ⟨_,e2,e3⟩:=tab_eq hr s i (by omega)
 obtain ⟨_,f2,f3⟩:=tab_eq hr s (cntA r) (Nat.le_refl _)
 have hlen : st < (tabA r s i).length:=by rw [e2]; omega
 obtain ⟨m,hm⟩ : ∃ m,cntA r = i + 1 + m:=⟨cntA r - (i + 1),by omega⟩
 have hpre:=fun x (hx : x ≤ st)=>tabA_pre (r:=r) s i x (by omega) m
 rw [← hm] at hpre
 have hsu : tabA r s (i + 1) = (tabA r s i).set st (numA r s (tabA r s i) st):=by rw [hi]; rfl
 rw [hsu] at hpre
 have hlT : st < (tabT r s).length:=by unfold tabT; rw [f2]; omega
 refine ⟨tabA r s i,e3,hlen,?_,fun v x hx=>?_,hpre⟩
 · have:=hpre st (Nat.le_refl _)
   rw [getD_set hlen,if_pos rfl] at this
   exact this
 · rw [getD_set hlT,getD_set hlen]
   split
   · rfl
   · rename_i hne
     have:=hpre x hx
     rw [getD_set hlen,if_neg hne] at this
     exact this
theorem tabT_holds {r : Rk} (hr : ROk r) (s : Bool) {st : Nat} (h1 : lowG r.out ≤ st) (h2 : (st : Int) ≤ r.start) : holdsA r s (tabT r s) st = true:=by
 obtain ⟨nums,hn,hst,g1,g2,g3⟩:=tabT_at hr s h1 h2
 rw [holds_cg hr h1 g3]
 cases s
 · rcases numA_false hr hn hst h1 with h | ⟨_,h,_⟩
   · rw [h]
     unfold holdsA
     simp only [Bool.false_eq_true,if_false,getD_set hst,if_true,decide_true,Bool.or_true]
   · exact h
 · exact (numA_true hr hn hst h1).2.1
theorem tabT_less {r : Rk} (hr : ROk r) {st : Nat} (h1 : lowG r.out ≤ st) (h2 : (st : Int) ≤ r.start) (hne : (tabT r false).getD st 0 ≠ 2000000000) : (1000000 ≤ (tabT r false).getD st 0 ∧ (tabT r false).getD st 0 ≤ 1000000000) ∧ holdsA r false ((tabT r false).set st ((tabT r false).getD st 0 - 1)) st = false:=by
 obtain ⟨nums,hn,hst,g1,g2,g3⟩:=tabT_at hr false h1 h2
 rw [holds_cg hr h1 (g2 _),g1]
 rw [g1] at hne
 rcases numA_false hr hn hst h1 with h | ⟨h,_,h'⟩
 · exact absurd h hne
 · exact ⟨h,h'⟩
theorem tabT_more {r : Rk} (hr : ROk r) {st : Nat} (h1 : lowG r.out ≤ st) (h2 : (st : Int) ≤ r.start) : (0 ≤ (tabT r true).getD st 0 ∧ (tabT r true).getD st 0 ≤ 1000000000) ∧ ((tabT r true).getD st 0 < 1000000000 → holdsA r true ((tabT r true).set st ((tabT r true).getD st 0 + 1)) st = false):=by
 obtain ⟨nums,hn,hst,g1,g2,g3⟩:=tabT_at hr true h1 h2
 rw [holds_cg hr h1 (g2 _),g1]
 obtain ⟨a,b,c⟩:=numA_true hr hn hst h1
 exact ⟨a,c⟩
theorem tabT_len {r : Rk} (hr : ROk r) (s : Bool) : ((tabT r s).length : Int) = r.start + 1:=by
 have:=(tab_eq hr s (cntA r) (Nat.le_refl _)).2.1
 have hs:=hr.start
 unfold tabT; rw [this]; omega
def OrdP (p q x y : Int) : Prop:=y = 2000000000 ∨ (x ≠ 2000000000 ∧ x * p ≤ y * q)
theorem atI_mem (v : Int) : ∀ (l : List Int) (k : Nat),v ∈ l → ∃ i,i < l.length ∧ atI v l k = ((k + i : Nat) : Int) ∧ l[i]? = some v
 | [],_,h=>by simp at h
 | x :: l, k, h => by
   by_cases hx : v = x
   · exact ⟨0,by simp,by unfold atI; rw [if_pos hx]; simp,by simp [hx]⟩
   · have hm : v ∈ l:=by simpa [hx] using h
     obtain ⟨i,h1,h2,h3⟩:=atI_mem v l (k + 1) hm
     refine ⟨i + 1,by simp; omega,?_,by simpa using h3⟩
     unfold atI; rw [if_neg hx,h2]; congr 1; omega
structure OthOk (n : Nat) (L : List (Int × Int)) (Y : List Int) (a w e : Int) : Prop where
 err : e = 0 ∨ e = 7
 len : L.length = n
 ne : 1 ≤ Y.length
 lenY : Y.length ≤ n
 found : e = 0 → a ∈ Y
 each : ∀ x ∈ L,0 ≤ x.1 ∧ x.1 ≤ x.2 ∧ (e = 0 → w ≤ x.2) ∧ (e ≠ 0 → x.2 = 2000000000)
 pos : e = 0 → ∃ (i : Nat) (x : Int),a = i ∧ i < L.length ∧ L[i]? = some (x,w)
def idxT (l : List Bd) (bs : List Int) (at_ k : Nat) : Nat:=if k < 8 then ((byteL bs (at_ + k)).toNat + k) % l.length else k % l.length
def moreT (l : List Bd) (bs : List Int) (at_ k : Nat) (x : List Int × Int) : Int :=
 if k < 8 then min (takeU l (idxT l bs at_ k) x) (1 + byteL bs (at_ + k + 1) % 7) else takeU l (idxT l bs at_ k) x
def itT (l : List Bd) (bs : List Int) (at_ : Nat) (den : Int) : Nat → List Int × Int
 | 0=>(l.map (·.lo),den - loS l)
 | k + 1=>giveU (idxT l bs at_ k) (moreT l bs at_ k (itT l bs at_ den k)) (itT l bs at_ den k)
def truthT (l : List Bd) (bs : List Int) (at_ : Nat) (den : Int) : List Int:=(itT l bs at_ den (8 + l.length)).1
theorem idxT_lt {l : List Bd} {bs : List Int} {at_ k : Nat} (h : 1 ≤ l.length) : idxT l bs at_ k < l.length:=by
 unfold idxT
 split <;> exact Nat.mod_lt _ (by omega)
theorem moreT_le {l : List Bd} {bs : List Int} (hb : ∀ n ∈ bs,0 ≤ n ∧ n ≤ 255) (hl : 1 ≤ l.length) {den : Int} {x : List Int × Int} (h : TI l den x) (at_ k : Nat) : 0 ≤ moreT l bs at_ k x ∧ moreT l bs at_ k x ≤ takeU l (idxT l bs at_ k) x:=by
 have h1:=h.take (idxT_lt (bs:=bs) (at_:=at_) (k:=k) hl)
 have h2:=byteL_le hb (at_ + k + 1)
 unfold moreT
 split <;> omega
theorem ti_itT {l : List Bd} {bs : List Int} (hb : ∀ n ∈ bs,0 ≤ n ∧ n ≤ 255) (hl : 1 ≤ l.length) {den : Int} (h : loS l ≤ den) (h1 : ∀ c ∈ l,c.lo ≤ c.hi) (at_ : Nat) : ∀ k,TI l den (itT l bs at_ den k)
 | 0 => by
   refine ⟨by simp [itT],fun i hi=>?_,?_,?_⟩
   · have:=h1 _ (bAt_mem hi)
     have e : (itT l bs at_ den 0).1.getD i 0 = (bAt l i).lo:=by simp [itT,bAt,List.getD,List.getElem?_eq_getElem hi]
     rw [e]; omega
   · simp only [itT,loS]; omega
   · simp only [itT]; omega
 | k + 1=>(ti_itT hb hl h h1 at_ k).give (idxT_lt hl) (moreT_le hb hl (ti_itT hb hl h h1 at_ k) at_ k)
theorem rot5 {n i : Nat} (h1 : 1 ≤ n) (h5 : n ≤ 5) (hi : i < n) : ∃ t,t < n ∧ (8 + t) % n = i:=by
 rcases (by omega : n = 1 ∨ n = 2 ∨ n = 3 ∨ n = 4 ∨ n = 5) with h | h | h | h | h <;> subst h
 · exact ⟨0,by omega,by omega⟩
 · exact ⟨i,by omega,by omega⟩
 · exact ⟨(i + 1) % 3,by omega,by omega⟩
 · exact ⟨i,by omega,by omega⟩
 · exact ⟨(i + 2) % 5,by omega,by omega⟩
theorem itT_stay {l : List Bd} {bs : List Int} (hb : ∀ n ∈ bs,0 ≤ n ∧ n ≤ 255) (hl : 1 ≤ l.length) {den : Int} (h : loS l ≤ den) (h1 : ∀ c ∈ l,c.lo ≤ c.hi) {at_ k : Nat} (h0 : (itT l bs at_ den k).2 = 0) : ∀ d,itT l bs at_ den (k + d) = itT l bs at_ den k
 | 0=>rfl
 | d + 1 => by
   have ih:=itT_stay hb hl h h1 h0 d
   have hT:=ti_itT hb hl h h1 at_ k
   show giveU (idxT l bs at_ (k + d)) (moreT l bs at_ (k + d) (itT l bs at_ den (k + d))) (itT l bs at_ den (k + d)) = _
   rw [ih]
   have hi:=idxT_lt (bs:=bs) (at_:=at_) (k:=k + d) hl
   have hz : takeU l (idxT l bs at_ (k + d)) (itT l bs at_ den k) = 0:=by
    have:=hT.each _ hi
    unfold takeU; omega
   have hm : moreT l bs at_ (k + d) (itT l bs at_ den k) = 0:=by
    have:=moreT_le hb hl hT at_ (k + d)
    rw [hz] at this; omega
   rw [hm,give_zero (by rw [hT.len]; exact hi)]
theorem itT_full {l : List Bd} {bs : List Int} (hb : ∀ n ∈ bs,0 ≤ n ∧ n ≤ 255) (hl : 1 ≤ l.length) {den : Int} (h : loS l ≤ den) (h1 : ∀ c ∈ l,c.lo ≤ c.hi) (at_ : Nat) : ∀ j,(itT l bs at_ den (8 + j)).2 = 0 ∨ ∀ t,t < j → (itT l bs at_ den (8 + j)).1.getD ((8 + t) % l.length) 0 = (bAt l ((8 + t) % l.length)).hi
 | 0=>.inr fun t ht=>by omega
 | j + 1 => by
   have ih:=itT_full hb hl h h1 at_ j
   have hT:=ti_itT hb hl h h1 at_ (8 + j)
   rcases ih with ih | ih
   · left
     have:=itT_stay hb hl h h1 ih 1
     rw [show 8 + (j + 1) = 8 + j + 1 by omega,this]; exact ih
   have hi : idxT l bs at_ (8 + j) = (8 + j) % l.length:=by unfold idxT; rw [if_neg (by omega)]
   have hlt:=idxT_lt (bs:=bs) (at_:=at_) (k:=8 + j) hl
   have hm : moreT l bs at_ (8 + j) (itT l bs at_ den (8 + j)) = takeU l ((8 + j) % l.length) (itT l bs at_ den (8 + j)):=by unfold moreT; rw [if_neg (by omega),hi]
   have hs : itT l bs at_ den (8 + (j + 1)) = giveU ((8 + j) % l.length) (takeU l ((8 + j) % l.length) (itT l bs at_ den (8 + j))) (itT l bs at_ den (8 + j)):=by
    show giveU (idxT l bs at_ (8 + j)) (moreT l bs at_ (8 + j) (itT l bs at_ den (8 + j))) (itT l bs at_ den (8 + j)) = _
    rw [hm,hi]
   rw [hi] at hlt
   have hlen:=hT.len
   have he:=hT.each _ hlt
   rw [hs]
   generalize itT l bs at_ den (8 + j) = y at *
   by_cases c : y.2 ≤ (bAt l ((8 + j) % l.length)).hi - y.1.getD ((8 + j) % l.length) 0
   · left; simp only [giveU,takeU]; omega
   · right
     intro t ht
     simp only [giveU,takeU];rw [Th.getD_set _ _ _ _ (by omega)]
     split
     · rename_i e; rw [e]; omega
     · rename_i e
       by_cases htj : t = j
       · subst htj; exact absurd rfl e
       · exact ih t (by omega)
theorem itT_done {l : List Bd} {bs : List Int} (hb : ∀ n ∈ bs,0 ≤ n ∧ n ≤ 255) (hl : 1 ≤ l.length ∧ l.length ≤ 5) {den : Int} (h : loS l ≤ den) (h1 : ∀ c ∈ l,c.lo ≤ c.hi) (hh : den ≤ hiS l) (at_ : Nat) : (itT l bs at_ den (8 + l.length)).2 = 0:=by
 rcases itT_full hb hl.1 h h1 at_ l.length with hf | hf
 · exact hf
 have hT:=ti_itT hb hl.1 h h1 at_ (8 + l.length)
 have hs:=hT.sum
 have h0:=hT.left
 have hy : ∀ i,i < l.length → (itT l bs at_ den (8 + l.length)).1.getD i 0 = (bAt l i).hi:=fun i hi=>by
  obtain ⟨t,ht,e⟩:=rot5 hl.1 hl.2 hi
  have:=hf t ht
  rw [e] at this; exact this
 have h2 : (itT l bs at_ den (8 + l.length)).1.sum = hiS l:=by
  rw [← sum_getD,hT.len]
  have e : hiS l = ((List.range l.length).map fun i=>(bAt l i).hi).sum:=by
   conv=>lhs; rw [hiS,← range_bAt l,List.map_map]
   rfl
  rw [e]
  congr 1
  exact List.map_congr_left fun i hi=>hy i (List.mem_range.1 hi)
 omega
theorem truthT_ok {l : List Bd} {bs : List Int} (hb : ∀ n ∈ bs,0 ≤ n ∧ n ≤ 255) (hl : 1 ≤ l.length ∧ l.length ≤ 5) {den : Int} (h : loS l ≤ den) (h1 : ∀ c ∈ l,c.lo ≤ c.hi) (hh : den ≤ hiS l) (at_ : Nat) : TruthN den l (truthT l bs at_ den):=by
 have hT:=ti_itT hb hl.1 h h1 at_ (8 + l.length)
 have hd:=itT_done hb hl h h1 hh at_
 refine ⟨hT.len,hT.each,?_⟩
 have:=hT.sum
 unfold truthT; omega
structure A24 (a : Am) : Prop where
 ok : AOk 24 a.beds
 len : 1 ≤ a.beds.length ∧ a.beds.length ≤ 5
theorem A24.truth {a : Am} (h : A24 a) {bs : List Int} (hb : ∀ n ∈ bs,0 ≤ n ∧ n ≤ 255) (at_ : Nat) : TruthN 24 a.beds (truthT a.beds bs at_ 24):=by
 have h1:=h.ok.each
 have ht:=h.ok.truth cmpI []
 have:=truth_le ht
 exact truthT_ok hb h.len this.1 (fun c hc=>(h1 c hc).2.1) this.2 at_
theorem ti_le8 {l : List Bd} {den : Int} {x : List Int × Int} (h : TI l den x) (h0 : ∀ c ∈ l,0 ≤ c.lo) : x.2 ≤ den:=by
 have hs:=h.sum
 have : 0 ≤ x.1.sum:=sum_nn fun v hv=>by
  obtain ⟨i,hi⟩:=List.getElem?_of_mem hv
  have hil:=(List.getElem?_eq_some_iff.1 hi).1
  have h1:=(h.each i (by rw [← h.len]; exact hil)).1
  rw [List.getD_eq_getElem?_getD,hi] at h1
  have h2:=h0 _ (bAt_mem (show i < l.length by rw [← h.len]; exact hil))
  simp only [Option.getD_some] at *
  omega
 omega
def aimN (r : Rk) (i : Nat) : Am:=r.aims.getD i ⟨0,[]⟩
def aftV (r : Rk) (own left : Int) (dart : List Int) (b : Int) : Int:=nextA r.out own left (fun x=>dart.getD x.toNat 0) b
def rowM (r : Rk) (up : Int) (bs : List Int) (own : Int) (left darts : Nat) (dart : List Int) (a : Am) : Int :=
 (up * 23 + dotV (truthT a.beds bs (5 * left + darts) 24) (a.beds.map fun b=>aftV r own (left : Int) dart b.b)) / 24
def cellV (r : Rk) (up : Int) (bs : List Int) (ai : Nat → Nat → Nat) (own : Int) (s darts : Nat) (dart : List Int) (left : Nat) : Int :=
 if (left : Int) < lowG r.out ∨ (darts = 3 ∧ left < s) then 0 else rowM r up bs own left darts dart (aimN r (ai left darts))
def rowV (r : Rk) (up : Int) (bs : List Int) (ai : Nat → Nat → Nat) (own : Int) (s darts : Nat) (dart : List Int) : List Int :=
 (List.range (s + 1)).map (cellV r up bs ai own s darts dart)
def dartV (r : Rk) (up : Int) (bs : List Int) (ai : Nat → Nat → Nat) (visits : List Int) (s : Nat) : Nat → List Int
 | 0=>visits
 | k + 1=>rowV r up bs ai (visits.getD s 0) s (k + 1) (dartV r up bs ai visits s k)
def visV (r : Rk) (up : Int) (bs : List Int) (ai : Nat → Nat → Nat) (visits : List Int) (s : Nat) : Int:=1000000 + (dartV r up bs ai visits s 3).getD s 0
theorem rowV_get {r : Rk} {up : Int} {bs : List Int} {ai : Nat → Nat → Nat} {own : Int} {s darts : Nat} {dart : List Int} {left : Nat} (h : left ≤ s) : (rowV r up bs ai own s darts dart).getD left 0 = cellV r up bs ai own s darts dart left:=by
 unfold rowV
 rw [List.getD_eq_getElem?_getD,List.getElem?_map,List.getElem?_range (by omega)]; rfl
theorem rowV_len {r : Rk} {up : Int} {bs : List Int} {ai : Nat → Nat → Nat} {own : Int} {s darts : Nat} {dart : List Int} : (rowV r up bs ai own s darts dart).length = s + 1:=by simp [rowV]
theorem aftV_le {r : Rk} {own left : Int} {dart : List Int} {M : Int} (hM : 0 ≤ M) (ho : 0 ≤ own ∧ own ≤ M) (hd : ∀ x,0 ≤ dart.getD x 0 ∧ dart.getD x 0 ≤ M) (b : Int) : 0 ≤ aftV r own left dart b ∧ aftV r own left dart b ≤ M:=by
 unfold aftV nextA
 split
 · exact ⟨Int.le_refl _,hM⟩
 · split
   · exact ho
   · exact hd _
theorem rowM_le {r : Rk} {up : Int} (hup : 0 ≤ up ∧ up ≤ 1) {bs : List Int} (hb : ∀ n ∈ bs,0 ≤ n ∧ n ≤ 255) {own : Int} {left darts : Nat} {dart : List Int} {M : Int} (hM : 0 ≤ M) (ho : 0 ≤ own ∧ own ≤ M) (hd : ∀ x,0 ≤ dart.getD x 0 ∧ dart.getD x 0 ≤ M) {a : Am} (ha : A24 a) :
 0 ≤ rowM r up bs own left darts dart a ∧ rowM r up bs own left darts dart a ≤ M:=by
 have ht:=ha.truth hb (5 * left + darts)
 have hn:=truth_nn ht fun c hc=>(ha.ok.each c hc).1
 have hs:=ht.sum
 unfold rowM
 have:=dotV_le (xs:=truthT a.beds bs (5 * left + darts) 24) (ys:=a.beds.map fun b=>aftV r own (left : Int) dart b.b) (M:=M) hn (fun y hy=>by
  obtain ⟨b,_,rfl⟩:=List.mem_map.1 hy
  exact aftV_le hM ho hd _) hM
 rw [hs] at this
 omega
theorem dart_le {r : Rk} {up : Int} (hup : 0 ≤ up ∧ up ≤ 1) {bs : List Int} (hb : ∀ n ∈ bs,0 ≤ n ∧ n ≤ 255) {ai : Nat → Nat → Nat} {visits : List Int} {s : Nat} {M : Int} (hM : 0 ≤ M) (hv : ∀ x,0 ≤ visits.getD x 0 ∧ visits.getD x 0 ≤ M)
 (ha : ∀ left darts,lowG r.out ≤ (left : Nat) → left ≤ s → (darts = 3 → left = s) → 1 ≤ darts → darts ≤ 3 → A24 (aimN r (ai left darts))) : ∀ k,k ≤ 3 → ∀ x,0 ≤ (dartV r up bs ai visits s k).getD x 0 ∧ (dartV r up bs ai visits s k).getD x 0 ≤ M
 | 0,_,x=>hv x
 | k + 1, hk, x => by
   have ih:=dart_le hup hb (ai:=ai) (s:=s) hM hv ha k (by omega)
   simp only [dartV]
   by_cases hx : x ≤ s
   · rw [rowV_get hx]
     unfold cellV
     split
     · exact ⟨Int.le_refl _,hM⟩
     · rename_i hc
       exact rowM_le hup hb hM (hv s) ih (ha x (k + 1) (by omega) hx (by omega) (by omega) (by omega))
   · rw [List.getD_eq_getElem?_getD,List.getElem?_eq_none (by rw [rowV_len]; omega)]
     exact ⟨Int.le_refl _,hM⟩
theorem vis_le {r : Rk} {up : Int} (hup : 0 ≤ up ∧ up ≤ 1) {bs : List Int} (hb : ∀ n ∈ bs,0 ≤ n ∧ n ≤ 255) {ai : Nat → Nat → Nat} {visits : List Int} {s : Nat} {M : Int} (hM : 0 ≤ M) (hv : ∀ x,0 ≤ visits.getD x 0 ∧ visits.getD x 0 ≤ M)
 (ha : ∀ left darts,lowG r.out ≤ (left : Nat) → left ≤ s → (darts = 3 → left = s) → 1 ≤ darts → darts ≤ 3 → A24 (aimN r (ai left darts))) : 0 ≤ visV r up bs ai visits s ∧ visV r up bs ai visits s ≤ M + 1000000:=by
 have:=dart_le hup hb hM hv ha 3 (by omega) s
 unfold visV; omega
theorem row_low {r : Rk} (hr : ROk r) (hd : r.d = 24) {bs : List Int} (hb : ∀ n ∈ bs,0 ≤ n ∧ n ≤ 255) {own own' : Int} {left darts : Nat} {f : Int → Int} {dart : List Int} (ho : own ≠ 2000000000 ∧ own ≤ own') (vo : VOk own) (vf : ∀ x,VOk (f x))
 (hf : ∀ x : Int,lowG r.out ≤ x → x ≤ left → f x ≠ 2000000000 ∧ f x ≤ dart.getD x.toNat 0) {a : Am} (ha : a ∈ r.aims) (h24 : A24 a) :
 meanA r true own left f a ≠ 2000000000 ∧ meanA r true own left f a ≤ rowM r 1 bs own' left darts dart a:=by
 have ht:=h24.truth hb (5 * left + darts)
 have hA:=h24.ok
 unfold meanA rowM
 rw [hd]
 have hea : ∀ i (h : i < a.beds.length),(a.beds.map fun b=>nextA r.out own left f b.b).getD i 0 = nextA r.out own left f (bAt a.beds i).b:=fun i hi=>by
  obtain ⟨b,hb'⟩:=opt_of_lt hi
  simp [List.getD,hb',bAt]
 have hea' : ∀ i (h : i < a.beds.length),(a.beds.map fun b=>aftV r own' (left : Int) dart b.b).getD i 0 = aftV r own' left dart (bAt a.beds i).b:=fun i hi=>by
  obtain ⟨b,hb'⟩:=opt_of_lt hi
  simp [List.getD,hb',bAt]
 have hle : ∀ b : Int,0 ≤ b ∧ b ≤ 499 → nextA r.out own left f b ≠ 2000000000 ∧ nextA r.out own left f b ≤ aftV r own' left dart b:=fun b hb'=>by
  have hs:=score_nn hb'
  unfold aftV nextA
  split
  · exact ⟨by omega,Int.le_refl _⟩
  · split
    · exact ho
    · exact hf _ (by omega) (by omega)
 have hvo : ∀ x ∈ (a.beds.map fun b=>nextA r.out own left f b.b),VOk x:=fun x hx=>by
  obtain ⟨b,_,rfl⟩:=List.mem_map.1 hx
  exact nextA_vok vo vf _
 have hlu : (a.beds.map fun b=>nextA r.out own left f b.b).length = a.beds.length:=by simp
 have hlv : (a.beds.map fun b=>aftV r own' (left : Int) dart b.b).length = a.beds.length:=by simp
 generalize (a.beds.map fun b=>nextA r.out own left f b.b) = u at *
 generalize (a.beds.map fun b=>aftV r own' (left : Int) dart b.b) = v at *
 have hnb : ¬ (List.range a.beds.length).any (badA a.beds 24 u) = true:=fun hh=>by
  obtain ⟨i,hi,hbi⟩:=List.any_eq_true.1 hh
  have hil:=List.mem_range.1 hi
  simp only [badA,Bool.and_eq_true,decide_eq_true_eq] at hbi
  rw [hea i hil] at hbi
  exact (hle _ (hA.bed _ (bAt_mem hil))).1 hbi.1
 have em : meanS true 24 a.beds u = meanLo 24 a.beds (u.map zN) / 24:=by unfold meanS; rw [if_neg hnb]; rfl
 have hbd:=(filled_bound (d:=24) (l:=a.beds) (vals:=u.map zN) (by rw [List.length_map,hlu]) ht).1
 have hbb:=meanZ_bound true hA (M:=1000000000) (by omega) (v:=u.map zN) fun x hx=>by
  obtain ⟨y,hy,rfl⟩:=List.mem_map.1 hx
  exact zN_ok (hvo y hy)
 have hbb' : meanLo 24 a.beds (u.map zN) / 24 ≤ 1000000000:=by
  have:=hbb.2
  unfold meanZ at this
  simpa using this
 have hdl:=dotV_leI (y:=truthT a.beds bs (5 * left + darts) 24) (u:=u.map zN) (v:=v) (c:=0) (by rw [ht.len]; simp [hlu]) (by rw [ht.len]; simp [hlv]) fun i hi=>by
  have hil : i < a.beds.length:=by rw [← ht.len]; exact hi
  refine ⟨?_,fun h0=>?_⟩
  · have h1:=(ht.each i hil).1
    have h2:=(hA.each _ (bAt_mem hil)).1
    omega
  · rw [getD_mapz,hea i hil,hea' i hil]
    have:=hle _ (hA.bed _ (bAt_mem hil))
    unfold zN
    rw [if_neg this.1]; omega
 rw [em]
 omega
theorem val_low {r : Rk} (hr : ROk r) (hd : r.d = 24) {bs : List Int} (hb : ∀ n ∈ bs,0 ≤ n ∧ n ≤ 255) {ai : Nat → Nat → Nat} {T visits : List Int} {s : Nat} {own : Int} (hT : ∀ x ∈ T,VOk x) (vo : VOk own) (ho : own ≠ 2000000000 ∧ own ≤ visits.getD s 0)
 (h : ∀ x : Nat,lowG r.out ≤ x → x ≤ s → T.getD x 0 ≠ 2000000000 ∧ T.getD x 0 ≤ visits.getD x 0)
 (ha : ∀ left darts,lowG r.out ≤ (left : Nat) → left ≤ s → (darts = 3 → left = s) → 1 ≤ darts → darts ≤ 3 → aimN r (ai left darts) ∈ r.aims ∧ A24 (aimN r (ai left darts))) :
 ∀ k,k ≤ 3 → ∀ left : Nat,lowG r.out ≤ left → left ≤ s → (k = 3 → left = s) → valA r true T own k left ≠ 2000000000 ∧ valA r true T own k left ≤ (dartV r 1 bs ai visits s k).getD left 0
 | 0, _, left, h1, h2, _ => by
   have:=h left h1 h2
   simpa [valA,dartV] using this
 | k + 1, hk, left, h1, h2, h3 => by
   have ih:=val_low hr hd hb (ai:=ai) hT vo ho h ha k (by omega)
   have hlg:=lowG_le r.out
   obtain ⟨g1,g2⟩:=ha left (k + 1) h1 h2 (by omega) (by omega) hk
   simp only [dartV];rw [rowV_get h2]
   unfold cellV
   rw [if_neg (by omega)]
   have hrow:=row_low hr hd hb (own:=own) (own':=visits.getD s 0) (left:=left) (darts:=k + 1) (f:=valA r true T own k) (dart:=dartV r 1 bs ai visits s k) ho vo (valA_vok hr hT vo k) (fun x q1 q2=>by
    have:=ih x.toNat (by omega) (by omega) (by omega)
    rwa [show ((x.toNat : Nat) : Int) = x by omega] at this) g1 g2
   have hl:=(foldl_min (r.aims.map (meanA r true own left (valA r true T own k))) 2000000000).2.1 _ (List.mem_map.2 ⟨_,g1,rfl⟩)
   have hv:=meanA_vok (r:=r) (s:=true) (left:=(left : Int)) vo (valA_vok hr (s:=true) hT vo k) (hr.aims _ g1)
   have hl' : valA r true T own (k + 1) left ≤ meanA r true own left (valA r true T own k) (aimN r (ai left (k + 1))):=hl
   unfold VOk at hv
   exact ⟨by omega,Int.le_trans hl' hrow.2⟩
theorem row_up {r : Rk} (hr : ROk r) (hd : r.d = 24) {bs : List Int} (hb : ∀ n ∈ bs,0 ≤ n ∧ n ≤ 255) {own own' : Int} {left darts : Nat} {f : Int → Int} {dart : List Int} (ho : own' ≤ own)
 (hf : ∀ x : Int,lowG r.out ≤ x → x ≤ left → dart.getD x.toNat 0 ≤ f x) {a : Am} (ha : a ∈ r.aims) (h24 : A24 a) (hn : meanA r false own left f a ≠ 2000000000) :
 rowM r 0 bs own' left darts dart a ≤ meanA r false own left f a:=by
 have ht:=h24.truth hb (5 * left + darts)
 have hA:=h24.ok
 unfold meanA at hn ⊢
 unfold rowM
 rw [hd] at hn ⊢
 have hea : ∀ i (h : i < a.beds.length),(a.beds.map fun b=>nextA r.out own left f b.b).getD i 0 = nextA r.out own left f (bAt a.beds i).b:=fun i hi=>by
  obtain ⟨b,hb'⟩:=opt_of_lt hi
  simp [List.getD,hb',bAt]
 have hea' : ∀ i (h : i < a.beds.length),(a.beds.map fun b=>aftV r own' (left : Int) dart b.b).getD i 0 = aftV r own' left dart (bAt a.beds i).b:=fun i hi=>by
  obtain ⟨b,hb'⟩:=opt_of_lt hi
  simp [List.getD,hb',bAt]
 have hle : ∀ b : Int,0 ≤ b ∧ b ≤ 499 → aftV r own' left dart b ≤ nextA r.out own left f b:=fun b hb'=>by
  have hs:=score_nn hb'
  unfold aftV nextA
  split
  · exact Int.le_refl _
  · split
    · exact ho
    · exact hf _ (by omega) (by omega)
 have hlu : (a.beds.map fun b=>nextA r.out own left f b.b).length = a.beds.length:=by simp
 have hlv : (a.beds.map fun b=>aftV r own' (left : Int) dart b.b).length = a.beds.length:=by simp
 generalize (a.beds.map fun b=>nextA r.out own left f b.b) = u at *
 generalize (a.beds.map fun b=>aftV r own' (left : Int) dart b.b) = v at *
 have hnb : ¬ (List.range a.beds.length).any (badA a.beds 24 u) = true:=fun hh=>hn (by unfold meanS; rw [if_pos hh])
 have em : meanS false 24 a.beds u = (meanHi 24 a.beds (u.map zN) + (24 - 1)) / 24:=by unfold meanS; rw [if_neg hnb]; rfl
 have hbd:=(filled_bound (d:=24) (l:=a.beds) (vals:=u.map zN) (by rw [List.length_map,hlu]) ht).2
 have hdl:=dotV_leI (y:=truthT a.beds bs (5 * left + darts) 24) (u:=v) (v:=u.map zN) (c:=0) (by rw [ht.len]; simp [hlv]) (by rw [ht.len]; simp [hlu]) fun i hi=>by
  have hil : i < a.beds.length:=by rw [← ht.len]; exact hi
  refine ⟨?_,fun h0=>?_⟩
  · have h1:=(ht.each i hil).1
    have h2:=(hA.each _ (bAt_mem hil)).1
    omega
  · have hc:=truth_can ht hil
    have hg : u.getD i 0 ≠ 2000000000:=fun hb2=>hnb (List.any_eq_true.2 ⟨i,List.mem_range.2 hil,by simp only [badA,Bool.and_eq_true,decide_eq_true_eq]; exact ⟨hb2,by omega⟩⟩)
    rw [getD_mapz]
    unfold zN
    rw [if_neg hg,hea i hil,hea' i hil]
    have:=hle _ (hA.bed _ (bAt_mem hil))
    omega
 rw [em]
 omega
def listI (r : Rk) (s left darts : Nat) : Nat:=(aimQ r ⟨s,left,darts⟩).1.toNat
theorem val_up {r : Rk} (hr : ROk r) (hd : r.d = 24) {bs : List Int} (hb : ∀ n ∈ bs,0 ≤ n ∧ n ≤ 255) {ai : Nat → Nat → Nat} {T visits : List Int} {s : Nat} {own M : Int} (hM : 0 ≤ M ∧ M ≤ 2000000000) (hT : ∀ x ∈ T,VOk x) (vo : VOk own) (ho : visits.getD s 0 ≤ own)
 (hv : ∀ x,0 ≤ visits.getD x 0 ∧ visits.getD x 0 ≤ M)
 (h : ∀ x : Nat,lowG r.out ≤ x → x ≤ s → visits.getD x 0 ≤ T.getD x 0)
 (ha : ∀ left darts,lowG r.out ≤ (left : Nat) → left ≤ s → (darts = 3 → left = s) → 1 ≤ darts → darts ≤ 3 → aimN r (ai left darts) ∈ r.aims ∧ A24 (aimN r (ai left darts)))
 (hb' : ∀ left k,lowG r.out ≤ (left : Nat) → left ≤ s → (k = 2 → left = s) → k ≤ 2 → valA r false T own (k + 1) left ≠ 2000000000 → meanA r false own left (valA r false T own k) (aimN r (ai left (k + 1))) = valA r false T own (k + 1) left) :
 ∀ k,k ≤ 3 → ∀ left : Nat,lowG r.out ≤ left → left ≤ s → (k = 3 → left = s) → (dartV r 0 bs ai visits s k).getD left 0 ≤ valA r false T own k left
 | 0, _, left, h1, h2, _ => by
   have:=h left h1 h2
   simpa [valA,dartV] using this
 | k + 1, hk, left, h1, h2, h3 => by
   have ih:=val_up hr hd hb (ai:=ai) hM hT vo ho hv h ha hb' k (by omega)
   have hbd:=dart_le (r:=r) (up:=0) (by omega) hb (ai:=ai) (s:=s) hM.1 hv (fun left darts q1 q2 q3 q4 q5=>(ha left darts q1 q2 q3 q4 q5).2) (k + 1) hk left
   by_cases hn : valA r false T own (k + 1) left = 2000000000
   · rw [hn]; omega
   have hlg:=lowG_le r.out
   obtain ⟨g1,g2⟩:=ha left (k + 1) h1 h2 (by omega) (by omega) hk
   have hsel:=hb' left k h1 h2 (by omega) (by omega) hn
   simp only [dartV];rw [rowV_get h2]
   unfold cellV
   rw [if_neg (by omega),← hsel]
   refine row_up hr hd hb ho (fun x q1 q2=>?_) g1 g2 (by rw [hsel]; exact hn)
   have:=ih x.toNat (by omega) (by omega) (by omega)
   rwa [show ((x.toNat : Nat) : Int) = x by omega] at this
def beds10 : List Int:=[0,101,102,103,105,125,201,202,204,301]
def bedX (k : Nat) : Int:=beds10.getD k 0
structure Rx where
 which : List Int
 low : List Int
 high : List Int
 start : Int
 out : Int
structure WfRx (x : Rx) : Prop where
 which : ∀ n ∈ x.which,0 ≤ n ∧ n ≤ 65535
 low : ∀ n ∈ x.low,0 ≤ n ∧ n ≤ 255
 high : ∀ n ∈ x.high,0 ≤ n ∧ n ≤ 255
 start : 0 ≤ x.start ∧ x.start ≤ 255
 out : 0 ≤ x.out ∧ x.out ≤ 255
def whX (x : Rx) (i : Nat) : Int:=if i < x.which.length then bitOr .u16 (x.which.getD i 0) (shlI .u16 1 (IntKind.u64.wrap ((6 + i % 3 : Nat) : Int))) else 64
structure Sx where
 l : List Bd
 sum : Int
 high : Int
 n : Nat
def addX (x : Rx) (w : Int) (k : Nat) (p : Sx) : Sx :=
 if p.l.length < 5 ∧ hasB w k = true then
  ⟨⟨bedX k, min (byteL x.low p.n % 6) (24 - p.sum), min 24 (min (byteL x.low p.n % 6) (24 - p.sum) + byteL x.high p.n % 9)⟩ :: p.l,
    p.sum + min (byteL x.low p.n % 6) (24 - p.sum),p.high + min 24 (min (byteL x.low p.n % 6) (24 - p.sum) + byteL x.high p.n % 9),p.n + 1⟩ else p
def iterX (x : Rx) (w : Int) (n : Nat) : Nat → Sx
 | 0=>⟨[],0,0,n⟩
 | j + 1=>addX x w (9 - j) (iterX x w n j)
theorem iterX_full (x : Rx) (w : Int) (n j : Nat) (h : ¬ (iterX x w n j).l.length < 5) : ∀ m,iterX x w n (j + m) = iterX x w n j
 | 0=>rfl
 | m + 1 => by
   show addX x w (9 - (j + m)) (iterX x w n (j + m)) = _
   rw [iterX_full x w n j h m]
   unfold addX
   rw [if_neg fun h'=>h h'.1]
theorem iterX_n (x : Rx) (w : Int) (n : Nat) : ∀ j,(iterX x w n j).n ≤ n + j
 | 0=>Nat.le_refl _
 | j + 1 => by
   have ih:=iterX_n x w n j
   show (addX x w (9 - j) (iterX x w n j)).n ≤ _
   unfold addX
   split
   · simp only; omega
   · omega
def fixX (p : Sx) : List Bd:=if p.high < 24 then (match p.l with | []=>[] | c :: l=>⟨c.b,c.lo,min 24 (c.hi + 24 - p.high)⟩ :: l) else p.l
def nX (x : Rx) : Nat → Nat
 | 0=>0
 | i + 1=>(iterX x (whX x i) (nX x i) 10).n
theorem nX_le (x : Rx) : ∀ i,nX x i ≤ 10 * i
 | 0=>Nat.le_refl _
 | i + 1 => by
   have ih:=nX_le x i
   have:=iterX_n x (whX x i) (nX x i) 10
   show (iterX x (whX x i) (nX x i) 10).n ≤ _
   omega
def sX (x : Rx) (i : Nat) : Sx:=iterX x (whX x i) (nX x i) 10
def aimX (x : Rx) (i : Nat) : Am:=⟨bedX (6 + i % 3),fixX (sX x i)⟩
def cntX (x : Rx) (most : Nat) : Nat:=max 1 (min x.which.length most)
def aimsX (x : Rx) (i : Nat) : List Am:=(List.range i).map (aimX x)
theorem aimsX_succ (x : Rx) (i : Nat) : aimsX x (i + 1) = aimsX x i ++ [aimX x i]:=by simp only [aimsX,List.range_succ,List.map_append,List.map_cons,List.map_nil]
theorem cntX_lt (x : Rx) (most i : Nat) : i < cntX x most ↔ i = 0 ∨ (i < x.which.length ∧ i < most):=by unfold cntX; omega
def ruleX (x : Rx) (most : Nat) : Rk:=⟨24,aimsX x (cntX x most),2 + x.start % 5,x.out % 3⟩
theorem bedX_lt {j k : Nat} (h : j < k) (hk : k < 10) : bedX j < bedX k:=by
 have : ∀ k,k < 10 → ∀ j,j < k → bedX j < bedX k:=by decide
 exact this k hk j h
theorem bedX_ok {k : Nat} (hk : k < 10) : bedX k = 0 ∨ bedOk (bedX k) = true:=by
 have : ∀ k,k < 10 → (bedX k = 0 ∨ bedOk (bedX k) = true):=by decide
 exact this k hk
structure IterX (j : Nat) (p : Sx) : Prop where
 len : p.l.length ≤ 5
 lenj : p.l.length ≤ j
 each : ∀ c ∈ p.l,(∃ k,10 ≤ k + j ∧ k < 10 ∧ c.b = bedX k) ∧ 0 ≤ c.lo ∧ c.lo ≤ c.hi ∧ c.hi ≤ 24
 up : p.l.Pairwise fun a b=>a.b < b.b
 sum : loS p.l = p.sum
 sum0 : 0 ≤ p.sum ∧ p.sum ≤ 24
 high : hiS p.l = p.high
 high0 : 0 ≤ p.high ∧ p.high ≤ 24 * p.l.length
theorem iterX_ok {x : Rx} (hx : WfRx x) (w : Int) (n : Nat) : ∀ j,j ≤ 10 → IterX j (iterX x w n j)
 | 0,_=>⟨by simp [iterX],by simp [iterX],by simp [iterX],by simp [iterX],by simp [iterX,loS],by simp [iterX],by simp [iterX,hiS],by simp [iterX]⟩
 | j + 1, hj => by
   have ih:=iterX_ok hx w n j (by omega)
   show IterX (j + 1) (addX x w (9 - j) (iterX x w n j))
   generalize iterX x w n j = p at *
   obtain ⟨l,s,h,n'⟩:=p
   obtain ⟨h1,h2,h3,h4,h5,h6,h7,h8⟩:=ih
   simp only at h1 h2 h3 h4 h5 h6 h7 h8
   unfold addX
   by_cases hc : l.length < 5 ∧ hasB w (9 - j) = true
   · rw [if_pos hc]
     have bl:=byteL_le hx.low n'
     have bh:=byteL_le hx.high n'
     simp only
     generalize byteL x.low n' = bl' at *
     generalize byteL x.high n' = bh' at *
     obtain ⟨lo,hlo⟩ : ∃ lo,lo = min (bl' % 6) (24 - s):=⟨_,rfl⟩
     obtain ⟨hi,hhi⟩ : ∃ hi,hi = min 24 (lo + bh' % 9):=⟨_,rfl⟩
     rw [← hlo,← hhi]
     refine ⟨by simp; omega,by simp; omega,?_,?_,?_,?_,?_,?_⟩
     · intro c hcm
       rcases List.mem_cons.1 hcm with rfl | hcm
       · exact ⟨⟨9 - j,by omega,by omega,rfl⟩,by simp only; omega,by simp only; omega,by simp only; omega⟩
       · obtain ⟨⟨k,k1,k2,k3⟩,e⟩:=h3 c hcm
         exact ⟨⟨k,by omega,k2,k3⟩,e⟩
     · refine List.pairwise_cons.2 ⟨fun c hcm=>?_,h4⟩
       obtain ⟨⟨k,k1,k2,k3⟩,e⟩:=h3 c hcm
       simp only
       rw [k3]
       exact bedX_lt (by omega) k2
     · simp only [loS,List.map_cons,List.sum_cons] at h5 ⊢
       omega
     · simp only; omega
     · simp only [hiS,List.map_cons,List.sum_cons] at h7 ⊢
       omega
     · simp only [List.length_cons]; omega
   · rw [if_neg hc]
     exact ⟨h1,by simp only; omega,fun c hcm=>by
      obtain ⟨⟨k,k1,k2,k3⟩,e⟩:=h3 c hcm
      exact ⟨⟨k,by omega,k2,k3⟩,e⟩,h4,h5,h6,h7,h8⟩
theorem wrap16 {m : Nat} (h : m < 65536) : IntKind.u16.wrap (m : Int) = m:=by
 unfold IntKind.wrap
 simp [IntKind.bits,IntKind.signed]
 omega
theorem wrap64s : ∀ q : Nat,q < 16 → IntKind.u64.wrap (q : Int) = q:=by decide
theorem shl16 : ∀ q : Nat,q < 16 → shlI .u16 1 (q : Int) = ((2 ^ q : Nat) : Int):=by decide
theorem hasB_or {v : Int} (hv : 0 ≤ v ∧ v ≤ 65535) {q : Nat} (hq : q < 16) : hasB (bitOr .u16 v (shlI .u16 1 (IntKind.u64.wrap (q : Int)))) q = true:=by
 obtain ⟨n,rfl⟩ : ∃ n : Nat,v = n:=⟨v.toNat,by omega⟩
 have hn : n < 2 ^ 16:=by omega
 have hp : 2 ^ q < 2 ^ 16:=Nat.pow_lt_pow_right (by omega) hq
 rw [wrap64s q hq,shl16 q hq]
 have e1 : bitOr .u16 (n : Int) ((2 ^ q : Nat) : Int) = ((n ||| 2 ^ q : Nat) : Int):=by
  unfold bitOr
  have hb : IntKind.u16.bits = 16:=rfl
  rw [hb,BitVec.ofInt_natCast,BitVec.ofInt_natCast,BitVec.toNat_or,BitVec.toNat_ofNat,BitVec.toNat_ofNat,Nat.mod_eq_of_lt hn,Nat.mod_eq_of_lt hp]
  exact wrap16 (Nat.or_lt_two_pow (n:=16) hn hp)
 rw [e1]
 unfold hasB
 rw [wrap64s q hq]
 have e2 : shrI .u16 ((n ||| 2 ^ q : Nat) : Int) (q : Int) = (((n ||| 2 ^ q) / 2 ^ q : Nat) : Int):=by
  unfold shrI
  have hb : IntKind.u16.bits = 16:=rfl
  have hm : min (q : Int).toNat 16 = q:=by omega
  rw [hb,hm,Int.fdiv_eq_ediv_of_nonneg _ (by exact Int.le_of_lt (Int.pow_pos (by decide)))]
  norm_cast
 rw [e2]
 have hlt:=Nat.or_lt_two_pow (n:=16) hn hp
 have ht : Nat.testBit (n ||| 2 ^ q) q = true:=by simp [Nat.testBit_or,Nat.testBit_two_pow_self]
 rw [Nat.testBit_eq_decide_div_mod_eq,decide_eq_true_eq] at ht
 generalize (n ||| 2 ^ q) / 2 ^ q = y at *
 have e3 : bitAnd .u16 (y : Int) 1 = ((y % 2 : Nat) : Int):=by
  unfold bitAnd
  have hb : IntKind.u16.bits = 16:=rfl
  have h1 : (1 : Int) = ((1 : Nat) : Int):=rfl
  rw [hb,h1,BitVec.ofInt_natCast,BitVec.ofInt_natCast,BitVec.toNat_and,BitVec.toNat_ofNat,BitVec.toNat_ofNat,Nat.mod_eq_of_lt (show 1 < 2 ^ 16 by decide),Nat.and_one_is_mod]
  rw [wrap16 (by omega)]
  congr 1; omega
 rw [e3,ht]
 rfl
theorem bedsX_ne {x : Rx} (hx : WfRx x) {i : Nat} (hi : i = 0 ∨ i < x.which.length) (n : Nat) : (iterX x (whX x i) n 10).l ≠ []:=by
 have hq : hasB (whX x i) (6 + i % 3) = true:=by
  unfold whX
  by_cases h : i < x.which.length
  · rw [if_pos h]
    have hm : x.which.getD i 0 ∈ x.which:=by
     rw [List.getD_eq_getElem?_getD,List.getElem?_eq_getElem h]; exact List.getElem_mem h
    have:=hasB_or (hx.which _ hm) (q:=6 + i % 3) (by omega)
    exact this
  · rw [if_neg h]
    have : i = 0:=by omega
    subst this
    decide
 generalize whX x i = w at *
 obtain ⟨j,hj⟩ : ∃ j,j = 3 - i % 3:=⟨_,rfl⟩
 have hI:=iterX_ok hx w n j (by omega)
 have hstep : (iterX x w n (j + 1)).l ≠ []:=by
  show (addX x w (9 - j) (iterX x w n j)).l ≠ []
  have hl:=hI.lenj
  have e : 9 - j = 6 + i % 3:=by omega
  rw [e]
  unfold addX
  rw [if_pos ⟨by omega,hq⟩]
  simp
 have hmono : ∀ m,(iterX x w n (j + 1 + m)).l ≠ []:=by
  intro m
  induction m with
  | zero=>exact hstep
  | succ m ih =>
    show (addX x w (9 - (j + 1 + m)) (iterX x w n (j + 1 + m))).l ≠ []
    unfold addX
    split
    · simp
    · exact ih
 have:=hmono (9 - j)
 have e : j + 1 + (9 - j) = 10:=by omega
 rwa [e] at this
theorem seqOk_up : ∀ (l : List Bd) (p : Option Int),(∀ c ∈ l,c.b = 0 ∨ bedOk c.b = true) → l.Pairwise (fun a b=>a.b < b.b) → (∀ q,p = some q → ∀ c ∈ l,q < c.b) → seqOk p l = true
 | [],_,_,_,_=>rfl
 | x :: l, p, h1, h2, h3 => by
   obtain ⟨h4,h5⟩:=List.pairwise_cons.1 h2
   simp only [seqOk,Bool.and_eq_true,Bool.or_eq_true,decide_eq_true_eq]
   refine ⟨⟨h1 x (by simp),?_⟩,seqOk_up l _ (fun c hc=>h1 c (by simp [hc])) h5 (fun q hq c hc=>by injection hq with hq; subst hq; exact h4 c hc)⟩
   cases p with
   | none=>rfl
   | some q=>simpa using h3 q rfl x (by simp)
theorem aimX_ok {x : Rx} (hx : WfRx x) {i : Nat} (hi : i = 0 ∨ i < x.which.length) : aimOk 24 (aimX x i) = true ∧ (aimX x i).beds.length ≤ 5:=by
 have hI:=iterX_ok hx (whX x i) (nX x i) 10 (Nat.le_refl _)
 have hne:=bedsX_ne hx hi (nX x i)
 unfold aimX sX
 generalize iterX x (whX x i) (nX x i) 10 = p at *
 obtain ⟨l,s,h,n'⟩:=p
 obtain ⟨h1,h2,h3,h4,h5,h6,h7,h8⟩:=hI
 simp only at h1 h2 h3 h4 h5 h6 h7 h8 hne
 have hat : bedOk (bedX (6 + i % 3)) = true:=by
  have : ∀ k,k < 3 → bedOk (bedX (6 + k)) = true:=by decide
  exact this _ (Nat.mod_lt _ (by omega))
 have main : ∀ l' : List Bd,l' ≠ [] → l'.length ≤ 5 → (∀ c ∈ l',(∃ k,k < 10 ∧ c.b = bedX k) ∧ 0 ≤ c.lo ∧ c.lo ≤ c.hi ∧ c.hi ≤ 24) → l'.Pairwise (fun a b=>a.b < b.b) → loS l' ≤ 24 → 24 ≤ hiS l' →
  aimOk 24 ⟨bedX (6 + i % 3),l'⟩ = true ∧ l'.length ≤ 5:=by
  intro l' n1 n2 n3 n4 n5 n6
  refine ⟨?_,n2⟩
  unfold aimOk
  simp only [Bool.and_eq_true,decide_eq_true_eq,Bool.not_eq_true']
  refine ⟨⟨⟨⟨⟨hat,?_⟩,?_⟩,?_⟩,n5⟩,n6⟩
  · cases l' with
    | nil=>exact absurd rfl n1
    | cons _ _=>rfl
  · exact seqOk_up l' none (fun c hc=>by
     obtain ⟨⟨k,k1,k2⟩,_⟩:=n3 c hc
     rw [k2]; exact bedX_ok k1) n4 (fun q hq=>by cases hq)
  · refine List.all_eq_true.2 fun c hc=>?_
    obtain ⟨_,e1,e2,e3⟩:=n3 c hc
    simp [e1,e2,e3]
 cases l with
 | nil=>exact absurd rfl hne
 | cons c l =>
   obtain ⟨q1,q2⟩:=List.pairwise_cons.1 h4
   unfold fixX
   simp only
   have hc:=h3 c (by simp)
   have hl0 : 0 ≤ hiS l:=by
    have : ∀ l : List Bd,(∀ c ∈ l,0 ≤ c.hi) → 0 ≤ hiS l:=by
     intro l
     induction l with
     | nil=>intro _; simp [hiS]
     | cons y l ih =>
       intro hy
       have a1:=hy y (by simp)
       have a2:=ih fun c hc=>hy c (by simp [hc])
       simp only [hiS,List.map_cons,List.sum_cons] at a2 ⊢
       omega
    exact this l fun c hc=>by have:=h3 c (by simp [hc]); omega
   simp only [loS,hiS,List.map_cons,List.sum_cons] at h5 h7 hl0
   split
   · refine main _ (by simp) (by simpa using h1) ?_ ?_ ?_ ?_
     · intro d hd
       rcases List.mem_cons.1 hd with rfl | hd
       · obtain ⟨⟨k,k1,k2,k3⟩,e1,e2,e3⟩:=hc
         exact ⟨⟨k,k2,k3⟩,e1,by simp only; omega,by simp only; omega⟩
       · obtain ⟨⟨k,k1,k2,k3⟩,e⟩:=h3 d (by simp [hd])
         exact ⟨⟨k,k2,k3⟩,e⟩
     · exact List.pairwise_cons.2 ⟨q1,q2⟩
     · simp only [loS,List.map_cons,List.sum_cons]; omega
     · simp only [hiS,List.map_cons,List.sum_cons]; omega
   · refine main _ (by simp) (by simpa using h1) ?_ h4 ?_ ?_
     · intro d hd
       obtain ⟨⟨k,k1,k2,k3⟩,e⟩:=h3 d hd
       exact ⟨⟨k,k2,k3⟩,e⟩
     · simp only [loS,List.map_cons,List.sum_cons]; omega
     · simp only [hiS,List.map_cons,List.sum_cons]; omega
theorem ruleX_aim {x : Rx} (hx : WfRx x) {most : Nat} {a : Am} (ha : a ∈ (ruleX x most).aims) : aimOk 24 a = true ∧ a.beds.length ≤ 5:=by
 obtain ⟨i,hi,rfl⟩:=List.mem_map.1 ha
 rw [List.mem_range,cntX_lt] at hi
 exact aimX_ok hx (by omega)
theorem ruleX_len (x : Rx) (most : Nat) : (ruleX x most).aims.length = cntX x most:=by simp [ruleX,aimsX]
theorem ruleX_check {x : Rx} (hx : WfRx x) {most : Nat} (hm : most ≤ 20) : checkR (ruleX x most) = 0:=by
 have hl:=ruleX_len x most
 have ha:=fun a (h : a ∈ (ruleX x most).aims)=>ruleX_aim hx h
 have hs:=hx.start
 have ho:=hx.out
 have hcv : checkV (ruleX x most).d (ruleX x most).aims = 0:=by
  unfold checkV
  have hc : cntX x most ≤ 20 ∧ 1 ≤ cntX x most:=by unfold cntX; omega
  rw [if_neg,if_neg,if_pos]
  · exact List.all_eq_true.2 fun a h=>(ha a h).1
  · simp only [Bool.or_eq_true,List.isEmpty_iff,Bool.not_eq_true',Bool.and_eq_false_iff,decide_eq_false_iff_not]
    have : (ruleX x most).aims ≠ []:=fun h=>by rw [h] at hl; simp at hl; omega
    have hd : (ruleX x most).d = 24:=rfl
    simp [this,hd]
  · simp only [Bool.or_eq_true,decide_eq_true_eq,List.any_eq_true,not_or,not_exists,not_and]
    refine ⟨by omega,fun a h=>?_⟩
    have:=(ha a h).2
    omega
 unfold checkR
 rw [if_pos hcv,if_pos]
 simp only [ruleX]
 omega
theorem wf_aim {a : Am} (h : aimOk 24 a = true) : WfA a:=by
 obtain ⟨h1,h2,h3,h4,h5,h6⟩:=aimOk_facts h
 have hb : ∀ b : Int,bedOk b = true → I64 b:=fun b hb=>by
  unfold bedOk at hb
  simp only [Bool.or_eq_true,Bool.and_eq_true,decide_eq_true_eq] at hb
  unfold I64; omega
 refine ⟨hb _ h1,fun c hc=>?_⟩
 have hc2:=List.all_eq_true.1 h4 c hc
 simp only [Bool.and_eq_true,decide_eq_true_eq] at hc2
 refine ⟨?_,by unfold I64; omega,by unfold I64; omega⟩
 rcases seqOk_bed _ _ h3 c hc with h | h
 · rw [h]; unfold I64; omega
 · exact hb _ h
theorem ruleX_wf {x : Rx} (hx : WfRx x) {most : Nat} : WfL (ruleX x most).d (ruleX x most).aims:=by
 refine ⟨?_,fun a ha=>wf_aim (ruleX_aim hx ha).1⟩
 show I64 24
 unfold I64; omega
theorem byteOf_ok (l : List Int) (i : Nat) : ACalls Try.prog 30 [u8s l,i64 i] (.it .u8 (byteL l i)):=by
 refine acalls_st (rs:=[.it .u8 (byteL l i)]) [.tmp 4] Try.func30 rfl (by kernel_rfl) Try.ntmps30 rfl (by simp) rfl fun C vs=>?_
 refine zq ?_
 refine zb fun K hK=>?_;simp only [go_sem];refine hK _ ?_;clear hK K;refine zw (zk [0,1]) ?_;simp only [go_sem]
 by_cases h : l = []
 · subst h
   repeat refine zq ?_
   refine zb fun K hK=>?_;simp only [go_sem];refine hK _ ?_;clear hK K;refine zw (zk [0,1,7]) ?_;simp only [go_sem]
   refine zc rfl (fun hc=>?_) (fun hc=>?_) <;> (try simp only [go_sem] at hc)
   refine zq ?_
   refine zb fun K hK=>?_;simp only [go_sem];refine hK _ ?_;clear hK K;refine zw (zk [4]) ?_;simp only [go_sem];refine ze ?_;simp only [go_sem]
   rfl
 · have hp : 0 < l.length:=List.length_pos_iff.2 h
   have c : ((l.length : Int) == 0) = false:=by simp; omega
   have hm : i % l.length < l.length:=Nat.mod_lt _ hp
   obtain ⟨x,hx⟩:=opt_of_lt hm
   have ht : (i : Int).tmod (l.length : Int) = ((i % l.length : Nat) : Int):=(Int.ofNat_tmod _ _).symm
   repeat refine zq ?_
   refine zb fun K hK=>?_;simp only [go_sem,c]
   intros
   refine hK _ ?_;clear hK K;refine zw (zk [0,1,7]) ?_;simp only [go_sem]
   refine zc rfl (fun hc=>?_) (fun hc=>?_) <;> (try simp only [go_sem] at hc)
   refine zx ?_
   try simp only [go_sem]
   refine zq ?_
   refine zb fun K hK=>?_;simp only [go_sem,ht,hx,hm]
   intros
   refine ⟨by omega,?_⟩
   refine hK _ ?_;clear hK K;refine zw (zk [4]) ?_;simp only [go_sem];refine ze ?_;simp only [go_sem]
   simp [byteL,h,List.getD_eq_getElem?_getD,hx]
theorem beds_ok : ACalls Try.prog 59 [] (ints beds10):=by
 refine acalls_st (rs:=[ints beds10]) [.tmp 0] Try.func59 rfl (by kernel_rfl) Try.ntmps59 rfl (by simp) rfl fun C vs=>?_
 refine zq ?_
 refine zb fun K hK=>?_;simp only [go_sem];refine hK _ ?_;clear hK K;refine zw (zk []) ?_;simp only [go_sem]
 refine zq ?_
 refine zb fun K hK=>?_;simp only [go_sem];refine hK _ ?_;clear hK K;refine zw (zk [0]) ?_;simp only [go_sem];refine ze ?_;simp only [go_sem]
 try rfl
theorem lowest_ok (g : Int) : ACalls Try.prog 25 [i64 g] (i64 (lowG g)):=by
 refine acalls_st (rs:=[i64 (lowG g)]) [.tmp 2] Try.func25 rfl (by kernel_rfl) Try.ntmps25 rfl (by simp) rfl fun C vs=>?_
 refine zq ?_
 refine zb fun K hK=>?_;simp only [go_sem];refine hK _ ?_;clear hK K;refine zw (zk [0]) ?_;simp only [go_sem]
 repeat refine zq ?_
 refine zb fun K hK=>?_;simp only [go_sem];refine hK _ ?_;clear hK K;refine zw (zk [4]) ?_;simp only [go_sem]
 by_cases h : g = 0
 · have e : (g == 0) = true:=by simpa using h
   have e2 : lowG g = 1:=by unfold lowG; rw [if_pos h]
   rw [e,e2]
   refine zc rfl (fun hc=>?_) (fun hc=>?_) <;> (try simp only [go_sem] at hc)
   refine zq ?_
   refine zb fun K hK=>?_;simp only [go_sem];refine hK _ ?_;clear hK K;refine zw (zk [2]) ?_;simp only [go_sem];refine ze ?_;simp only [go_sem]
 · have e : (g == 0) = false:=by simpa using h
   have e2 : lowG g = 2:=by unfold lowG; rw [if_neg h]
   rw [e,e2]
   refine zc rfl (fun hc=>?_) (fun hc=>?_) <;> (try simp only [go_sem] at hc)
   refine zx ?_
   try simp only [go_sem]
   refine zq ?_
   refine zb fun K hK=>?_;simp only [go_sem];refine hK _ ?_;clear hK K;refine zw (zk [2]) ?_;simp only [go_sem];refine ze ?_;simp only [go_sem]
set_option maxHeartbeats 2000000
theorem truthA_ok (a : Am) (bs : List Int) (at_ : Nat) (ha : A24 a) (hb : ∀ n ∈ bs,0 ≤ n ∧ n ≤ 255) (hat : at_ ≤ 1000000) :
 ACalls Try.prog 31 [.ag [i64 a.at_,bedsR a.beds],u8s bs,i64 (at_ : Int)] (ints (truthT a.beds bs at_ 24)):=by
 have hl:=ha.len
 have h1 : ∀ c ∈ a.beds,0 ≤ c.lo ∧ c.lo ≤ c.hi ∧ c.hi ≤ 24:=ha.ok.each
 have htl:=truth_le (ha.ok.truth cmpI [])
 have h:=htl.1
 have hh:=htl.2
 have hT:=ti_itT (bs:=bs) hb hl.1 h (fun c hc=>(h1 c hc).2.1) at_
 have hdone:=itT_done (bs:=bs) hb hl h (fun c hc=>(h1 c hc).2.1) hh at_
 obtain ⟨L,hL⟩ : ∃ L,L = a.beds:=⟨_,rfl⟩
 rw [← hL] at h hl h1 hT hdone hh ⊢
 have hlo : ∀ i,i ≤ L.length → (0 ≤ loS (L.take i) ∧ loS (L.take i) ≤ 24):=fun i hi=>by
  have h2:=loS_le (B:=24) (l:=L.take i) fun c hc=>by have:=h1 c (List.mem_of_mem_take hc); omega
  have h3:=loS_le (B:=24) (l:=L.drop i) fun c hc=>by have:=h1 c (List.mem_of_mem_drop hc); omega
  have h4 : loS L = loS (L.take i) + loS (L.drop i):=by
   have:=congrArg loS (List.take_append_drop i L).symm
   rw [this]
   simp only [loS,List.map_append,List.sum_append]
  omega
 refine acalls_st (rs:=[ints (truthT L bs at_ 24)]) [.tmp 6] Try.func31 rfl (by kernel_rfl) Try.ntmps31 rfl (by simp) rfl fun C vs=>?_
 refine zq ?_
 refine zb fun K hK=>?_;simp only [go_sem];refine hK _ ?_;clear hK K;refine zw (sub_frzP 3 3 [i64 a.at_,bedsR L] (by omega) rfl rfl) ?_;refine zw (zk [1,2,3]) ?_;simp only [go_sem]
 refine zq ?_
 refine zb fun K hK=>?_;simp only [go_sem];refine hK _ ?_;clear hK K;refine zw (zk [1,2,3,7,8]) ?_;simp only [go_sem];refine zw (sub_own 7 32 3 1 (by omega) rfl) ?_
 try simp only [go_sem]
 repeat refine zq ?_
 refine zb fun K hK=>?_;simp only [go_sem];refine hK _ ?_;clear hK K;refine zw (zk [1,2,3,7,8,9]) ?_;simp only [go_sem];refine zd ?_
 refine awp_uptoV (n:=101) L.length (fun i vs=>[(1,.r (u8s bs)),(2,.r (i64 (at_ : Int))),(3,.r (.rp [i64 a.at_,bedsR L])),(7,.os 32 (vs 32) 1 0 i),(8,.r (i64 (24 - loS (L.take i)))),(9,.r (i64 (i : Int)))])
  (fun i vs=>[(32,.arr 3 1 (((L.map (·.lo)).take i).map fun x=>[i64 x]))]) (fun _=>True) 0 (zj [] ?_ ?_) (Nat.zero_le _) trivial ?_
 · try simp only [go_sem]
   simp [loS]
 · try simp only [go_sem]
 · intro i vs hi _
   repeat refine zq ?_
   refine zb fun K hK=>?_;simp only [go_sem]
   intro _
   refine hK _ ?_;clear hK K;refine zw (zk [1,2,3,7,8,9,18]) ?_;simp only [go_sem]
   refine zc rfl (fun hc=>?_) (fun hc=>?_) <;> (try simp only [go_sem] at hc)
   · have hci : i < L.length:=by omega
     obtain ⟨c,hc1⟩:=opt_of_lt hci
     obtain ⟨g0,g1,g2⟩:=h1 c (mem_of_opt hc1)
     have hs0:=hlo i (by omega)
     have hs1:=hlo (i + 1) (by omega)
     have hlS : loS (L.take (i + 1)) = loS (L.take i) + c.lo:=by rw [take_of_opt hc1]; simp [loS]
     have hli : ((L.map (·.lo)).take i).length = i:=by rw [List.length_take]; simp; omega
     have hMt : (L.map (·.lo)).take (i + 1) = (L.map (·.lo)).take i ++ [c.lo]:=take_of_opt (by simp [hc1])
     refine zx ?_
     try simp only [go_sem]
     refine zq ?_
     refine zd ?_
     refine zq ?_
     refine zb fun K hK=>?_;simp only [go_sem,hc1,hci,bedR,hli]
     refine ⟨by omega,?_⟩
     refine hK _ ?_;clear hK K;refine zw (zk [1,2,3,7,8,9]) ?_;simp only [go_sem];refine zb fun K hK=>?_;simp only [go_sem,hc1,hci,bedR];(try simp (disch:=omega) only [zI]);refine hK _ ?_;clear hK K;refine zw (zk [1,2,3,7,8,9]) ?_;simp only [go_sem];refine zb fun K hK=>?_;simp only [go_sem];(try simp (disch:=omega) only [zI]);refine hK _ ?_;clear hK K
     try simp only [go_sem]
     refine ⟨by omega,zj [] ?_ ?_⟩
     · try simp only [go_sem]
       rw [hlS]
       omega
     · try simp only [go_sem]
       rw [hMt]
       simp
   · have hil : i = L.length:=by omega
     subst hil
     rw [List.take_length,List.take_of_length_le (by simp)]
     refine zf ?_;simp only [go_sem];refine zw (zk [1,2,3,7,8]) ?_;simp only [go_sem]
     repeat refine zq ?_
     refine zb fun K hK=>?_;simp only [go_sem];refine hK _ ?_;clear hK K;refine zw (zk [1,2,3,7,8,10]) ?_;simp only [go_sem];refine zd ?_
     refine awp_uptoV (n:=101) (8 + L.length) (fun k vs=>[(1,.r (u8s bs)),(2,.r (i64 (at_ : Int))),(3,.r (.rp [i64 a.at_,bedsR L])),(7,.os 32 (vs 32) 1 0 L.length),(8,.r (i64 (itT L bs at_ 24 k).2)),(10,.r (i64 (k : Int)))])
      (fun k vs=>[(32,.arr 3 1 ((itT L bs at_ 24 k).1.map fun x=>[i64 x]))]) (fun _=>True) 0 (zj [] ?_ ?_) (Nat.zero_le _) trivial ?_
     · try simp only [go_sem]
       rfl
     · try simp only [go_sem]
       rfl
     · intro k vs hk _
       have hTk:=hT k
       have hst : itT L bs at_ 24 (k + 1) = giveU (idxT L bs at_ k) (moreT L bs at_ k (itT L bs at_ 24 k)) (itT L bs at_ 24 k):=rfl
       have hx2:=ti_le8 hTk fun c hc=>(h1 c hc).1
       have hlk:=hTk.len
       have h00:=hTk.left
       have hse:=hTk.each
       by_cases hc0 : 0 < (itT L bs at_ 24 k).2
       · have hk31 : k < 8 + L.length:=by
          by_cases e : k = 8 + L.length
          · rw [e,hdone] at hc0; omega
          · omega
         generalize hxe : itT L bs at_ 24 k = x at *
         have e0 : decide (0 < x.2) = true:=by simpa using hc0
         have hbk:=byteOf_ok bs (at_ + k)
         have hbk1:=byteOf_ok bs (at_ + k + 1)
         have hbl:=byteL_le hb (at_ + k)
         have hbl1:=byteL_le hb (at_ + k + 1)
         have ca1 : ((at_ + k : Nat) : Int) = (at_ : Int) + (k : Int):=by omega
         have ca2 : ((at_ + k + 1 : Nat) : Int) = (at_ : Int) + (k : Int) + 1:=by omega
         rw [ca1] at hbk
         rw [ca2] at hbk1
         have hz0 : ((L.length : Int) == 0) = false:=beq_eq_false_iff_ne.2 (by omega)
         have hz1 : (L.length : Int) ≠ 0:=by omega
         have hix : (byteL bs (at_ + k) + (k : Int)).tmod (L.length : Int) = ((((byteL bs (at_ + k)).toNat + k) % L.length : Nat) : Int):=by
          rw [Int.tmod_eq_emod_of_nonneg (by omega)]
          rw [Int.natCast_emod]; congr 1; omega
         have hix2 : (k : Int).tmod (L.length : Int) = ((k % L.length : Nat) : Int):=(Int.ofNat_tmod _ _).symm
         have hm40 : (byteL bs (at_ + k + 1)).tmod 7 = byteL bs (at_ + k + 1) % 7:=Int.tmod_eq_emod_of_nonneg hbl1.1
         have hil:=idxT_lt (l:=L) (bs:=bs) (at_:=at_) (k:=k) hl.1
         have hmu:=moreT_le hb hl.1 hTk at_ k
         obtain ⟨j,hj⟩ : ∃ j,j = idxT L bs at_ k:=⟨_,rfl⟩
         repeat refine zq ?_
         refine zb fun K hK=>?_;simp only [go_sem,e0];refine hK _ ?_;clear hK K;refine zw (zk [1,2,3,7,8,10,41]) ?_;simp only [go_sem]
         refine zc rfl (fun hc=>?_) (fun hc=>?_) <;> (try simp only [go_sem] at hc)
         refine zx ?_
         try simp only [go_sem]
         refine zq ?_
         refine zd ?_
         refine zq ?_
         refine zb fun K hK=>?_;simp only [go_sem];(try simp (disch:=omega) only [zI])
         refine zh (hbk) rfl (by simp only [go_sem,i64,ints]) (by simp only [go_sem,i64,ints]) (by first | exact .inl rfl | exact .inr rfl) ?_
         (try simp only [go_sem]);(try simp (disch:=omega) only [zI])
         try simp only [go_sem,hix,hz0,hz1]
         try simp (disch:=omega) only [zI]
         intro _
         refine ⟨hz1,?_⟩
         refine hK _ ?_;clear hK K;refine zw (zk [1,2,3,7,8,10,11]) ?_;simp only [go_sem]
         repeat refine zq ?_
         refine zb fun K hK=>?_;simp only [go_sem];refine hK _ ?_;clear hK K;refine zw (zk [1,2,3,7,8,10,11,56]) ?_;simp only [go_sem]
         refine awp_joinV (n:=101) (fun (_ : Unit) vs=>[(1,.r (u8s bs)),(2,.r (i64 (at_ : Int))),(3,.r (.rp [i64 a.at_,bedsR L])),(7,.os 32 (vs 32) 1 0 L.length),(8,.r (i64 x.2)),(10,.r (i64 (k : Int))),(11,.r (i64 (j : Int)))]) (fun _ vs=>[(32,.arr 3 1 (x.1.map fun x=>[i64 x]))]) (fun _=>True) (fun _ h=>h) ?_ ?_
         · skip
           refine zc rfl (fun hc=>?_) (fun hc=>?_) <;> (try simp only [go_sem] at hc)
           · have h8 : ¬ k < 8:=by omega
             have hj8 : j = k % L.length:=by rw [hj]; unfold idxT; rw [if_neg h8]
             refine zb fun K hK=>?_;simp only [go_sem,hix2,hz0,hz1]
             intro _
             refine ⟨hz1,?_⟩
             refine hK _ ?_;clear hK K
             refine ⟨(),trivial,zj [] ?_ ?_⟩
             · try simp only [go_sem]
               rw [hj8]
             · try simp only [go_sem]
           · have h8 : k < 8:=by omega
             have hj8 : j = ((byteL bs (at_ + k)).toNat + k) % L.length:=by rw [hj]; unfold idxT; rw [if_pos h8]
             rw [← hj8]
             refine zx ?_
             try simp only [go_sem]
             refine ⟨(),zj [] ?_ ?_⟩
             · try simp only [go_sem]
             · try simp only [go_sem]
         intro _ vs _
         obtain ⟨mm,hmm⟩ : ∃ mm,mm = moreT L bs at_ k x:=⟨_,rfl⟩
         obtain ⟨c,hcj⟩:=opt_of_lt (show j < L.length by omega)
         obtain ⟨g0,g1,g2⟩:=h1 c (mem_of_opt hcj)
         obtain ⟨y,hy⟩ : ∃ y,y = x.1.getD j 0:=⟨_,rfl⟩
         have hyj : x.1[j]? = some y:=by rw [hy,List.getD_eq_getElem?_getD,List.getElem?_eq_getElem (by omega)]; rfl
         have hbj : bAt L j = c:=by simp [bAt,List.getD,hcj]
         have hye:=hse j (by omega)
         rw [hbj,← hy] at hye
         have htk : takeU L j x = min x.2 (c.hi - y):=by unfold takeU; rw [hbj,hy]
         have hme : mm = if k < 8 then min (min x.2 (c.hi - y)) (1 + byteL bs (at_ + k + 1) % 7) else min x.2 (c.hi - y):=by
          rw [hmm]; unfold moreT; rw [← hj,htk]
         have hjl : j < L.length:=by omega
         have hjx : j < x.1.length:=by omega
         have hws : IntKind.i64.wrap (c.hi - y) = c.hi - y:=by rw [zI] <;> omega
         have hgv : giveU (idxT L bs at_ k) (moreT L bs at_ k x) x = (x.1.set j (y + mm),x.2 - mm):=by rw [← hj,← hmm]; unfold giveU; rw [← hy]
         rw [← hj,htk,← hmm] at hmu
         refine zq ?_
         refine awp_dreg2 [(7,some 32),(3,none),(8,none),(11,none)] follows (by decide +kernel) (by kernel_rfl) (by simp only [keysOk,List.mem_cons,List.not_mem_nil,forall_eq_or_imp,Oc.keyOf,go_sem]; simp) fun K hK=>?_
         simp only [go_sem,hcj,hjl,bedR,hyj,hws,hlk,hjx];refine hK _ ?_;clear hK K;refine zw (zk [1,2,3,7,8,10,11,12]) ?_;simp only [go_sem]
         repeat refine zq ?_
         refine zb fun K hK=>?_;simp only [go_sem];refine hK _ ?_;clear hK K;refine zw (zk [1,2,3,7,8,10,11,12,76]) ?_;simp only [go_sem]
         refine awp_joinV (n:=101) (fun (_ : Unit) vs=>[(1,.r (u8s bs)),(2,.r (i64 (at_ : Int))),(3,.r (.rp [i64 a.at_,bedsR L])),(7,.os 32 (vs 32) 1 0 L.length),(8,.r (i64 x.2)),(10,.r (i64 (k : Int))),(11,.r (i64 (j : Int))),(12,.r (i64 mm))]) (fun _ vs=>[(32,.arr 3 1 (x.1.map fun x=>[i64 x]))]) (fun _=>True) (fun _ h=>h) ?_ ?_
         · skip
           refine zc rfl (fun hc=>?_) (fun hc=>?_) <;> (try simp only [go_sem] at hc)
           · have h30 : k < 8:=by omega
             rw [if_pos h30] at hme
             refine zb fun K hK=>?_;simp only [go_sem];(try simp (disch:=omega) only [zI])
             refine zh (hbk1) rfl (by simp only [go_sem,i64,ints]) (by simp only [go_sem,i64,ints]) (by first | exact .inl rfl | exact .inr rfl) ?_
             (try simp only [go_sem]);(try simp (disch:=omega) only [zI])
             try simp only [go_sem,hm40]
             try simp (disch:=omega) only [zI]
             refine hK _ ?_;clear hK K
             refine ⟨(),trivial,zj [] ?_ ?_⟩
             · try simp only [go_sem]
               rw [hme]
             · try simp only [go_sem]
           · have h30 : ¬ k < 8:=by omega
             rw [if_neg h30] at hme
             rw [← hme]
             refine zx ?_
             try simp only [go_sem]
             refine ⟨(),zj [] ?_ ?_⟩
             · try simp only [go_sem]
             · try simp only [go_sem]
         intro _ vs _
         have hst2 : itT L bs at_ 24 (k + 1) = (x.1.set j (y + mm),x.2 - mm):=by rw [hst,hgv]
         refine zb fun K hK=>?_;simp only [go_sem,hyj,hlk,hjx,hjl];(try simp (disch:=omega) only [zI]);refine hK _ ?_;clear hK K;refine zw (zk [1,2,3,7,8,10]) ?_;simp only [go_sem];refine zb fun K hK=>?_;simp only [go_sem];(try simp (disch:=omega) only [zI]);refine hK _ ?_;clear hK K
         try simp only [go_sem]
         refine ⟨by omega,zj [] ?_ ?_⟩
         · try simp only [go_sem]
           rw [hst2]
         · try simp only [go_sem]
           rw [hst2,List.map_set]
       · have hz : (itT L bs at_ 24 k).2 = 0:=by omega
         have e0 : decide (0 < (itT L bs at_ 24 k).2) = false:=decide_eq_false (by omega)
         have hst2 : truthT L bs at_ 24 = (itT L bs at_ 24 k).1:=by
          unfold truthT
          have:=itT_stay (bs:=bs) hb hl.1 h (fun c hc=>(h1 c hc).2.1) hz (8 + L.length - k)
          rw [show k + (8 + L.length - k) = 8 + L.length by omega] at this
          rw [this]
         repeat refine zq ?_
         refine zb fun K hK=>?_;simp only [go_sem,e0];refine hK _ ?_;clear hK K;refine zw (zk [7,41]) ?_;simp only [go_sem]
         refine zc rfl (fun hc=>?_) (fun hc=>?_) <;> (try simp only [go_sem] at hc)
         refine zf ?_;simp only [go_sem];refine zw (sub_frz 7 32 (ty:=3) (sz:=1) (off:=0) (m:=L.length) (es:=(itT L bs at_ 24 k).1.map fun x=>[i64 x]) (by omega) rfl (by rfl) (by simp [hlk])) ?_
         have e1 : (((itT L bs at_ 24 k).1.map fun x=>[i64 x]).drop 0).take L.length = (truthT L bs at_ 24).map fun x=>[i64 x]:=by
          rw [List.drop_zero,List.take_of_length_le (by simp [hlk]),hst2]
         rw [e1]
         refine zw (zk [7]) ?_;simp only [go_sem]
         refine zq ?_
         refine zb fun K hK=>?_;simp only [go_sem];refine hK _ ?_;clear hK K;refine zw (zk [6]) ?_;simp only [go_sem];refine ze ?_;simp only [go_sem]
set_option maxHeartbeats 4000000
theorem points_ok (b : Int) (hb : 0 ≤ b ∧ b ≤ 499) : ACalls Try.prog 98 [i64 b] (i64 (scoreOf b)):=by
 have e1 : Int.tdiv b 100 = b / 100:=Int.tdiv_eq_ediv_of_nonneg hb.1
 have e2 : Int.tmod b 100 = b % 100:=Int.tmod_eq_emod_of_nonneg hb.1
 have h1 : 0 ≤ b / 100 ∧ b / 100 ≤ 4:=by omega
 have h2 : 0 ≤ b % 100 ∧ b % 100 ≤ 99:=by omega
 have h3:=Int.mul_nonneg h1.1 h2.1
 have h4:=Int.mul_le_mul h1.2 h2.2 h2.1 (show (0 : Int) ≤ 4 by omega)
 have w1 : IntKind.i64.wrap (b / 100) = b / 100:=by rw [zI] <;> omega
 have w2 : IntKind.i64.wrap (b % 100) = b % 100:=by rw [zI] <;> omega
 have w3 : IntKind.i64.wrap (b / 100 * (b % 100)) = b / 100 * (b % 100):=by rw [zI] <;> omega
 have hs : scoreOf b = b / 100 * (b % 100):=rfl
 rw [hs]
 refine acalls_st (rs:=[i64 (b / 100 * (b % 100))]) [.tmp 2] Try.func98 rfl (by kernel_rfl) Try.ntmps98 rfl (by simp) rfl fun C vs=>?_
 refine zq ?_
 refine zb fun K hK=>?_;simp only [go_sem];refine hK _ ?_;clear hK K;refine zw (zk [0]) ?_;simp only [go_sem]
 refine zq ?_
 refine zb fun K hK=>?_;simp only [go_sem,e1,e2,w1,w2,w3];refine hK _ ?_;clear hK K;refine zw (zk [2]) ?_;simp only [go_sem];refine ze ?_;simp only [go_sem]
theorem outs_ok (b g : Int) (hb : 0 ≤ b ∧ b ≤ 499) (hg : 0 ≤ g ∧ g ≤ 2) : ACalls Try.prog 99 [i64 b,i64 g] (.bo (opA g b)):=by
 have e1 : Int.tdiv b 100 = b / 100:=Int.tdiv_eq_ediv_of_nonneg hb.1
 have w1 : IntKind.i64.wrap (b / 100) = b / 100:=by rw [zI] <;> omega
 have f00 : ((0 : Int) == 0) = true:=rfl
 have f01 : ((0 : Int) == 1) = false:=rfl
 have f02 : ((0 : Int) == 2) = false:=rfl
 have f10 : ((1 : Int) == 0) = false:=rfl
 have f11 : ((1 : Int) == 1) = true:=rfl
 have f12 : ((1 : Int) == 2) = false:=rfl
 have f20 : ((2 : Int) == 0) = false:=rfl
 have f21 : ((2 : Int) == 1) = false:=rfl
 have f22 : ((2 : Int) == 2) = true:=rfl
 refine acalls_st (rs:=[.bo (opA g b)]) [.tmp 4] Try.func99 rfl (by kernel_rfl) Try.ntmps99 rfl (by simp) rfl fun C vs=>?_
 refine zq ?_
 refine zb fun K hK=>?_;simp only [go_sem];refine hK _ ?_;clear hK K;refine zw (zk [0,1]) ?_;simp only [go_sem]
 rcases (by omega : g = 0 ∨ g = 1 ∨ g = 2) with h | h | h <;> subst h
 · by_cases h0 : b = 0
   · have c : (b != 0) = false:=by simp [h0]
     refine zq ?_
     refine zb fun K hK=>?_;simp only [go_sem,c,f00,f01,f02];refine hK _ ?_;clear hK K;refine zw (zk [4]) ?_;simp only [go_sem];refine ze ?_;simp only [go_sem]
     simp [opA,h0]
   · have c : (b != 0) = true:=by simpa using h0
     refine zq ?_
     refine zb fun K hK=>?_;simp only [go_sem,c,f00,f01,f02];refine hK _ ?_;clear hK K;refine zw (zk [4]) ?_;simp only [go_sem];refine ze ?_;simp only [go_sem]
     simp [opA,h0]
 · by_cases h0 : b / 100 = 2
   · have c : (b / 100 == 2) = true:=by simp [h0]
     refine zq ?_
     refine zb fun K hK=>?_;simp only [go_sem,e1,w1,c,f10,f11,f12];refine hK _ ?_;clear hK K;refine zw (zk [4]) ?_;simp only [go_sem];refine ze ?_;simp only [go_sem]
     simp [opA,h0]
   · have c : (b / 100 == 2) = false:=by simpa using h0
     refine zq ?_
     refine zb fun K hK=>?_;simp only [go_sem,e1,w1,c,f10,f11,f12];refine hK _ ?_;clear hK K;refine zw (zk [4]) ?_;simp only [go_sem];refine ze ?_;simp only [go_sem]
     simp [opA,h0]
 · refine zq ?_
   refine zb fun K hK=>?_;simp only [go_sem,e1,w1,f20,f21,f22];refine hK _ ?_;clear hK K;refine zw (zk [4]) ?_;simp only [go_sem];refine ze ?_;simp only [go_sem]
   simp [opA]
theorem after_ok (r : Rk) (ho : 0 ≤ r.out ∧ r.out ≤ 2) (s left : Nat) (b : Int) (hb : 0 ≤ b ∧ b ≤ 499) (visits dart : List Int) (hs : s < visits.length) (hl : left < dart.length) (hle : left ≤ 100000) :
 ACalls Try.prog 64 [rkR r,i64 (s : Int),i64 (left : Int),i64 b,ints visits,ints dart] (i64 (aftV r (visits.getD s 0) (left : Int) dart b)):=by
 have hp:=points_ok b hb
 have hop:=outs_ok b r.out hb ho
 have hlow:=lowest_ok r.out
 have hlg:=lowG_le r.out
 have hsc:=score_nn hb
 obtain ⟨v,hv⟩:=opt_of_lt hs
 have hvd : visits.getD s 0 = v:=by simp [List.getD,hv]
 obtain ⟨X,hX⟩ : ∃ X,X = aftV r (visits.getD s 0) (left : Int) dart b:=⟨_,rfl⟩
 rw [← hX]
 unfold aftV nextA at hX
 rw [hvd] at hX
 generalize scoreOf b = sc at *
 obtain ⟨q,hq⟩ : ∃ q,q = (left : Int) - sc:=⟨_,rfl⟩
 rw [← hq] at hX
 have wq : IntKind.i64.wrap ((left : Int) - sc) = q:=by rw [zI] <;> omega
 refine acalls_st (rs:=[i64 X]) [.tmp 12] Try.func64 rfl (by kernel_rfl) Try.ntmps64 rfl (by simp) rfl fun C vs=>?_
 refine zq ?_
 refine zb fun K hK=>?_;simp only [go_sem];refine hK _ ?_;clear hK K;refine zw (sub_frzP 6 6 [i64 r.d,aimsR r.aims,i64 r.start,i64 r.out] (by omega) rfl rfl) ?_;refine zw (zk [1,2,3,4,5,6]) ?_;simp only [go_sem]
 refine zq ?_
 refine zb fun K hK=>?_;simp only [go_sem]
 refine zh (hp) rfl (by simp only [go_sem,i64,ints,wq]) (by simp only [go_sem,i64,ints,wq]) (by first | exact .inl rfl | exact .inr rfl) ?_
 (try simp only [go_sem,wq]);refine hK _ ?_;clear hK K;refine zw (zk [1,3,4,5,6,13]) ?_;simp only [go_sem]
 by_cases h0 : q = 0
 · have e0 : (q == 0) = true:=by simp [h0]
   have d0 : decide (q = 0) = true:=decide_eq_true h0
   rw [d0,Bool.true_and] at hX
   repeat refine zq ?_
   refine zb fun K hK=>?_;simp only [go_sem,e0]
   refine zh (hop) rfl (by simp only [go_sem,i64,ints]) (by simp only [go_sem,i64,ints]) (by first | exact .inl rfl | exact .inr rfl) ?_
   (try simp only [go_sem]);refine hK _ ?_;clear hK K;refine zw (zk [1,4,5,6,13,25]) ?_;simp only [go_sem]
   cases hopv : opA r.out b
   · rw [hopv,if_neg (by simp)] at hX
     refine zc rfl (fun hc=>?_) (fun hc=>?_) <;> (try simp only [go_sem] at hc)
     refine zx ?_
     try simp only [go_sem]
     have hlt : q < lowG r.out:=by omega
     have el : decide (q < lowG r.out) = true:=decide_eq_true hlt
     rw [if_pos hlt] at hX
     repeat refine zq ?_
     refine zb fun K hK=>?_;simp only [go_sem]
     refine zh (hlow) rfl (by simp only [go_sem,i64,ints,el]) (by simp only [go_sem,i64,ints,el]) (by first | exact .inl rfl | exact .inr rfl) ?_
     (try simp only [go_sem,el]);refine hK _ ?_;clear hK K;refine zw (zk [1,4,5,13,30]) ?_;simp only [go_sem]
     refine zc rfl (fun hc=>?_) (fun hc=>?_) <;> (try simp only [go_sem] at hc)
     refine zq ?_
     refine zb fun K hK=>?_;simp only [go_sem,hv,hs];refine hK _ ?_;clear hK K;refine zw (zk [12]) ?_;simp only [go_sem];refine ze ?_;simp only [go_sem];exact hX.symm
   · rw [hopv,if_pos rfl] at hX
     refine zc rfl (fun hc=>?_) (fun hc=>?_) <;> (try simp only [go_sem] at hc)
     refine zq ?_
     refine zb fun K hK=>?_;simp only [go_sem];refine hK _ ?_;clear hK K;refine zw (zk [12]) ?_;simp only [go_sem];refine ze ?_;simp only [go_sem];exact hX.symm
 · have e0 : (q == 0) = false:=by simpa using h0
   have d0 : decide (q = 0) = false:=decide_eq_false h0
   rw [d0,Bool.false_and,if_neg (by simp)] at hX
   repeat refine zq ?_
   refine zb fun K hK=>?_;simp only [go_sem,e0];refine hK _ ?_;clear hK K;refine zw (zk [1,4,5,6,13,25]) ?_;simp only [go_sem]
   refine zc rfl (fun hc=>?_) (fun hc=>?_) <;> (try simp only [go_sem] at hc)
   refine zx ?_
   try simp only [go_sem]
   by_cases hlt : q < lowG r.out
   · have el : decide (q < lowG r.out) = true:=decide_eq_true hlt
     rw [if_pos hlt] at hX
     repeat refine zq ?_
     refine zb fun K hK=>?_;simp only [go_sem]
     refine zh (hlow) rfl (by simp only [go_sem,i64,ints,el]) (by simp only [go_sem,i64,ints,el]) (by first | exact .inl rfl | exact .inr rfl) ?_
     (try simp only [go_sem,el]);refine hK _ ?_;clear hK K;refine zw (zk [1,4,5,13,30]) ?_;simp only [go_sem]
     refine zc rfl (fun hc=>?_) (fun hc=>?_) <;> (try simp only [go_sem] at hc)
     refine zq ?_
     refine zb fun K hK=>?_;simp only [go_sem,hv,hs];refine hK _ ?_;clear hK K;refine zw (zk [12]) ?_;simp only [go_sem];refine ze ?_;simp only [go_sem];exact hX.symm
   · have el : decide (q < lowG r.out) = false:=decide_eq_false hlt
     rw [if_neg hlt] at hX
     obtain ⟨n,hn⟩ : ∃ n : Nat,q = n:=⟨q.toNat,by omega⟩
     have hnl : n < dart.length:=by omega
     obtain ⟨y,hy⟩:=opt_of_lt hnl
     have hyd : dart.getD q.toNat 0 = y:=by rw [hn]; simp [List.getD,hy]
     have hX2 : X = y:=hX.trans hyd
     rw [hn] at el ⊢
     repeat refine zq ?_
     refine zb fun K hK=>?_;simp only [go_sem]
     refine zh (hlow) rfl (by simp only [go_sem,i64,ints,el]) (by simp only [go_sem,i64,ints,el]) (by first | exact .inl rfl | exact .inr rfl) ?_
     (try simp only [go_sem,el]);refine hK _ ?_;clear hK K;refine zw (zk [1,4,5,13,30]) ?_;simp only [go_sem]
     refine zc rfl (fun hc=>?_) (fun hc=>?_) <;> (try simp only [go_sem] at hc)
     refine zx ?_
     try simp only [go_sem]
     refine zq ?_
     refine zb fun K hK=>?_;simp only [go_sem,hy,hnl];refine hK _ ?_;clear hK K;refine zw (zk [12]) ?_;simp only [go_sem];refine ze ?_;simp only [go_sem];exact hX2.symm
end Go.Proofs.Ytgfbenanljjgaaa.Du.Th.Ai
