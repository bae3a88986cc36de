/- Part 10 of the texts of this claim. -/
import Derived.Test.YtgfbenanljjgaaaVD9
import Derived.Test.YtgfbenanljjgaaaVD6
import Derived.Test.YtgfbenanljjgaaaVD7
import Derived.Test.YtgfbenanljjgaaaVD5
namespace Go.Proofs.Ytgfbenanljjgaaa.Du.Th
open Go Go.Oc
set_option linter.unusedSimpArgs false
set_option linter.unusedVariables false
set_option maxRecDepth 8000
instance : DecidableEq Bd:=fun a b=>decidable_of_iff (a.b = b.b ∧ a.lo = b.lo ∧ a.hi = b.hi) (by cases a; cases b; simp)
instance : DecidableEq Am:=fun a b=>decidable_of_iff (a.at_ = b.at_ ∧ a.beds = b.beds) (by cases a; cases b; simp)
theorem any_step {α : Type} {p : α → Bool} {l : List α} {k : Nat} {y : α} (hy : l[k]? = some y) : (l.take (k + 1)).any p = ((l.take k).any p || p y):=by rw [take_of_opt hy]; simp
theorem any_of {α : Type} {p : α → Bool} {l : List α} {k : Nat} {y : α} (hy : l[k]? = some y) (h : p y = true) : l.any p = true:=List.any_eq_true.2 ⟨y,mem_of_opt hy,h⟩
def greatL (l : List Am) : Bool:=decide (22 < l.length) || l.any fun a=>decide (12 < a.beds.length)
theorem alike_ok (a b : List Int) : ACalls Try.prog 23 [ints a,ints b] (.bo (decide (a = b))):=by
 refine acalls_st (rs:=[.bo (decide (a = b))]) [.tmp 4] Try.func23 rfl (by kernel_rfl) Try.ntmps23 rfl (by simp) rfl fun C vs=>?_
 repeat refine zq ?_
 refine zb fun K hK=>?_;simp only [go_sem];(try simp (disch:=omega) only [zI]);repeat first | intro _ | refine ⟨by omega,?_⟩
 refine hK _ ?_;clear hK K;refine zw (zk [0,1]) ?_;simp only [go_sem]
 repeat refine zq ?_
 refine zb fun K hK=>?_;simp only [go_sem];(try simp (disch:=omega) only [zI])
 intro hla hlb
 by_cases h1 : a.length = b.length
 case neg =>
  have e4 : ((a.length : Int) != b.length) = true:=by simp; omega
  rw [e4]
  repeat first | intro _ | refine ⟨by omega,?_⟩
  refine hK _ ?_;clear hK K
  repeat refine zq ?_
  refine zc rfl (fun hc=>?_) (fun hc=>?_) <;> (try simp only [go_sem] at hc)
  repeat refine zq ?_
  refine zb fun K hK=>?_;simp only [go_sem];(try simp (disch:=omega) only [zI]);repeat first | intro _ | refine ⟨by omega,?_⟩
  refine hK _ ?_;clear hK K;refine ze ?_;simp only [go_sem]
  simp
  exact fun h=>h1 (by rw [h])
 have e4 : ((a.length : Int) != b.length) = false:=by simp [h1]
 rw [e4]
 repeat first | intro _ | refine ⟨by omega,?_⟩
 refine hK _ ?_;clear hK K;refine zw (zk [0,1,10]) ?_;simp only [go_sem]
 repeat refine zq ?_
 refine zc rfl (fun hc=>?_) (fun hc=>?_) <;> (try simp only [go_sem] at hc)
 refine zx ?_
 try simp only [go_sem]
 repeat refine zq ?_
 refine zb fun K hK=>?_;simp only [go_sem];(try simp (disch:=omega) only [zI]);repeat first | intro _ | refine ⟨by omega,?_⟩
 refine hK _ ?_;clear hK K;refine zw (zk [0,1,5]) ?_;simp only [go_sem]
 repeat refine zq ?_
 refine zd ?_
 refine awp_upto (n:=26) a.length (fun i vs=>[(0,.r (ints a)),(1,.r (ints b)),(5,.r (i64 i))])
  (fun i=>[]) (fun i=>a.take i = b.take i) 0 (fit_of [] ?_ ?_) (Nat.zero_le _) (by simp) ?_
 · try simp only [go_sem]
 · try simp only [go_sem]
 · intro i vs hi hI
   repeat refine zq ?_
   refine zb fun K hK=>?_;simp only [go_sem];(try simp (disch:=omega) only [zI]);repeat first | intro _ | refine ⟨by omega,?_⟩
   refine hK _ ?_;clear hK K;refine zw (zk [0,1,5,14]) ?_;simp only [go_sem]
   repeat refine zq ?_
   refine zc rfl (fun hc=>?_) (fun hc=>?_) <;> (try simp only [go_sem] at hc)
   · skip
     have hci : i < a.length:=by omega
     have hc2 : i < b.length:=by omega
     obtain ⟨u,hu⟩:=opt_of_lt hci
     obtain ⟨v,hv⟩:=opt_of_lt hc2
     refine zx ?_
     try simp only [go_sem]
     repeat refine zq ?_
     refine zd ?_
     repeat refine zq ?_
     refine zg follows (by decide +kernel) (by kernel_rfl) fun K hK=>?_;simp only [go_sem,hu,hv,hci,hc2];(try simp (disch:=omega) only [zI]);repeat first | intro _ | refine ⟨by omega,?_⟩
     refine hK _ ?_;clear hK K
     by_cases huv : u = v
     · have e6 : (u != v) = false:=by simp [huv]
       rw [e6]
       repeat refine zq ?_
       refine zc rfl (fun hc=>?_) (fun hc=>?_) <;> (try simp only [go_sem] at hc)
       refine zx ?_
       try simp only [go_sem]
       repeat refine zq ?_
       refine zb fun K hK=>?_;simp only [go_sem];(try simp (disch:=omega) only [zI]);repeat first | intro _ | refine ⟨by omega,?_⟩
       refine hK _ ?_;clear hK K
       try simp only [go_sem]
       refine ⟨hci,?_,fit_of [] ?_ ?_⟩
       · rw [take_of_opt hu,take_of_opt hv,hI,huv]
       · try simp only [go_sem]
       · try simp only [go_sem]
     · have e6 : (u != v) = true:=by simp [huv]
       rw [e6]
       repeat refine zq ?_
       refine zc rfl (fun hc=>?_) (fun hc=>?_) <;> (try simp only [go_sem] at hc)
       repeat refine zq ?_
       refine zb fun K hK=>?_;simp only [go_sem];(try simp (disch:=omega) only [zI]);repeat first | intro _ | refine ⟨by omega,?_⟩
       refine hK _ ?_;clear hK K;refine ze ?_;simp only [go_sem]
       simp
       rintro rfl
       rw [hu] at hv
       injection hv with hv
       exact huv hv
   · skip
     refine zf ?_;simp only [go_sem]
     repeat refine zq ?_
     refine zb fun K hK=>?_;simp only [go_sem];(try simp (disch:=omega) only [zI]);repeat first | intro _ | refine ⟨by omega,?_⟩
     refine hK _ ?_;clear hK K;refine zw (zk [4]) ?_;simp only [go_sem];refine ze ?_;simp only [go_sem]
     have : i = a.length:=by omega
     subst this
     have hab : a = b:=by rwa [List.take_length,h1,List.take_length] at hI
     simp [hab]
end Go.Proofs.Ytgfbenanljjgaaa.Du.Th

namespace Go.Proofs.Ytgfbenanljjgaaa.Du.Th.Ai
open Go Go.Oc
set_option linter.unusedSimpArgs false
set_option linter.unusedVariables false
set_option maxRecDepth 8000
set_option maxHeartbeats 8000000
def dblB (b : Bool) : List Bd:=if b then [⟨0,0,1⟩,⟨101,0,1⟩,⟨201,1,1⟩] else [⟨0,1,1⟩,⟨201,1,1⟩]
def dbl (st : Int) (b : Bool) : Rk:=⟨2,[⟨201,dblB b⟩],st,1⟩
theorem double_ok (st : Int) (b : Bool) : ACalls Try.prog 53 [i64 st,.bo b] (rkR (dbl st b)):=by
 refine acalls_st (rs:=[rkR (dbl st b)]) [.cell 4 27] Try.func53 rfl (by kernel_rfl) Try.ntmps53 rfl (by simp) rfl fun C vs=>?_
 refine zq ?_
 refine zb fun K hK=>?_;simp only [go_sem];refine hK _ ?_;clear hK K;refine zw (zk [0,1,4]) ?_;simp only [go_sem]
 cases b
 · refine zq ?_
   refine zb fun K hK=>?_;simp only [go_sem];refine hK _ ?_;clear hK K;refine zw (zk [0,1,4,5]) ?_;simp only [go_sem]
   repeat refine zq ?_
   refine zb fun K hK=>?_;simp only [go_sem];refine hK _ ?_;clear hK K;refine zw (zk [0,4,5,11]) ?_;simp only [go_sem]
   refine zc rfl (fun hc=>?_) (fun hc=>?_) <;> (try simp only [go_sem] at hc)
   refine zx ?_
   try simp only [go_sem]
   refine zq ?_
   refine zb fun K hK=>?_;simp only [go_sem];refine hK _ ?_;clear hK K;refine zw (zk [4]) ?_;simp only [go_sem];refine ze ?_;simp only [go_sem];exact ⟨rfl,rfl,rfl,rfl⟩
 · refine zq ?_
   refine zb fun K hK=>?_;simp only [go_sem];refine hK _ ?_;clear hK K;refine zw (zk [0,1,4,5]) ?_;simp only [go_sem]
   repeat refine zq ?_
   refine zb fun K hK=>?_;simp only [go_sem];refine hK _ ?_;clear hK K;refine zw (zk [0,4,5,11]) ?_;simp only [go_sem]
   refine zc rfl (fun hc=>?_) (fun hc=>?_) <;> (try simp only [go_sem] at hc)
   refine zb fun K hK=>?_;simp only [go_sem];refine hK _ ?_;clear hK K;refine zw (zk [0,4,5]) ?_;simp only [go_sem]
   refine zq ?_
   refine zb fun K hK=>?_;simp only [go_sem];refine hK _ ?_;clear hK K;refine zw (zk [4]) ?_;simp only [go_sem];refine ze ?_;simp only [go_sem];exact ⟨rfl,rfl,rfl,rfl⟩
theorem dbl_ok32 : ROk (dbl 3 false):=(checkR_zero (by decide +kernel)).2
theorem dbl_ok22 : ROk (dbl 2 false):=(checkR_zero (by decide +kernel)).2
theorem dbl_ok2t : ROk (dbl 2 true):=(checkR_zero (by decide +kernel)).2
theorem vok_list {l : List Int} (h : l.all (fun x=>decide (0 ≤ x) && decide (x ≤ 1000000000) || decide (x = 2000000000)) = true) : ∀ x ∈ l,VOk x:=fun x hx=>by
 have:=List.all_eq_true.1 h x hx
 simp at this
 exact this
theorem u3 : tabT (dbl 3 false) false = [0,0,1142858,2000000000]:=by
 have h1 : numA (dbl 3 false) false [0,0,0,0] 2 = 1142858:=numA_upper dbl_ok32 (vok_list (by decide)) (by decide) (by decide) (by omega) (by decide +kernel) (.inr (by decide +kernel))
 have h2 : numA (dbl 3 false) false [0,0,1142858,0] 3 = 2000000000:=numA_never dbl_ok32 (vok_list (by decide)) (by decide) (by decide) (by decide +kernel)
 show (([0,0,0,0] : List Int).set 2 (numA (dbl 3 false) false [0,0,0,0] 2)).set 3 (numA (dbl 3 false) false (([0,0,0,0] : List Int).set 2 (numA (dbl 3 false) false [0,0,0,0] 2)) 3) = _
 rw [h1]
 show ([0,0,1142858,0] : List Int).set 3 (numA (dbl 3 false) false [0,0,1142858,0] 3) = _
 rw [h2]; rfl
theorem l3 : tabT (dbl 3 false) true = [0,0,1142857,1000000000]:=by
 have h1 : numA (dbl 3 false) true [0,0,0,0] 2 = 1142857:=numA_lower dbl_ok32 (vok_list (by decide)) (by decide) (by decide) (by omega) (.inr (by decide +kernel)) (.inr (by decide +kernel))
 have h2 : numA (dbl 3 false) true [0,0,1142857,0] 3 = 1000000000:=numA_lower dbl_ok32 (vok_list (by decide)) (by decide) (by decide) (by omega) (.inr (by decide +kernel)) (.inl rfl)
 show (([0,0,0,0] : List Int).set 2 (numA (dbl 3 false) true [0,0,0,0] 2)).set 3 (numA (dbl 3 false) true (([0,0,0,0] : List Int).set 2 (numA (dbl 3 false) true [0,0,0,0] 2)) 3) = _
 rw [h1]
 show ([0,0,1142857,0] : List Int).set 3 (numA (dbl 3 false) true [0,0,1142857,0] 3) = _
 rw [h2]; rfl
theorem u2t : tabT (dbl 2 true) false = [0,0,2000000]:=by
 have h1 : numA (dbl 2 true) false [0,0,0] 2 = 2000000:=numA_upper dbl_ok2t (vok_list (by decide)) (by decide) (by decide) (by omega) (by decide +kernel) (.inr (by decide +kernel))
 show ([0,0,0] : List Int).set 2 (numA (dbl 2 true) false [0,0,0] 2) = _
 rw [h1]; rfl
theorem l2t : tabT (dbl 2 true) true = [0,0,1142857]:=by
 have h1 : numA (dbl 2 true) true [0,0,0] 2 = 1142857:=numA_lower dbl_ok2t (vok_list (by decide)) (by decide) (by decide) (by omega) (.inr (by decide +kernel)) (.inr (by decide +kernel))
 show ([0,0,0] : List Int).set 2 (numA (dbl 2 true) true [0,0,0] 2) = _
 rw [h1]; rfl
theorem u2 : tabT (dbl 2 false) false = [0,0,1142858]:=by
 have h1 : numA (dbl 2 false) false [0,0,0] 2 = 1142858:=numA_upper dbl_ok22 (vok_list (by decide)) (by decide) (by decide) (by omega) (by decide +kernel) (.inr (by decide +kernel))
 show ([0,0,0] : List Int).set 2 (numA (dbl 2 false) false [0,0,0] 2) = _
 rw [h1]; rfl
theorem aim2 : aimQ (dbl 2 false) ⟨2,2,1⟩ = (0,571429,0):=by
 unfold aimQ
 rw [u2]
 decide +kernel
theorem nev3 : nevL (dbl 3 false) (tabT (dbl 3 false) false) (cntA (dbl 3 false)) = [3]:=by
 rw [u3]
 decide +kernel
theorem wf_dbl (st : Int) (b : Bool) : WfL (dbl st b).d (dbl st b).aims:=by
 refine ⟨⟨by show (_ : Int) ≤ 2; omega,by show (2 : Int) ≤ _; omega⟩,fun a ha=>?_⟩
 simp only [dbl,List.mem_singleton] at ha
 subst ha
 refine ⟨⟨by show (_ : Int) ≤ 201; omega,by show (201 : Int) ≤ _; omega⟩,?_⟩
 cases b <;> intro x hx <;> simp [dblB] at hx <;> (first | (rcases hx with rfl | rfl | rfl) | (rcases hx with rfl | rfl)) <;> exact ⟨⟨by simp,by simp⟩,⟨by simp,by simp⟩,⟨by simp,by simp⟩⟩
theorem table_at {r : Rk} {u l : List Int} (hw : WfL r.d r.aims) (h0 : checkR r = 0) (hu : tabT r false = u) (hl : tabT r true = l) : ACalls Try.prog 17 [rkR r] (.tu [ints u,ints l,i64 0]):=by
 have:=table_ok r hw
 rw [h0,if_pos rfl,if_pos rfl,hu,hl] at this
 exact this
theorem known_ok : ACalls Try.prog 14 [] (.bo true):=by
 have d3:=double_ok 3 false
 have d2t:=double_ok 2 true
 have d2:=double_ok 2 false
 have t3:=table_at (wf_dbl 3 false) (by decide +kernel) u3 l3
 have t2:=table_at (wf_dbl 2 true) (by decide +kernel) u2t l2t
 have a2:=aim_ok (dbl 2 false) ⟨2,2,1⟩ (wf_dbl 2 false)
 rw [aim2] at a2
 have n3:=never_ok (dbl 3 false) (wf_dbl 3 false)
 rw [nev3,show checkR (dbl 3 false) = 0 by decide +kernel,if_pos rfl] at n3
 have k1:=alike_ok [0,0,1142858,2000000000] [0,0,1142858,2000000000]
 have k2:=alike_ok [0,0,1142857,1000000000] [0,0,1142857,1000000000]
 have k3:=alike_ok [0,0,2000000] [0,0,2000000]
 have k4:=alike_ok [0,0,1142857] [0,0,1142857]
 have k5:=alike_ok [3] [3]
 rw [decide_eq_true rfl] at k1 k2 k3 k4 k5
 generalize dbl 3 false = R3 at *
 generalize dbl 2 true = R2t at *
 generalize dbl 2 false = R2 at *
 refine acalls_st (rs:=[.bo true]) [.tmp 0] Try.func14 rfl (by kernel_rfl) Try.ntmps14 rfl (by simp) rfl fun C vs=>?_
 refine zq ?_
 refine zb fun K hK=>?_;simp only [go_sem];refine hK _ ?_;clear hK K
 refine zq ?_
 refine zb fun K hK=>?_;simp only [go_sem]
 refine zh (d3) rfl (by simp only [go_sem,i64,ints]) (by simp only [go_sem,i64,ints]) (by first | exact .inl rfl | exact .inr rfl) ?_
 (try simp only [go_sem])
 refine zh (t3) rfl (by simp only [go_sem,i64,ints]) (by simp only [go_sem,i64,ints]) (by first | exact .inl rfl | exact .inr rfl) ?_
 (try simp only [go_sem]);refine hK _ ?_;clear hK K;refine zw (zk [1,2,3]) ?_;simp only [go_sem]
 refine zq ?_
 refine zb fun K hK=>?_;simp only [go_sem]
 refine zh (d2t) rfl (by simp only [go_sem,i64,ints]) (by simp only [go_sem,i64,ints]) (by first | exact .inl rfl | exact .inr rfl) ?_
 (try simp only [go_sem])
 refine zh (t2) rfl (by simp only [go_sem,i64,ints]) (by simp only [go_sem,i64,ints]) (by first | exact .inl rfl | exact .inr rfl) ?_
 (try simp only [go_sem]);refine hK _ ?_;clear hK K;refine zw (zk [1,2,3,4,5,6]) ?_;simp only [go_sem]
 refine zq ?_
 refine zb fun K hK=>?_;simp only [go_sem]
 refine zh (d2) rfl (by simp only [go_sem,i64,ints]) (by simp only [go_sem,i64,ints]) (by first | exact .inl rfl | exact .inr rfl) ?_
 (try simp only [go_sem])
 refine zh (a2) rfl (by simp only [go_sem,i64,ints]) (by simp only [go_sem,i64,ints]) (by first | exact .inl rfl | exact .inr rfl) ?_
 (try simp only [go_sem]);refine hK _ ?_;clear hK K;refine zw (zk [1,2,3,4,5,6,7,8,9]) ?_;simp only [go_sem]
 refine zq ?_
 refine zb fun K hK=>?_;simp only [go_sem]
 refine zh (d3) rfl (by simp only [go_sem,i64,ints]) (by simp only [go_sem,i64,ints]) (by first | exact .inl rfl | exact .inr rfl) ?_
 (try simp only [go_sem])
 refine zh (n3) rfl (by simp only [go_sem,i64,ints]) (by simp only [go_sem,i64,ints]) (by first | exact .inl rfl | exact .inr rfl) ?_
 (try simp only [go_sem]);refine hK _ ?_;clear hK K;refine zw (zk [1,2,3,4,5,6,7,8,9,10,11]) ?_;simp only [go_sem]
 refine zq ?_
 refine zb fun K hK=>?_;simp only [go_sem]
 refine zh (k1) rfl (by simp only [go_sem,i64,ints]) (by simp only [go_sem,i64,ints]) (by first | exact .inl rfl | exact .inr rfl) ?_
 (try simp only [go_sem])
 refine zh (k2) rfl (by simp only [go_sem,i64,ints]) (by simp only [go_sem,i64,ints]) (by first | exact .inl rfl | exact .inr rfl) ?_
 (try simp only [go_sem])
 refine zh (k3) rfl (by simp only [go_sem,i64,ints]) (by simp only [go_sem,i64,ints]) (by first | exact .inl rfl | exact .inr rfl) ?_
 (try simp only [go_sem])
 refine zh (k4) rfl (by simp only [go_sem,i64,ints]) (by simp only [go_sem,i64,ints]) (by first | exact .inl rfl | exact .inr rfl) ?_
 (try simp only [go_sem])
 refine zh (k5) rfl (by simp only [go_sem,i64,ints]) (by simp only [go_sem,i64,ints]) (by first | exact .inl rfl | exact .inr rfl) ?_
 (try simp only [go_sem]);refine hK _ ?_;clear hK K;refine zw (zk [0]) ?_;simp only [go_sem];refine ze ?_;simp only [go_sem]
abbrev spR (x : Int × Int) : List RV:=[i64 x.1,i64 x.2]
abbrev spsR (l : List (Int × Int)) : RV:=.sl 2 (l.map spR)
def costL (r : Rk) (p : Ps) : List (Int × Int):=(At.atV r true (tabT r true) p.st.toNat p.left.toNat (p.darts - 1).toNat).zip (At.atV r false (tabT r false) p.st.toNat p.left.toNat (p.darts - 1).toNat)
theorem at_pos {r : Rk} {p : Ps} (h : openR r p = 0) (s : Bool) : ACalls Try.prog 61 [rkR r,psR p,.bo s] (ints (At.atV r s (tabT r s) p.st.toNat p.left.toNat (p.darts - 1).toNat)):=by
 obtain ⟨hr,hp⟩:=openR_zero h
 simp only [posOk,decide_eq_true_eq] at hp
 have hlg:=lowG_le r.out
 have hat:=At.at_ok hr s p.st.toNat p.left.toNat (p.darts - 1).toNat (by omega) (by omega) (by omega) (by omega)
 have g1 : ((p.st.toNat : Nat) : Int) = p.st:=by omega
 have g2 : ((p.left.toNat : Nat) : Int) = p.left:=by omega
 have g3 : (((p.darts - 1).toNat : Nat) : Int) + 1 = p.darts:=by omega
 rw [g1,g2,g3] at hat
 exact hat
theorem costs_ok (r : Rk) (p : Ps) (hw : WfL r.d r.aims) : ACalls Try.prog 35 [rkR r,psR p] (.tu [if openR r p = 0 then spsR (costL r p) else .ns,i64 (openR r p)]):=by
 have hop:=open_ok r p hw
 refine acalls_st (rs:=[if openR r p = 0 then spsR (costL r p) else .ns,i64 (openR r p)]) [.tmp 4,.tmp 5] Try.func35 rfl (by kernel_rfl) Try.ntmps35 rfl (by simp) rfl fun C vs=>?_
 refine zq ?_
 refine zb fun K hK=>?_;simp only [go_sem];refine hK _ ?_;clear hK K;refine zw (sub_frzP 2 2 [i64 r.d,aimsR r.aims,i64 r.start,i64 r.out] (by omega) rfl rfl) ?_;refine zw (sub_frzP 3 3 [i64 p.st,i64 p.left,i64 p.darts] (by omega) rfl rfl) ?_;refine zw (zk [2,3,4]) ?_;simp only [go_sem]
 repeat refine zq ?_
 refine zb fun K hK=>?_;simp only [go_sem]
 refine zh (hop) rfl (by simp only [go_sem,i64,ints]) (by simp only [go_sem,i64,ints]) (by first | exact .inl rfl | exact .inr rfl) ?_
 (try simp only [go_sem]);refine hK _ ?_;clear hK K;refine zw (zk [2,3,4,6]) ?_;simp only [go_sem]
 refine zq ?_
 refine zb fun K hK=>?_;simp only [go_sem];refine hK _ ?_;clear hK K;refine zw (zk [2,3,4,6,14]) ?_;simp only [go_sem]
 by_cases h0 : openR r p = 0
 rotate_left
 · have e0 : (openR r p != 0) = true:=by simpa using h0
   rw [if_neg h0,e0]
   refine zc rfl (fun hc=>?_) (fun hc=>?_) <;> (try simp only [go_sem] at hc)
   refine zq ?_
   refine zb fun K hK=>?_;simp only [go_sem];refine hK _ ?_;clear hK K;refine zw (zk [4,5]) ?_;simp only [go_sem];refine ze ?_;simp only [go_sem]
 have e0 : (openR r p != 0) = false:=by simp [h0]
 obtain ⟨hr,_⟩:=openR_zero h0
 have hlo:=at_pos h0 true
 have hhi:=at_pos h0 false
 have hl1 : (At.atV r true (tabT r true) p.st.toNat p.left.toNat (p.darts - 1).toNat).length = r.aims.length:=by simp [At.atV]
 have hl2 : (At.atV r false (tabT r false) p.st.toNat p.left.toNat (p.darts - 1).toNat).length = r.aims.length:=by simp [At.atV]
 have hrl:=hr.len
 rw [if_pos h0,e0,h0]
 unfold costL
 generalize At.atV r true (tabT r true) p.st.toNat p.left.toNat (p.darts - 1).toNat = A at *
 generalize At.atV r false (tabT r false) p.st.toNat p.left.toNat (p.darts - 1).toNat = B at *
 refine zc rfl (fun hc=>?_) (fun hc=>?_) <;> (try simp only [go_sem] at hc)
 refine zx ?_
 try simp only [go_sem]
 refine zq ?_
 refine zb fun K hK=>?_;simp only [go_sem]
 refine zh (hhi) rfl (by simp only [go_sem,i64,ints]) (by simp only [go_sem,i64,ints]) (by first | exact .inl rfl | exact .inr rfl) ?_
 (try simp only [go_sem]);refine hK _ ?_;clear hK K;refine zw (sub_own 4 36 66 2 (by omega) (by rfl)) ?_;refine zw (zk [2,3,4,7]) ?_;simp only [go_sem]
 repeat refine zq ?_
 refine zb fun K hK=>?_;simp only [go_sem,List.length_map]
 refine zh (hlo) rfl (by simp only [go_sem,i64,ints,List.length_map]) (by simp only [go_sem,i64,ints,List.length_map]) (by first | exact .inl rfl | exact .inr rfl) ?_
 (try simp only [go_sem,List.length_map])
 (try intros)
 refine hK _ ?_;clear hK K;refine zw (zk [4,7,21,22,23]) ?_;simp only [go_sem];refine zd ?_
 have hzl : (A.zip B).length = A.length:=by rw [List.length_zip]; omega
 refine awp_uptoV (n:=39) A.length (fun i vs=>[(4,.os 36 (vs 36) 2 0 i),(7,.r (ints B)),(21,.r (ints A)),(22,.r (i64 A.length)),(23,.r (i64 i))])
  (fun i vs=>[(36,.arr 66 2 (((A.zip B).take i).map spR))]) (fun _=>True) 0 (zj [] ?_ ?_) (Nat.zero_le _) trivial ?_
 · try simp only [go_sem]
 · try simp only [go_sem]
   try rfl
 intro i vs hi _
 by_cases hic : i < A.length
 · obtain ⟨x,hx⟩:=opt_of_lt hic
   have hiB : i < B.length:=by omega
   obtain ⟨y,hy⟩:=opt_of_lt hiB
   have hz : (A.zip B)[i]? = some (x,y):=List.getElem?_zip_eq_some.2 ⟨hx,hy⟩
   have hsn : (A.zip B).take (i + 1) = (A.zip B).take i ++ [(x,y)]:=take_of_opt hz
   have hlt : ((A.zip B).take i).length = i:=by rw [List.length_take]; omega
   rw [hsn]
   generalize (A.zip B).take i = Z at *
   refine zq ?_
   refine zb fun K hK=>?_;simp only [go_sem];refine hK _ ?_;clear hK K;refine zw (zk [4,7,21,22,23,24]) ?_;simp only [go_sem]
   refine zq ?_
   refine zc rfl (fun hc=>?_) (fun hc=>?_) <;> (try simp only [go_sem] at hc)
   rotate_left
   · exact absurd hic hc
   refine zx ?_
   try simp only [go_sem]
   refine zq ?_
   refine zd ?_
   refine zq ?_
   refine zb fun K hK=>?_;simp only [go_sem,hx,hic,List.length_map];refine hK _ ?_;clear hK K;refine zw (zk [4,7,8,9,21,22,23]) ?_;simp only [go_sem];refine zb fun K hK=>?_;simp only [go_sem,hy,hiB,hlt,List.length_map]
   refine ⟨by omega,?_⟩
   refine hK _ ?_;clear hK K;refine zw (zk [4,7,21,22,23]) ?_;simp only [go_sem];refine zb fun K hK=>?_;simp only [go_sem];(try simp (disch:=omega) only [zI]);refine hK _ ?_;clear hK K
   try simp only [go_sem]
   refine ⟨hic,zj [] ?_ ?_⟩
   · try simp only [go_sem]
   · try simp only [go_sem]
     simp
 · have hie : i = A.length:=by omega
   subst hie
   have htk : (A.zip B).take A.length = A.zip B:=List.take_of_length_le (by omega)
   have htk2 : ((((A.zip B).map spR)).drop 0).take A.length = (A.zip B).map spR:=by rw [List.drop_zero,List.take_of_length_le (by simp; omega)]
   rw [htk]
   refine zq ?_
   refine zb fun K hK=>?_;simp only [go_sem,Nat.lt_irrefl];refine hK _ ?_;clear hK K;refine zw (zk [4,7,21,22,23,24]) ?_;simp only [go_sem]
   refine zq ?_
   refine zc rfl (fun hc=>?_) (fun hc=>?_) <;> (try simp only [go_sem] at hc)
   refine zf ?_;simp only [go_sem];refine zw (sub_frz 4 36 (ty:=66) (sz:=2) (off:=0) (m:=A.length) (es:=(A.zip B).map spR) (by omega) rfl (by rfl) (by simp; omega)) ?_;rw [htk2]
   refine zw (zk [4]) ?_;simp only [go_sem]
   refine zq ?_
   refine zb fun K hK=>?_;simp only [go_sem];refine hK _ ?_;clear hK K;refine zw (zk [4,5]) ?_;simp only [go_sem];refine ze ?_;simp only [go_sem]
def minE (x : Int × Int) (l : List (Int × Int)) : Int × Int:=l.foldl (fun m x=>if x.2 < m.2 then x else m) x
theorem minE_high : ∀ (l : List (Int × Int)) (x : Int × Int),(minE x l).2 = (l.map (·.2)).foldl min x.2
 | [],_=>rfl
 | y :: l, x => by
   have:=minE_high l (if y.2 < x.2 then y else x)
   unfold minE at *
   simp only [List.foldl_cons,List.map_cons];rw [this]
   congr 1
   split <;> omega
def mayE (m : Int) : Nat → List (Int × Int) → List Int
 | _,[]=>[]
 | i,x :: l=>if x.1 ≤ m then (i : Int) :: mayE m (i + 1) l else mayE m (i + 1) l
def mayL (r : Rk) (p : Ps) : List Int:=match costL r p with
 | []=>[]
 | x :: l=>mayE (minE x l).2 0 (x :: l)
theorem cmpH_ok (a b : Int × Int) : ACalls Try.prog 73 [.ag (spR a),.ag (spR b)] (i64 (cmpI a.2 b.2)):=by
 have hc:=compare_ok a.2 b.2
 refine acalls_st (rs:=[i64 (cmpI a.2 b.2)]) [.tmp 4] Try.func73 rfl (by kernel_rfl) Try.ntmps73 rfl (by simp) rfl fun C vs=>?_
 refine zq ?_
 refine zb fun K hK=>?_;simp only [go_sem];refine hK _ ?_;clear hK K;refine zw (sub_frzP 2 2 [i64 a.1,i64 a.2] (by omega) rfl rfl) ?_;refine zw (sub_frzP 3 3 [i64 b.1,i64 b.2] (by omega) rfl rfl) ?_;refine zw (zk [2,3]) ?_;simp only [go_sem]
 refine zq ?_
 refine zb fun K hK=>?_;simp only [go_sem]
 refine zh (hc) rfl (by simp only [go_sem,i64,ints]) (by simp only [go_sem,i64,ints]) (by first | exact .inl rfl | exact .inr rfl) ?_
 (try simp only [go_sem]);refine hK _ ?_;clear hK K;refine zw (zk [4]) ?_;simp only [go_sem];refine ze ?_;simp only [go_sem]
theorem minF_ok (x : Int × Int) (l : List (Int × Int)) (hl : l.length ≤ 1000) : ACalls Try.prog 72 [spsR (x :: l),.fn 73 []] (.ag (spR (minE x l))):=by
 have e0 : decide ((l.length : Int) + 1 < 1) = false:=by simp; omega
 refine acalls_st (rs:=[.ag (spR (minE x l))]) [.cell 4 66] Try.func72 rfl (by kernel_rfl) Try.ntmps72 rfl (by simp) rfl fun C vs=>?_
 refine zq ?_
 refine zb fun K hK=>?_;simp only [go_sem];refine hK _ ?_;clear hK K;refine zw (zk [0,1,4]) ?_;simp only [go_sem]
 repeat refine zq ?_
 refine zb fun K hK=>?_;simp only [go_sem,List.length_map,e0]
 intro _
 refine hK _ ?_;clear hK K;refine zw (zk [0,1,4,9]) ?_;simp only [go_sem]
 refine zc rfl (fun hc=>?_) (fun hc=>?_) <;> (try simp only [go_sem] at hc)
 refine zx ?_
 try simp only [go_sem]
 refine zq ?_
 refine zb fun K hK=>?_;simp only [go_sem,List.length_map]
 refine ⟨by omega,?_⟩
 refine hK _ ?_;clear hK K;refine zw (zk [0,1,4,5]) ?_;simp only [go_sem]
 repeat refine zq ?_
 refine zb fun K hK=>?_;simp only [go_sem];refine hK _ ?_;clear hK K;refine zw (zk [0,1,4,5,6]) ?_;simp only [go_sem];refine zd ?_
 refine awp_upto (n:=33) l.length (fun i vs=>[(0,.r (spsR (x :: l))),(1,.r (.fn 73 [])),(4,.pt 4 (vs 4) 0),(5,.pt 5 (vs 5) 0),(6,.r (i64 ((i : Int) + 1)))]) (fun i=>[(4,.box [.r (i64 0),.r (i64 0)]),(5,.box [.r (i64 (minE x (l.take i)).1),.r (i64 (minE x (l.take i)).2)])]) (fun _=>True) 0 (fit_of [] ?_ ?_) (Nat.zero_le _) trivial ?_
 · try simp only [go_sem]
   try simp
 · try simp only [go_sem]
   try rfl
 intro i vs hi _
 by_cases hc0 : i < l.length
 · obtain ⟨y,hy⟩:=opt_of_lt hc0
   have hsn : minE x (l.take (i + 1)) = if y.2 < (minE x (l.take i)).2 then y else minE x (l.take i):=by
    unfold minE; rw [take_of_opt hy,List.foldl_append]; rfl
   have hcm:=cmpH_ok y (minE x (l.take i))
   rw [hsn]
   generalize minE x (l.take i) = m at *
   obtain ⟨m1,m2⟩:=m
   obtain ⟨y1,y2⟩:=y
   have e1 : decide ((i : Int) + 1 < (l.length : Int) + 1) = true:=by simp; omega
   have w1 : IntKind.i64.wrap ((i : Int) + 1 + 1) = (i : Int) + 1 + 1:=by rw [zI] <;> omega
   simp only at hcm ⊢
   repeat refine zq ?_
   refine zb fun K hK=>?_;simp only [go_sem,e1,List.length_map,hc0]
   intro _
   refine hK _ ?_;clear hK K;refine zw (zk [0,1,4,5,6,17]) ?_;simp only [go_sem]
   refine zc rfl (fun hc=>?_) (fun hc=>?_) <;> (try simp only [go_sem] at hc)
   refine zx ?_
   try simp only [go_sem]
   refine zq ?_
   refine zd ?_
   refine zq ?_
   refine awp_dreg2 [(0,none),(1,none),(5,some 5),(6,none)] follows (by decide +kernel) (by kernel_rfl) (by simp only [keysOk,List.mem_cons,List.not_mem_nil,forall_eq_or_imp,Oc.keyOf,go_sem]; simp) fun K hK=>?_
   simp only [go_sem,hy,hc0,List.length_map,List.length_cons,List.getElem?_cons_succ]
   refine ⟨by omega,?_⟩
   refine zh (hcm) rfl (by simp only [go_sem,i64,ints]) (by simp only [go_sem,i64,ints]) (by first | exact .inl rfl | exact .inr rfl) ?_
   (try simp only [go_sem]);refine hK _ ?_;clear hK K;refine zw (zk [0,1,4,5,6,27]) ?_;simp only [go_sem]
   by_cases hlt : y2 < m2
   · have ec : decide (cmpI y2 m2 < 0) = true:=by simp [cmpI,hlt]
     rw [if_pos hlt,ec]
     refine zc rfl (fun hc=>?_) (fun hc=>?_) <;> (try simp only [go_sem] at hc)
     refine zb fun K hK=>?_;simp only [go_sem,hy,hc0,List.length_map,List.length_cons,List.getElem?_cons_succ]
     refine ⟨by omega,?_⟩
     refine hK _ ?_;clear hK K;refine zw (zk [0,1,4,5,6]) ?_;simp only [go_sem];refine zb fun K hK=>?_;simp only [go_sem,w1];refine hK _ ?_;clear hK K
     try simp only [go_sem]
     refine ⟨hc0,fit_of [] ?_ ?_⟩
     · try simp only [go_sem]
       try simp
     · try simp only [go_sem]
   · have ec : decide (cmpI y2 m2 < 0) = false:=by simp only [cmpI,if_neg hlt]; split <;> simp
     rw [if_neg hlt,ec]
     refine zc rfl (fun hc=>?_) (fun hc=>?_) <;> (try simp only [go_sem] at hc)
     refine zx ?_
     try simp only [go_sem]
     refine zw (zk [0,1,4,5,6]) ?_;simp only [go_sem];refine zb fun K hK=>?_;simp only [go_sem,w1];refine hK _ ?_;clear hK K
     try simp only [go_sem]
     refine ⟨hc0,fit_of [] ?_ ?_⟩
     · try simp only [go_sem]
       try simp
     · try simp only [go_sem]
 · have hie : i = l.length:=by omega
   subst hie
   have htk : l.take l.length = l:=List.take_of_length_le (by omega)
   rw [htk]
   have e1 : decide ((l.length : Int) + 1 < (l.length : Int) + 1) = false:=by simp
   repeat refine zq ?_
   refine zb fun K hK=>?_;simp only [go_sem,e1,List.length_map]
   intro _
   refine hK _ ?_;clear hK K;refine zw (zk [0,1,4,5,6,17]) ?_;simp only [go_sem]
   refine zc rfl (fun hc=>?_) (fun hc=>?_) <;> (try simp only [go_sem] at hc)
   refine zf ?_;simp only [go_sem]
   refine zq ?_
   refine zb fun K hK=>?_;simp only [go_sem];refine hK _ ?_;clear hK K;refine zw (zk [4]) ?_;simp only [go_sem];refine ze ?_;simp only [go_sem]
theorem mayE_app (m : Int) : ∀ (a b : List (Int × Int)) (k : Nat),mayE m k (a ++ b) = mayE m k a ++ mayE m (k + a.length) b
 | [],b,k=>by simp [mayE]
 | x :: a, b, k => by
   have h:=mayE_app m a b (k + 1)
   have e : k + 1 + a.length = k + (x :: a).length:=by simp; omega
   rw [e] at h
   simp only [List.cons_append,mayE,h]
   split <;> rfl
theorem mayE_len (m : Int) : ∀ (a : List (Int × Int)) (k : Nat),(mayE m k a).length ≤ a.length
 | [],_=>by simp [mayE]
 | x :: a, k => by
   have h:=mayE_len m a (k + 1)
   unfold mayE
   split <;> simp <;> omega
theorem may_ok (r : Rk) (p : Ps) (hw : WfL r.d r.aims) : ACalls Try.prog 36 [rkR r,psR p] (.tu [if openR r p = 0 then ints (mayL r p) else .ns,i64 (openR r p)]):=by
 have hco:=costs_ok r p hw
 refine acalls_st (rs:=[if openR r p = 0 then ints (mayL r p) else .ns,i64 (openR r p)]) [.tmp 4,.tmp 5] Try.func36 rfl (by kernel_rfl) Try.ntmps36 rfl (by simp) rfl fun C vs=>?_
 refine zq ?_
 refine zb fun K hK=>?_;simp only [go_sem];refine hK _ ?_;clear hK K;refine zw (sub_frzP 2 2 [i64 r.d,aimsR r.aims,i64 r.start,i64 r.out] (by omega) rfl rfl) ?_;refine zw (sub_frzP 3 3 [i64 p.st,i64 p.left,i64 p.darts] (by omega) rfl rfl) ?_;refine zw (zk [2,3,4]) ?_;simp only [go_sem]
 refine zq ?_
 refine zb fun K hK=>?_;simp only [go_sem]
 refine zh (hco) rfl (by simp only [go_sem,i64,ints]) (by simp only [go_sem,i64,ints]) (by first | exact .inl rfl | exact .inr rfl) ?_
 (try simp only [go_sem]);refine hK _ ?_;clear hK K;refine zw (zk [4,5,6]) ?_;simp only [go_sem]
 by_cases h0 : openR r p = 0
 rotate_left
 · have e0 : (openR r p != 0) = true:=by simpa using h0
   rw [if_neg h0,if_neg h0]
   repeat refine zq ?_
   refine zb fun K hK=>?_;simp only [go_sem];refine hK _ ?_;clear hK K;refine zw (zk [4,5,6,17]) ?_;simp only [go_sem];rw [e0]
   refine zc rfl (fun hc=>?_) (fun hc=>?_) <;> (try simp only [go_sem] at hc)
   refine zq ?_
   refine zb fun K hK=>?_;simp only [go_sem];refine hK _ ?_;clear hK K;refine zw (zk [4,5]) ?_;simp only [go_sem];refine ze ?_;simp only [go_sem]
 have e0 : (openR r p != 0) = false:=by simp [h0]
 obtain ⟨hr,_⟩:=openR_zero h0
 have hl1 : (costL r p).length = r.aims.length:=by simp [costL,At.atV]
 have hrl:=hr.len
 have hra:=hr.ne
 rw [if_pos h0,if_pos h0]
 repeat refine zq ?_
 refine zb fun K hK=>?_;simp only [go_sem];refine hK _ ?_;clear hK K;refine zw (zk [4,5,6,17]) ?_;simp only [go_sem];rw [e0,h0]
 refine zc rfl (fun hc=>?_) (fun hc=>?_) <;> (try simp only [go_sem] at hc)
 refine zx ?_
 try simp only [go_sem]
 unfold mayL
 generalize costL r p = L at *
 cases L with
 | nil=>simp at hl1; exact absurd (List.length_eq_zero_iff.1 hl1.symm) hra
 | cons x l =>
 have hmn:=minF_ok x l (by simp at hl1; omega)
 simp only
 generalize minE x l = M at *
 obtain ⟨M1,M⟩:=M
 simp only
 generalize hLd : x :: l = L at *
 refine zq ?_
 refine zb fun K hK=>?_;simp only [go_sem]
 refine zh (hmn) rfl (by simp only [go_sem,i64,ints]) (by simp only [go_sem,i64,ints]) (by first | exact .inl rfl | exact .inr rfl) ?_
 (try simp only [go_sem]);refine hK _ ?_;clear hK K;refine zw (sub_own 4 36 3 1 (by omega) (by rfl)) ?_;refine zw (zk [4,6,7]) ?_;simp only [go_sem]
 repeat refine zq ?_
 refine zb fun K hK=>?_;simp only [go_sem,List.length_map]
 intro _
 refine hK _ ?_;clear hK K;refine zw (zk [4,7,22,23,24]) ?_;simp only [go_sem];refine zd ?_
 refine awp_uptoV (n:=39) L.length (fun i vs=>[(4,.os 36 (vs 36) 1 0 (mayE M 0 (L.take i)).length),(7,.r (i64 M)),(22,.r (spsR L)),(23,.r (i64 L.length)),(24,.r (i64 i))])
  (fun i vs=>[(36,.arr 3 1 ((mayE M 0 (L.take i)).map fun x=>[i64 x]))]) (fun _=>True) 0 (zj [] ?_ ?_) (Nat.zero_le _) trivial ?_
 · try simp only [go_sem]
   try simp [mayE]
 · try simp only [go_sem]
   try rfl
 intro i vs hi _
 by_cases hic : i < L.length
 · obtain ⟨y,hy⟩:=opt_of_lt hic
   obtain ⟨y1,y2⟩:=y
   have hlt : (L.take i).length = i:=by rw [List.length_take]; omega
   have hsn : mayE M 0 (L.take (i + 1)) = mayE M 0 (L.take i) ++ (if y1 ≤ M then [(i : Int)] else []):=by
    rw [take_of_opt hy,mayE_app,Nat.zero_add,hlt]; rfl
   have hml:=mayE_len M (L.take i) 0
   rw [hsn]
   rw [hlt] at hml
   generalize mayE M 0 (L.take i) = Z at *
   refine zq ?_
   refine zb fun K hK=>?_;simp only [go_sem];refine hK _ ?_;clear hK K;refine zw (zk [4,7,22,23,24,25]) ?_;simp only [go_sem]
   refine zq ?_
   refine zc rfl (fun hc=>?_) (fun hc=>?_) <;> (try simp only [go_sem] at hc)
   rotate_left
   · exact absurd hic hc
   refine zx ?_
   try simp only [go_sem]
   refine zq ?_
   refine zd ?_
   refine zq ?_
   refine zb fun K hK=>?_;simp only [go_sem,hy,hic,List.length_map];refine hK _ ?_;clear hK K;refine zw (zk [4,7,8,9,22,23,24]) ?_;simp only [go_sem]
   refine zq ?_
   refine zb fun K hK=>?_;simp only [go_sem];refine hK _ ?_;clear hK K;refine zw (zk [4,7,8,22,23,24,32]) ?_;simp only [go_sem]
   by_cases hyM : y1 ≤ M
   · have ec : decide (y1 ≤ M) = true:=by simp [hyM]
     rw [if_pos hyM,ec]
     refine zc rfl (fun hc=>?_) (fun hc=>?_) <;> (try simp only [go_sem] at hc)
     refine zb fun K hK=>?_;simp only [go_sem,List.length_map]
     refine ⟨by omega,?_⟩
     refine hK _ ?_;clear hK K;refine zw (zk [4,7,22,23,24]) ?_;simp only [go_sem];refine zb fun K hK=>?_;simp only [go_sem];(try simp (disch:=omega) only [zI]);refine hK _ ?_;clear hK K
     try simp only [go_sem]
     refine ⟨hic,zj [9] ?_ ?_⟩
     · try simp only [go_sem]
       try simp
     · try simp only [go_sem]
       try simp
   · have ec : decide (y1 ≤ M) = false:=by simp [hyM]
     rw [if_neg hyM,ec]
     refine zc rfl (fun hc=>?_) (fun hc=>?_) <;> (try simp only [go_sem] at hc)
     refine zx ?_
     try simp only [go_sem]
     refine zb fun K hK=>?_;simp only [go_sem];(try simp (disch:=omega) only [zI]);refine hK _ ?_;clear hK K
     try simp only [go_sem]
     refine ⟨hic,zj [9] ?_ ?_⟩
     · try simp only [go_sem]
       try simp
     · try simp only [go_sem]
       try simp
 · have hie : i = L.length:=by omega
   subst hie
   have htk : L.take L.length = L:=List.take_of_length_le (by omega)
   rw [htk]
   generalize mayE M 0 L = Z at *
   have htk2 : (((Z.map fun x=>[i64 x]).drop 0).take Z.length) = Z.map fun x=>[i64 x]:=by rw [List.drop_zero,List.take_of_length_le (by simp)]
   refine zq ?_
   refine zb fun K hK=>?_;simp only [go_sem,Nat.lt_irrefl];refine hK _ ?_;clear hK K;refine zw (zk [4,7,22,23,24,25]) ?_;simp only [go_sem]
   refine zq ?_
   refine zc rfl (fun hc=>?_) (fun hc=>?_) <;> (try simp only [go_sem] at hc)
   refine zf ?_;simp only [go_sem];refine zw (sub_frz 4 36 (ty:=3) (sz:=1) (off:=0) (m:=Z.length) (es:=Z.map fun x=>[i64 x]) (by omega) rfl (by rfl) (by simp)) ?_;rw [htk2]
   refine zw (zk [4]) ?_;simp only [go_sem]
   refine zq ?_
   refine zb fun K hK=>?_;simp only [go_sem];refine hK _ ?_;clear hK K;refine zw (zk [4,5]) ?_;simp only [go_sem];refine ze ?_;simp only [go_sem]
end Go.Proofs.Ytgfbenanljjgaaa.Du.Th.Ai

namespace Go.Oc
open Go Go.RowKit
end Go.Oc
namespace Go.Proofs.Ytgfbenanljjgaaa.Du.Th.Ai
open Go Go.Oc
set_option linter.unusedSimpArgs false
set_option linter.unusedVariables false
set_option maxRecDepth 8000
set_option maxHeartbeats 8000000
def isN (s : Bool) (n : Int) : Bool:=decide (0 ≤ n ∧ n ≤ 1000000000) || (decide (n = 2000000000) && !s)
def formR (r : Rk) (s : Bool) (T : List Int) : Int:=if (T.length : Int) ≠ r.start + 1 then 4 else if withinL 0 0 (T.take (lowG r.out).toNat) = false then 4 else if (T.drop (lowG r.out).toNat).any (fun n=>!isN s n) = true then 2 else 0
def fstR (f : Nat → Bool) : Nat → Nat → Int
 | 0,_=>0
 | n + 1,i=>if f i then fstR f n (i + 1) else (i : Int)
def firstR (r : Rk) (s : Bool) (T : List Int) : Int:=fstR (holdsA r s T) (cntA r) (lowG r.out).toNat
def provR (r : Rk) (s : Bool) (T : List Int) : Int × Int:=if checkR r = 0 then (if formR r s T = 0 then (firstR r s T,0) else (0,formR r s T)) else (0,checkR r)
end Go.Proofs.Ytgfbenanljjgaaa.Du.Th.Ai

namespace Go.Proofs.Ytgfbenanljjgaaa.Du.Th.Ai
open Go Go.Oc
set_option linter.unusedSimpArgs false
set_option linter.unusedVariables false
set_option maxRecDepth 8000
theorem nextA_cg {out own left : Int} {f g : Int → Int} (h : ∀ x,lowG out ≤ x → x ≤ left → f x = g x) {b : Int} (hb : 0 ≤ b ∧ b ≤ 499) : nextA out own left f b = nextA out own left g b:=by
 have hs:=score_nn hb
 unfold nextA
 split
 · rfl
 · split
   · rfl
   · exact h _ (by omega) (by omega)
theorem meanA_cg {r : Rk} {s : Bool} {own left : Int} {f g : Int → Int} (h : ∀ x,lowG r.out ≤ x → x ≤ left → f x = g x) {a : Am} (ha : AOk r.d a.beds) : meanA r s own left f a = meanA r s own left g a:=by
 unfold meanA
 congr 1
 exact List.map_congr_left fun b hb=>nextA_cg h (ha.bed b hb)
theorem valA_cg {r : Rk} (hr : ROk r) {s : Bool} {T U : List Int} {own : Int} {st : Nat} (h : ∀ x,x ≤ st → T.getD x 0 = U.getD x 0) : ∀ (k : Nat) (left : Int),lowG r.out ≤ left → left ≤ st → valA r s T own k left = valA r s U own k left
 | 0,left,h1,h2=>h _ (by omega)
 | k + 1, left, h1, h2 => by
   unfold valA
   congr 1
   exact List.map_congr_left fun a ha=>meanA_cg (fun x q1 q2=>valA_cg hr h k x q1 (by omega)) (hr.aims a ha)
theorem holds_cg {r : Rk} (hr : ROk r) {s : Bool} {T U : List Int} {st : Nat} (hlo : lowG r.out ≤ st) (h : ∀ x,x ≤ st → T.getD x 0 = U.getD x 0) : holdsA r s T st = holdsA r s U st:=by
 have h1:=h st (Nat.le_refl _)
 have h2:=valA_cg hr (s:=s) (own:=U.getD st 0) h 3 st hlo (Int.le_refl _)
 unfold holdsA
 rw [h1,h2]
theorem numA_false {r : Rk} (hr : ROk r) {nums : List Int} {st : Nat} (hn : ∀ x ∈ nums,VOk x) (hst : st < nums.length) (hlo : lowG r.out ≤ st) :
 numA r false nums st = 2000000000 ∨ ((1000000 ≤ numA r false nums st ∧ numA r false nums st ≤ 1000000000) ∧ holdsA r false (nums.set st (numA r false nums st)) st = true ∧ holdsA r false (nums.set st (numA r false nums st - 1)) st = false):=by
 obtain ⟨g1,g2,g3,g4⟩:=srch_spec (fun k=>holdsA r false (nums.set st (1000000 + (k : Int))) st) 0 999000001 (by omega) fun a b q1 q2 q3 q4=>holds_up hr hn hst hlo (by omega) (by omega) (by omega) q4
 unfold numA
 simp only [Bool.false_eq_true,if_false]
 generalize srch (fun k=>holdsA r false (nums.set st (1000000 + (k : Int))) st) 0 999000001 = k at *
 by_cases h : 1000000000 < 1000000 + (k : Int)
 · left; rw [if_pos h]
 · right
   rw [if_neg h]
   refine ⟨by omega,g4 (by omega),?_⟩
   by_cases hk : k = 0
   · subst hk
     have hv:=valA_le hr (s:=false) (set_vok hn st (n:=999999) (.inl ⟨by omega,by omega⟩)) (own:=999999) (.inl ⟨by omega,by omega⟩) 3 st
     have e : (1000000 : Int) + ((0 : Nat) : Int) - 1 = 999999:=by omega
     rw [e]
     unfold holdsA
     simp only [Bool.false_eq_true,if_false,getD_set hst,if_true];rw [Bool.or_eq_false_iff,decide_eq_false_iff_not,decide_eq_false_iff_not]
     omega
   · have:=g3 (k - 1) (by omega) (by omega)
     have e : (1000000 : Int) + ((k - 1 : Nat) : Int) = 1000000 + (k : Int) - 1:=by omega
     rw [e] at this
     exact this
theorem numA_true {r : Rk} (hr : ROk r) {nums : List Int} {st : Nat} (hn : ∀ x ∈ nums,VOk x) (hst : st < nums.length) (hlo : lowG r.out ≤ st) :
 (0 ≤ numA r true nums st ∧ numA r true nums st ≤ 1000000000) ∧ holdsA r true (nums.set st (numA r true nums st)) st = true ∧ (numA r true nums st < 1000000000 → holdsA r true (nums.set st (numA r true nums st + 1)) st = false):=by
 obtain ⟨g1,g2,g3,g4⟩:=srch_spec (fun k=>!holdsA r true (nums.set st ((k : Int) + 1)) st) 0 1000000000 (by omega) fun a b q1 q2 q3 q4=>by
  simp only [Bool.not_eq_true'] at q4 ⊢
  cases hb : holdsA r true (nums.set st ((b : Int) + 1)) st
  · rfl
  · have:=holds_down hr hn hst hlo (a:=(a : Int) + 1) (by omega) (by omega) (by omega) hb
    rw [q4] at this; cases this
 unfold numA
 simp only [if_true]
 generalize srch (fun k=>!holdsA r true (nums.set st ((k : Int) + 1)) st) 0 1000000000 = k at *
 refine ⟨by omega,?_,fun h=>?_⟩
 · by_cases hk : k = 0
   · subst hk
     have hv:=valA_le hr (s:=true) (set_vok hn st (n:=0) (.inl ⟨by omega,by omega⟩)) (own:=0) (.inl ⟨by omega,by omega⟩) 3 st
     show holdsA r true (nums.set st 0) st = true
     unfold holdsA
     simp only [if_true,getD_set hst];rw [decide_eq_true_eq]
     omega
   · have:=g3 (k - 1) (by omega) (by omega)
     have e : ((k - 1 : Nat) : Int) + 1 = (k : Int):=by omega
     simp only [e,Bool.not_eq_false'] at this
     exact this
 · have:=g4 (by omega)
   simpa using this
theorem tabA_pre {r : Rk} (s : Bool) (i : Nat) (x : Nat) (hx : x ≤ (lowG r.out).toNat + i) : ∀ m,(tabA r s (i + 1 + m)).getD x 0 = (tabA r s (i + 1)).getD x 0
 | 0=>rfl
 | m + 1 => by
   rw [← tabA_pre s i x hx m]
   show ((tabA r s (i + 1 + m)).set ((lowG r.out).toNat + (i + 1 + m)) _).getD x 0 = _
   rw [List.getD_eq_getElem?_getD,List.getElem?_set_ne (by omega),← List.getD_eq_getElem?_getD]
theorem tabT_at {r : Rk} (hr : ROk r) (s : Bool) {st : Nat} (h1 : lowG r.out ≤ st) (h2 : (st : Int) ≤ r.start) : ∃ nums : List Int,(∀ x ∈ nums,VOk x) ∧ st < nums.length ∧ (tabT r s).getD st 0 = numA r s nums st ∧ (∀ v,∀ x,x ≤ st → ((tabT r s).set st v).getD x 0 = (nums.set st v).getD x 0) ∧
 (∀ x,x ≤ st → (tabT r s).getD x 0 = (nums.set st (numA r s nums st)).getD x 0):=by
 have hl:=lowG_le r.out
 obtain ⟨i,hi⟩ : ∃ i,st = (lowG r.out).toNat + i:=⟨st - (lowG r.out).toNat,by omega⟩
 have hic : i < cntA r:=by unfold cntA; omega
 obtain ⟨_,e2,e3⟩:=tab_eq hr s i (by omega)
 obtain ⟨_,f2,f3⟩:=tab_eq hr s (cntA r) (Nat.le_refl _)
 have hlen : st < (tabA r s i).length:=by rw [e2]; omega
 obtain ⟨m,hm⟩ : ∃ m,cntA r = i + 1 + m:=⟨cntA r - (i + 1),by omega⟩
 have hpre:=fun x (hx : x ≤ st)=>tabA_pre (r:=r) s i x (by omega) m
 rw [← hm] at hpre
 have hsu : tabA r s (i + 1) = (tabA r s i).set st (numA r s (tabA r s i) st):=by rw [hi]; rfl
 rw [hsu] at hpre
 have hlT : st < (tabT r s).length:=by unfold tabT; rw [f2]; omega
 refine ⟨tabA r s i,e3,hlen,?_,fun v x hx=>?_,hpre⟩
 · have:=hpre st (Nat.le_refl _)
   rw [getD_set hlen,if_pos rfl] at this
   exact this
 · rw [getD_set hlT,getD_set hlen]
   split
   · rfl
   · rename_i hne
     have:=hpre x hx
     rw [getD_set hlen,if_neg hne] at this
     exact this
theorem tabT_holds {r : Rk} (hr : ROk r) (s : Bool) {st : Nat} (h1 : lowG r.out ≤ st) (h2 : (st : Int) ≤ r.start) : holdsA r s (tabT r s) st = true:=by
 obtain ⟨nums,hn,hst,g1,g2,g3⟩:=tabT_at hr s h1 h2
 rw [holds_cg hr h1 g3]
 cases s
 · rcases numA_false hr hn hst h1 with h | ⟨_,h,_⟩
   · rw [h]
     unfold holdsA
     simp only [Bool.false_eq_true,if_false,getD_set hst,if_true,decide_true,Bool.or_true]
   · exact h
 · exact (numA_true hr hn hst h1).2.1
theorem tabT_less {r : Rk} (hr : ROk r) {st : Nat} (h1 : lowG r.out ≤ st) (h2 : (st : Int) ≤ r.start) (hne : (tabT r false).getD st 0 ≠ 2000000000) : (1000000 ≤ (tabT r false).getD st 0 ∧ (tabT r false).getD st 0 ≤ 1000000000) ∧ holdsA r false ((tabT r false).set st ((tabT r false).getD st 0 - 1)) st = false:=by
 obtain ⟨nums,hn,hst,g1,g2,g3⟩:=tabT_at hr false h1 h2
 rw [holds_cg hr h1 (g2 _),g1]
 rw [g1] at hne
 rcases numA_false hr hn hst h1 with h | ⟨h,_,h'⟩
 · exact absurd h hne
 · exact ⟨h,h'⟩
theorem tabT_more {r : Rk} (hr : ROk r) {st : Nat} (h1 : lowG r.out ≤ st) (h2 : (st : Int) ≤ r.start) : (0 ≤ (tabT r true).getD st 0 ∧ (tabT r true).getD st 0 ≤ 1000000000) ∧ ((tabT r true).getD st 0 < 1000000000 → holdsA r true ((tabT r true).set st ((tabT r true).getD st 0 + 1)) st = false):=by
 obtain ⟨nums,hn,hst,g1,g2,g3⟩:=tabT_at hr true h1 h2
 rw [holds_cg hr h1 (g2 _),g1]
 obtain ⟨a,b,c⟩:=numA_true hr hn hst h1
 exact ⟨a,c⟩
theorem dotV_mul (p : Int) : ∀ (y u : List Int),dotV y (u.map (· * p)) = dotV y u * p
 | [],u=>by simp [dotV]
 | x :: y,[]=>by simp [dotV]
 | x :: y, z :: u => by
   have ih:=dotV_mul p y u
   simp only [List.map_cons,dotV,ih,Int.add_mul,Int.mul_assoc]
def OrdP (p q x y : Int) : Prop:=y = 2000000000 ∨ (x ≠ 2000000000 ∧ x * p ≤ y * q)
theorem meanS_ord {d : Int} {l : List Bd} (h : AOk d l) {u v : List Int} {p q : Int} (hp : 0 ≤ p) (hq : 0 ≤ q) (hu : u.length = l.length) (hv : v.length = l.length) (hvu : ∀ x ∈ u,VOk x) (hvv : ∀ x ∈ v,VOk x)
 (huv : ∀ i,i < l.length → OrdP p q (u.getD i 0) (v.getD i 0)) : OrdP p q (meanS true d l u) (meanS false d l v):=by
 have hd:=h.d1
 by_cases hb : (List.range l.length).any (badA l d v) = true
 · left; unfold meanS; rw [if_pos hb]
 have hgood : ∀ i,i < l.length → 0 < canA l i d → v.getD i 0 ≠ 2000000000:=fun i hi h0 hn=>hb (List.any_eq_true.2 ⟨i,List.mem_range.2 hi,by simp [badA,hn,h0]; exact hn⟩)
 have hbu : ¬ (List.range l.length).any (badA l d u) = true:=fun hh=>by
  obtain ⟨i,hi,hbi⟩:=List.any_eq_true.1 hh
  have hil:=List.mem_range.1 hi
  simp only [badA,Bool.and_eq_true,decide_eq_true_eq] at hbi
  rcases huv i hil with h1 | h1
  · exact hgood i hil hbi.2 h1
  · exact h1.1 hbi.1
 right
 have eu : meanS true d l u = meanLo d l (u.map zN) / d:=by unfold meanS; rw [if_neg hbu]; rfl
 have ev : meanS false d l v = (meanHi d l (v.map zN) + (d - 1)) / d:=by unfold meanS; rw [if_neg hb]; rfl
 have hub:=meanZ_bound true h (M:=1000000000) (by omega) (v:=u.map zN) fun x hx=>by
  obtain ⟨y,hy,rfl⟩:=List.mem_map.1 hx
  exact zN_ok (hvu y hy)
 have hub' : meanLo d l (u.map zN) / d ≤ 1000000000:=by
  have:=hub.2
  unfold meanZ at this
  simpa using this
 rw [eu,ev]
 refine ⟨by omega,?_⟩
 obtain ⟨y,hy⟩ : ∃ y,y = filledV cmpI d l (u.map zN):=⟨_,rfl⟩
 have ht : TruthN d l y:=by rw [hy]; exact h.truth _ _
 have b1:=(filled_bound (d:=d) (l:=l) (vals:=u.map zN) (by rw [List.length_map,hu]) ht).1
 have b2:=(filled_bound (d:=d) (l:=l) (vals:=v.map zN) (by rw [List.length_map,hv]) ht).2
 have key : dotV y (u.map zN) * p ≤ dotV y (v.map zN) * q:=by
  rw [← dotV_mul,← dotV_mul]
  have:=dotV_leI (y:=y) (u:=(u.map zN).map (· * p)) (v:=(v.map zN).map (· * q)) (c:=0) (by rw [ht.len]; simp [hu]) (by rw [ht.len]; simp [hv]) fun i hi=>by
   have hil : i < l.length:=by rw [← ht.len]; exact hi
   refine ⟨?_,fun h0=>?_⟩
   · have h1:=(ht.each i hil).1
     have h2:=(h.each _ (bAt_mem hil)).1
     omega
   · have hc:=truth_can ht hil
     have gm : ∀ (w : List Int) (m : Int),(w.map (· * m)).getD i 0 = w.getD i 0 * m:=fun w m=>by
      simp only [List.getD_eq_getElem?_getD,List.getElem?_map]
      cases w[i]? <;> simp
     rw [gm,gm,getD_mapz,getD_mapz]
     have hg:=hgood i hil (by omega)
     rcases huv i hil with h1 | ⟨h1,h2⟩
     · exact absurd h1 hg
     · unfold zN
       rw [if_neg h1,if_neg hg]
       omega
  omega
 generalize dotV y (u.map zN) = A at *
 generalize dotV y (v.map zN) = B at *
 generalize meanLo d l (u.map zN) = Lo at *
 generalize meanHi d l (v.map zN) = Hi at *
 obtain ⟨X,hX⟩ : ∃ X,X = Lo / d:=⟨_,rfl⟩
 obtain ⟨Y,hY⟩ : ∃ Y,Y = (Hi + (d - 1)) / d:=⟨_,rfl⟩
 have c1 : X * d ≤ A:=by
  have:=Int.ediv_mul_le Lo (show d ≠ 0 by omega)
  rw [← hX] at this; omega
 have c2 : B ≤ Y * d:=by
  have:=Int.lt_ediv_add_one_mul_self (Hi + (d - 1)) (show 0 < d by omega)
  rw [← hY,Int.add_mul] at this; omega
 rw [← hX,← hY]
 have d1:=Int.mul_le_mul_of_nonneg_right c1 hp
 have d2:=Int.mul_le_mul_of_nonneg_right c2 hq
 have e1 : X * d * p = X * p * d:=by rw [Int.mul_assoc,Int.mul_comm d p,← Int.mul_assoc]
 have e2 : Y * d * q = Y * q * d:=by rw [Int.mul_assoc,Int.mul_comm d q,← Int.mul_assoc]
 rw [e1] at d1
 rw [e2] at d2
 exact Int.le_of_mul_le_mul_right (by omega) (show 0 < d by omega)
theorem next_ord {out own own' left p q : Int} {f g : Int → Int} (h : ∀ x,lowG out ≤ x → x ≤ left → OrdP p q (f x) (g x)) (ho : OrdP p q own own') {b : Int} (hb : 0 ≤ b ∧ b ≤ 499) : OrdP p q (nextA out own left f b) (nextA out own' left g b):=by
 have hs:=score_nn hb
 unfold nextA
 split
 · right; exact ⟨by omega,by rw [Int.zero_mul,Int.zero_mul]; exact Int.le_refl _⟩
 · split
   · exact ho
   · exact h _ (by omega) (by omega)
theorem mean_ord {r : Rk} {own own' left p q : Int} {f g : Int → Int} (hp : 0 ≤ p) (hq : 0 ≤ q) (h : ∀ x,lowG r.out ≤ x → x ≤ left → OrdP p q (f x) (g x)) (ho : OrdP p q own own') (o1 : VOk own) (o2 : VOk own') (hf : ∀ x,VOk (f x)) (hg : ∀ x,VOk (g x)) {a : Am} (ha : AOk r.d a.beds) :
 OrdP p q (meanA r true own left f a) (meanA r false own' left g a):=by
 unfold meanA
 refine meanS_ord ha hp hq (by simp) (by simp) ?_ ?_ fun i hi=>?_
 · intro x hx
   obtain ⟨b,_,rfl⟩:=List.mem_map.1 hx
   exact nextA_vok o1 hf _
 · intro x hx
   obtain ⟨b,_,rfl⟩:=List.mem_map.1 hx
   exact nextA_vok o2 hg _
 · obtain ⟨b,hb⟩:=opt_of_lt hi
   have e1 : (a.beds.map fun b=>nextA r.out own left f b.b).getD i 0 = nextA r.out own left f b.b:=by simp [List.getD,hb]
   have e2 : (a.beds.map fun b=>nextA r.out own' left g b.b).getD i 0 = nextA r.out own' left g b.b:=by simp [List.getD,hb]
   rw [e1,e2]
   exact next_ord h ho (ha.bed b (mem_of_opt hb))
theorem least_ord {p q : Int} (hp : 0 ≤ p) {al : List Am} {f g : Am → Int} (h : ∀ a ∈ al,OrdP p q (f a) (g a)) (hf : ∀ a ∈ al,VOk (f a)) : OrdP p q (leastA (al.map f)) (leastA (al.map g)):=by
 obtain ⟨_,_,h3⟩:=foldl_min (al.map g) 2000000000
 rcases h3 with h3 | h3
 · left; exact h3
 · obtain ⟨a,ha,hga⟩:=List.mem_map.1 h3
   have hl:=(foldl_min (al.map f) 2000000000).2.1 (f a) (List.mem_map.2 ⟨a,ha,rfl⟩)
   have hga' : g a = leastA (al.map g):=hga
   rw [← hga']
   rcases h a ha with h1 | ⟨h1,h2⟩
   · left; exact h1
   · right
     have hv:=hf a ha
     unfold VOk at hv
     have hl' : leastA (al.map f) ≤ f a:=hl
     refine ⟨by omega,Int.le_trans (Int.mul_le_mul_of_nonneg_right hl' hp) h2⟩
theorem val_ord {r : Rk} (hr : ROk r) {T U : List Int} {own own' p q : Int} {st : Nat} (hp : 0 ≤ p) (hq : 0 ≤ q) (hT : ∀ x ∈ T,VOk x) (hU : ∀ x ∈ U,VOk x) (o1 : VOk own) (o2 : VOk own') (ho : OrdP p q own own') (h : ∀ x : Nat,lowG r.out ≤ x → x ≤ st → OrdP p q (T.getD x 0) (U.getD x 0)) :
 ∀ (k : Nat) (left : Int),lowG r.out ≤ left → left ≤ st → OrdP p q (valA r true T own k left) (valA r false U own' k left)
 | 0, left, h1, h2 => by
   have hl:=lowG_le r.out
   exact h left.toNat (by omega) (by omega)
 | k + 1, left, h1, h2 => by
   unfold valA
   exact least_ord hp (fun a ha=>mean_ord hp hq (fun x q1 q2=>val_ord hr hp hq hT hU o1 o2 ho h k x q1 (by omega)) ho o1 o2 (valA_vok hr hT o1 k) (valA_vok hr hU o2 k) (hr.aims a ha))
    fun a ha=>meanA_vok o1 (valA_vok hr hT o1 k) (hr.aims a ha)
theorem tab_ord {r : Rk} (hr : ROk r) : ∀ (st : Nat),lowG r.out ≤ st → (st : Int) ≤ r.start → OrdP 1 1 ((tabT r true).getD st 0) ((tabT r false).getD st 0):=by
 intro st
 induction st using Nat.strongRecOn with
 | _ st ih =>
   intro h1 h2
   have hT:=(tab_eq hr true (cntA r) (Nat.le_refl _)).2.2
   have hU:=(tab_eq hr false (cntA r) (Nat.le_refl _)).2.2
   by_cases hn : (tabT r false).getD st 0 = 2000000000
   · left; exact hn
   right
   have hu:=(tabT_less hr h1 h2 hn).1
   have hl:=(tabT_more hr h1 h2).1
   refine ⟨by omega,?_⟩
   rw [Int.mul_one,Int.mul_one]
   have k1:=tabT_holds hr true h1 h2
   have k2:=tabT_holds hr false h1 h2
   unfold holdsA at k1 k2
   simp only [if_true,Bool.false_eq_true,if_false,decide_eq_true_eq,Bool.or_eq_true] at k1 k2
   obtain ⟨l,hle⟩ : ∃ l,l = (tabT r true).getD st 0:=⟨_,rfl⟩
   obtain ⟨u,hue⟩ : ∃ u,u = (tabT r false).getD st 0:=⟨_,rfl⟩
   rw [← hue] at hu k2 hn
   rw [← hle] at hl k1
   rw [← hue,← hle]
   refine Int.not_lt.1 fun hlt=>?_
   have hord:=val_ord hr (T:=tabT r true) (U:=tabT r false) (own:=l) (own':=u) (p:=u) (q:=l) (st:=st) (by omega) (by omega) hT hU (by unfold VOk; omega) (by unfold VOk; omega) (.inr ⟨by omega,by rw [Int.mul_comm]; exact Int.le_refl _⟩) (fun x q1 q2=>by
    by_cases hx : x = st
    · subst hx
      right
      rw [← hle,← hue]
      exact ⟨by omega,by rw [Int.mul_comm]; exact Int.le_refl _⟩
    · have hxo:=ih x (by omega) q1 (by omega)
      have hxl:=(tabT_more hr q1 (show (x : Int) ≤ r.start by omega)).1
      rcases hxo with hxo | ⟨n1,n2⟩
      · left; exact hxo
      · right
        rw [Int.mul_one,Int.mul_one] at n2
        refine ⟨n1,?_⟩
        have m1:=Int.mul_le_mul_of_nonneg_right n2 (show 0 ≤ u by omega)
        have m2:=Int.mul_le_mul_of_nonneg_left (show u ≤ l by omega) (show 0 ≤ (tabT r false).getD x 0 by omega)
        omega) 3 st h1 (Int.le_refl _)
   have hv2:=valA_le hr (s:=false) hU (own:=u) (by unfold VOk; omega) 3 st
   rcases k2 with k2 | k2
   · rcases hord with hord | ⟨_,hord⟩
     · omega
     · generalize valA r true (tabT r true) l 3 st = vT at *
       generalize valA r false (tabT r false) u 3 st = vF at *
       have m1:=Int.mul_le_mul_of_nonneg_right k1 (show 0 ≤ u by omega)
       have m2:=Int.mul_le_mul_of_nonneg_right k2 (show 0 ≤ l by omega)
       rw [Int.add_mul] at m1 m2
       have m3 : u * l = l * u:=Int.mul_comm u l
       omega
   · exact hn k2
theorem at_ord {r : Rk} (hr : ROk r) {st left : Nat} (k : Nat) (h1 : lowG r.out ≤ left) (h2 : left ≤ st) (h3 : (st : Int) ≤ r.start) {a : Am} (ha : a ∈ r.aims) :
 meanA r true ((tabT r true).getD st 0) left (valA r true (tabT r true) ((tabT r true).getD st 0) k) a ≤ meanA r false ((tabT r false).getD st 0) left (valA r false (tabT r false) ((tabT r false).getD st 0) k) a:=by
 have hT : ∀ x ∈ tabT r true,VOk x:=(tab_eq hr true (cntA r) (Nat.le_refl _)).2.2
 have hU : ∀ x ∈ tabT r false,VOk x:=(tab_eq hr false (cntA r) (Nat.le_refl _)).2.2
 have o1:=getD_vok hT st
 have o2:=getD_vok hU st
 have hto:=tab_ord hr st (by omega) h3
 have:=mean_ord (r:=r) (left:=(left : Int)) (p:=1) (q:=1) (by omega) (by omega) (fun x q1 q2=>val_ord hr (st:=st) (by omega) (by omega) hT hU o1 o2 hto (fun y g1 g2=>tab_ord hr y g1 (by omega)) k x q1 (by omega)) hto o1 o2 (valA_vok hr hT o1 k) (valA_vok hr hU o2 k) (hr.aims a ha)
 have hv:=meanA_vok (r:=r) (s:=true) (left:=(left : Int)) o1 (valA_vok hr (s:=true) hT o1 k) (hr.aims a ha)
 unfold VOk at hv
 rcases this with h | ⟨_,h⟩
 · rw [h]; omega
 · rw [Int.mul_one,Int.mul_one] at h; exact h
theorem leastA_cons {x : Int} {l : List Int} (hx : VOk x) : leastA (x :: l) = l.foldl min x:=by
 unfold leastA
 simp only [List.foldl_cons]
 have e : min 2000000000 x = x:=by unfold VOk at hx; omega
 rw [e]
theorem zip_snd : ∀ (A B : List Int),A.length = B.length → (A.zip B).map (·.2) = B
 | [],[],_=>rfl
 | x :: A,y :: B,h=>by simp only [List.zip_cons_cons,List.map_cons,zip_snd A B (by simpa using h)]
 | [],_ :: _,h=>by simp at h
 | _ :: _,[],h=>by simp at h
theorem may_zip {A B : List Int} (hl : A.length = B.length) (hB : ∀ x ∈ B,VOk x) : (match A.zip B with | []=>[] | x :: l=>mayE (minE x l).2 0 (x :: l)) = mayE (leastA B) 0 (A.zip B):=by
 have hz:=zip_snd A B hl
 cases hZ : A.zip B with
 | nil=>simp [mayE]
 | cons x l =>
   rw [hZ] at hz
   simp only [List.map_cons] at hz
   simp only
   rw [minE_high,← hz,leastA_cons (hB _ (by rw [← hz]; simp))]
theorem atI_mem (v : Int) : ∀ (l : List Int) (k : Nat),v ∈ l → ∃ i,i < l.length ∧ atI v l k = ((k + i : Nat) : Int) ∧ l[i]? = some v
 | [],_,h=>by simp at h
 | x :: l, k, h => by
   by_cases hx : v = x
   · exact ⟨0,by simp,by unfold atI; rw [if_pos hx]; simp,by simp [hx]⟩
   · have hm : v ∈ l:=by simpa [hx] using h
     obtain ⟨i,h1,h2,h3⟩:=atI_mem v l (k + 1) hm
     refine ⟨i + 1,by simp; omega,?_,by simpa using h3⟩
     unfold atI; rw [if_neg hx,h2]; congr 1; omega
theorem mayE_mem {m : Int} : ∀ (L : List (Int × Int)) (k i : Nat) (x : Int × Int),L[i]? = some x → x.1 ≤ m → ((k + i : Nat) : Int) ∈ mayE m k L
 | [],_,_,_,h,_=>by simp at h
 | y :: L, k, 0, x, h, hm => by
   have : y = x:=by simpa using h
   subst this
   unfold mayE; rw [if_pos hm]; simp
 | y :: L, k, i + 1, x, h, hm => by
   have:=mayE_mem L (k + 1) i x (by simpa using h) hm
   have e : k + 1 + i = k + (i + 1):=by omega
   rw [e] at this
   unfold mayE; split
   · exact List.mem_cons_of_mem _ this
   · exact this
structure OthOk (n : Nat) (L : List (Int × Int)) (Y : List Int) (a w e : Int) : Prop where
 err : e = 0 ∨ e = 7
 len : L.length = n
 ne : 1 ≤ Y.length
 lenY : Y.length ≤ n
 found : e = 0 → a ∈ Y
 each : ∀ x ∈ L,0 ≤ x.1 ∧ x.1 ≤ x.2 ∧ (e = 0 → w ≤ x.2) ∧ (e ≠ 0 → x.2 = 2000000000)
 pos : e = 0 → ∃ (i : Nat) (x : Int),a = i ∧ i < L.length ∧ L[i]? = some (x,w)
theorem other_ok {r : Rk} {p : Ps} (h : openR r p = 0) : OthOk r.aims.length (costL r p) (mayL r p) (aimQ r p).1 (aimQ r p).2.1 (aimQ r p).2.2:=by
 obtain ⟨hr,hp⟩:=openR_zero h
 simp only [posOk,decide_eq_true_eq] at hp
 have hlg:=lowG_le r.out
 have hT : ∀ x ∈ tabT r true,VOk x:=(tab_eq hr true (cntA r) (Nat.le_refl _)).2.2
 have hU : ∀ x ∈ tabT r false,VOk x:=(tab_eq hr false (cntA r) (Nat.le_refl _)).2.2
 have hne:=hr.ne
 have hQ : aimQ r p = aimL (At.atV r false (tabT r false) p.st.toNat p.left.toNat (p.darts - 1).toNat):=by unfold aimQ; rw [if_pos h]
 have hM : mayL r p = (match costL r p with | []=>[] | x :: l=>mayE (minE x l).2 0 (x :: l)):=rfl
 have hlA : (At.atV r true (tabT r true) p.st.toNat p.left.toNat (p.darts - 1).toNat).length = r.aims.length:=by simp [At.atV]
 have hlB : (At.atV r false (tabT r false) p.st.toNat p.left.toNat (p.darts - 1).toNat).length = r.aims.length:=by simp [At.atV]
 have hBv : ∀ x ∈ At.atV r false (tabT r false) p.st.toNat p.left.toNat (p.darts - 1).toNat,VOk x:=fun x hx=>by
  obtain ⟨a,ha,rfl⟩:=List.mem_map.1 hx
  exact meanA_vok (getD_vok hU _) (valA_vok hr hU (getD_vok hU _) _) (hr.aims a ha)
 have hAv : ∀ x ∈ At.atV r true (tabT r true) p.st.toNat p.left.toNat (p.darts - 1).toNat,VOk x:=fun x hx=>by
  obtain ⟨a,ha,rfl⟩:=List.mem_map.1 hx
  exact meanA_vok (getD_vok hT _) (valA_vok hr hT (getD_vok hT _) _) (hr.aims a ha)
 have hord : ∀ i x y,(At.atV r true (tabT r true) p.st.toNat p.left.toNat (p.darts - 1).toNat)[i]? = some x → (At.atV r false (tabT r false) p.st.toNat p.left.toNat (p.darts - 1).toNat)[i]? = some y → x ≤ y:=fun i x y h1 h2=>by
  unfold At.atV at h1 h2
  rw [List.getElem?_map] at h1 h2
  cases hq : r.aims[i]? with
  | none=>rw [hq] at h1; simp at h1
  | some a =>
    rw [hq] at h1 h2
    simp only [Option.map_some,Option.some.injEq] at h1 h2
    rw [← h1,← h2]
    exact at_ord hr _ (by omega) (by omega) (by omega) (mem_of_opt hq)
 have hc : costL r p = (At.atV r true (tabT r true) p.st.toNat p.left.toNat (p.darts - 1).toNat).zip (At.atV r false (tabT r false) p.st.toNat p.left.toNat (p.darts - 1).toNat):=rfl
 rw [hM,hQ,hc]
 have hn : 0 < r.aims.length:=List.length_pos_iff.2 hne
 generalize At.atV r true (tabT r true) p.st.toNat p.left.toNat (p.darts - 1).toNat = A at *
 generalize At.atV r false (tabT r false) p.st.toNat p.left.toNat (p.darts - 1).toNat = B at *
 rw [may_zip (by omega) hBv]
 obtain ⟨f1,f2,f3⟩:=foldl_min B 2000000000
 have f1' : leastA B ≤ 2000000000:=f1
 have f2' : ∀ x ∈ B,leastA B ≤ x:=f2
 have f3' : leastA B = 2000000000 ∨ leastA B ∈ B:=f3
 have hzl : (A.zip B).length = r.aims.length:=by rw [List.length_zip]; omega
 have hez : ∀ x ∈ A.zip B,0 ≤ x.1 ∧ x.1 ≤ x.2 ∧ x.2 ∈ B:=fun x hx=>by
  obtain ⟨i,hi⟩:=List.getElem?_of_mem hx
  obtain ⟨u,v⟩:=x
  obtain ⟨h1,h2⟩:=List.getElem?_zip_eq_some.1 hi
  have g1:=hAv _ (mem_of_opt h1)
  exact ⟨by simp only [VOk] at *; omega,hord _ _ _ h1 h2,mem_of_opt h2⟩
 have hml:=mayE_len (leastA B) (A.zip B) 0
 have hmem : ∃ i x,i < A.length ∧ (A.zip B)[i]? = some (x,leastA B) ∧ atI (leastA B) B 0 = (i : Int) ∨ leastA B = 2000000000:=by
  by_cases hl : leastA B = 2000000000
  · exact ⟨0,0,.inr hl⟩
  rcases f3' with f3' | f3'
  · exact absurd f3' hl
  obtain ⟨i,hi,he,hs⟩:=atI_mem (leastA B) B 0 f3'
  obtain ⟨x,hx⟩:=opt_of_lt (show i < A.length by omega)
  exact ⟨i,x,.inl ⟨by omega,List.getElem?_zip_eq_some.2 ⟨hx,hs⟩,by rw [he]; simp⟩⟩
 have hY : 1 ≤ (mayE (leastA B) 0 (A.zip B)).length ∧ (leastA B ≠ 2000000000 → atI (leastA B) B 0 ∈ mayE (leastA B) 0 (A.zip B)):=by
  obtain ⟨i,x,hm⟩:=hmem
  rcases hm with ⟨h1,h2,h3⟩ | hm
  · have hh:=mayE_mem (m:=leastA B) (A.zip B) 0 i _ h2 (by have:=(hez _ (mem_of_opt h2)).2.1; simpa using this)
    rw [Nat.zero_add,← h3] at hh
    exact ⟨List.length_pos_of_mem hh,fun _=>hh⟩
  · obtain ⟨z,hz⟩:=opt_of_lt (show 0 < (A.zip B).length by omega)
    have hzz:=hez _ (mem_of_opt hz)
    have hh:=mayE_mem (m:=leastA B) (A.zip B) 0 0 _ hz (by
     have:=hBv _ hzz.2.2
     simp only [VOk] at this; omega)
    exact ⟨List.length_pos_of_mem hh,fun h=>absurd hm h⟩
 unfold aimL
 by_cases hl : leastA B = 2000000000
 · rw [if_pos hl]
   refine ⟨.inr rfl,hzl,hY.1,by omega,fun h=>by simp at h,fun x hx=>?_,fun h=>by simp at h⟩
   obtain ⟨g1,g2,g3⟩:=hez x hx
   have g4:=hBv _ g3
   have g5:=f2' _ g3
   refine ⟨g1,g2,fun h=>by simp at h,fun _=>?_⟩
   simp only [VOk] at g4; omega
 · rw [if_neg hl]
   refine ⟨.inl rfl,hzl,hY.1,by omega,fun _=>hY.2 hl,fun x hx=>?_,fun _=>?_⟩
   · obtain ⟨g1,g2,g3⟩:=hez x hx
     exact ⟨g1,g2,fun _=>f2' _ g3,fun h=>by simp at h⟩
   · obtain ⟨i,x,hm⟩:=hmem
     rcases hm with ⟨h1,h2,h3⟩ | hm
     · exact ⟨i,x,h3,by omega,h2⟩
     · exact absurd hm hl
def beds10 : List Int:=[0,101,102,103,105,125,201,202,204,301]
def bedX (k : Nat) : Int:=beds10.getD k 0
structure Rx where
 which : List Int
 low : List Int
 high : List Int
 start : Int
 out : Int
structure WfRx (x : Rx) : Prop where
 which : ∀ n ∈ x.which,0 ≤ n ∧ n ≤ 65535
 low : ∀ n ∈ x.low,0 ≤ n ∧ n ≤ 255
 high : ∀ n ∈ x.high,0 ≤ n ∧ n ≤ 255
 start : 0 ≤ x.start ∧ x.start ≤ 255
 out : 0 ≤ x.out ∧ x.out ≤ 255
def whX (x : Rx) (i : Nat) : Int:=if i < x.which.length then bitOr .u16 (x.which.getD i 0) (shlI .u16 1 (IntKind.u64.wrap ((6 + i % 3 : Nat) : Int))) else 64
structure Sx where
 l : List Bd
 sum : Int
 high : Int
 n : Nat
def addX (x : Rx) (w : Int) (k : Nat) (p : Sx) : Sx :=
 if p.l.length < 5 ∧ hasB w k = true then
  ⟨⟨bedX k, min (byteL x.low p.n % 6) (24 - p.sum), min 24 (min (byteL x.low p.n % 6) (24 - p.sum) + byteL x.high p.n % 9)⟩ :: p.l,
    p.sum + min (byteL x.low p.n % 6) (24 - p.sum),p.high + min 24 (min (byteL x.low p.n % 6) (24 - p.sum) + byteL x.high p.n % 9),p.n + 1⟩ else p
def iterX (x : Rx) (w : Int) (n : Nat) : Nat → Sx
 | 0=>⟨[],0,0,n⟩
 | j + 1=>addX x w (9 - j) (iterX x w n j)
theorem iterX_full (x : Rx) (w : Int) (n j : Nat) (h : ¬ (iterX x w n j).l.length < 5) : ∀ m,iterX x w n (j + m) = iterX x w n j
 | 0=>rfl
 | m + 1 => by
   show addX x w (9 - (j + m)) (iterX x w n (j + m)) = _
   rw [iterX_full x w n j h m]
   unfold addX
   rw [if_neg fun h'=>h h'.1]
theorem iterX_n (x : Rx) (w : Int) (n : Nat) : ∀ j,(iterX x w n j).n ≤ n + j
 | 0=>Nat.le_refl _
 | j + 1 => by
   have ih:=iterX_n x w n j
   show (addX x w (9 - j) (iterX x w n j)).n ≤ _
   unfold addX
   split
   · simp only; omega
   · omega
def fixX (p : Sx) : List Bd:=if p.high < 24 then (match p.l with | []=>[] | c :: l=>⟨c.b,c.lo,min 24 (c.hi + 24 - p.high)⟩ :: l) else p.l
def nX (x : Rx) : Nat → Nat
 | 0=>0
 | i + 1=>(iterX x (whX x i) (nX x i) 10).n
theorem nX_le (x : Rx) : ∀ i,nX x i ≤ 10 * i
 | 0=>Nat.le_refl _
 | i + 1 => by
   have ih:=nX_le x i
   have:=iterX_n x (whX x i) (nX x i) 10
   show (iterX x (whX x i) (nX x i) 10).n ≤ _
   omega
def sX (x : Rx) (i : Nat) : Sx:=iterX x (whX x i) (nX x i) 10
def aimX (x : Rx) (i : Nat) : Am:=⟨bedX (6 + i % 3),fixX (sX x i)⟩
def cntX (x : Rx) (most : Nat) : Nat:=max 1 (min x.which.length most)
def aimsX (x : Rx) (i : Nat) : List Am:=(List.range i).map (aimX x)
theorem aimsX_succ (x : Rx) (i : Nat) : aimsX x (i + 1) = aimsX x i ++ [aimX x i]:=by simp only [aimsX,List.range_succ,List.map_append,List.map_cons,List.map_nil]
theorem cntX_lt (x : Rx) (most i : Nat) : i < cntX x most ↔ i = 0 ∨ (i < x.which.length ∧ i < most):=by unfold cntX; omega
def ruleX (x : Rx) (most : Nat) : Rk:=⟨24,aimsX x (cntX x most),2 + x.start % 5,x.out % 3⟩
theorem bedX_lt {j k : Nat} (h : j < k) (hk : k < 10) : bedX j < bedX k:=by
 have : ∀ k,k < 10 → ∀ j,j < k → bedX j < bedX k:=by decide
 exact this k hk j h
theorem bedX_ok {k : Nat} (hk : k < 10) : bedX k = 0 ∨ bedOk (bedX k) = true:=by
 have : ∀ k,k < 10 → (bedX k = 0 ∨ bedOk (bedX k) = true):=by decide
 exact this k hk
structure IterX (j : Nat) (p : Sx) : Prop where
 len : p.l.length ≤ 5
 lenj : p.l.length ≤ j
 each : ∀ c ∈ p.l,(∃ k,10 ≤ k + j ∧ k < 10 ∧ c.b = bedX k) ∧ 0 ≤ c.lo ∧ c.lo ≤ c.hi ∧ c.hi ≤ 24
 up : p.l.Pairwise fun a b=>a.b < b.b
 sum : loS p.l = p.sum
 sum0 : 0 ≤ p.sum ∧ p.sum ≤ 24
 high : hiS p.l = p.high
 high0 : 0 ≤ p.high ∧ p.high ≤ 24 * p.l.length
theorem iterX_ok {x : Rx} (hx : WfRx x) (w : Int) (n : Nat) : ∀ j,j ≤ 10 → IterX j (iterX x w n j)
 | 0,_=>⟨by simp [iterX],by simp [iterX],by simp [iterX],by simp [iterX],by simp [iterX,loS],by simp [iterX],by simp [iterX,hiS],by simp [iterX]⟩
 | j + 1, hj => by
   have ih:=iterX_ok hx w n j (by omega)
   show IterX (j + 1) (addX x w (9 - j) (iterX x w n j))
   generalize iterX x w n j = p at *
   obtain ⟨l,s,h,n'⟩:=p
   obtain ⟨h1,h2,h3,h4,h5,h6,h7,h8⟩:=ih
   simp only at h1 h2 h3 h4 h5 h6 h7 h8
   unfold addX
   by_cases hc : l.length < 5 ∧ hasB w (9 - j) = true
   · rw [if_pos hc]
     have bl:=byteL_le hx.low n'
     have bh:=byteL_le hx.high n'
     simp only
     generalize byteL x.low n' = bl' at *
     generalize byteL x.high n' = bh' at *
     obtain ⟨lo,hlo⟩ : ∃ lo,lo = min (bl' % 6) (24 - s):=⟨_,rfl⟩
     obtain ⟨hi,hhi⟩ : ∃ hi,hi = min 24 (lo + bh' % 9):=⟨_,rfl⟩
     rw [← hlo,← hhi]
     refine ⟨by simp; omega,by simp; omega,?_,?_,?_,?_,?_,?_⟩
     · intro c hcm
       rcases List.mem_cons.1 hcm with rfl | hcm
       · exact ⟨⟨9 - j,by omega,by omega,rfl⟩,by simp only; omega,by simp only; omega,by simp only; omega⟩
       · obtain ⟨⟨k,k1,k2,k3⟩,e⟩:=h3 c hcm
         exact ⟨⟨k,by omega,k2,k3⟩,e⟩
     · refine List.pairwise_cons.2 ⟨fun c hcm=>?_,h4⟩
       obtain ⟨⟨k,k1,k2,k3⟩,e⟩:=h3 c hcm
       simp only
       rw [k3]
       exact bedX_lt (by omega) k2
     · simp only [loS,List.map_cons,List.sum_cons] at h5 ⊢
       omega
     · simp only; omega
     · simp only [hiS,List.map_cons,List.sum_cons] at h7 ⊢
       omega
     · simp only [List.length_cons]; omega
   · rw [if_neg hc]
     exact ⟨h1,by simp only; omega,fun c hcm=>by
      obtain ⟨⟨k,k1,k2,k3⟩,e⟩:=h3 c hcm
      exact ⟨⟨k,by omega,k2,k3⟩,e⟩,h4,h5,h6,h7,h8⟩
theorem wrap16 {m : Nat} (h : m < 65536) : IntKind.u16.wrap (m : Int) = m:=by
 unfold IntKind.wrap
 simp [IntKind.bits,IntKind.signed]
 omega
theorem wrap64s : ∀ q : Nat,q < 16 → IntKind.u64.wrap (q : Int) = q:=by decide
theorem shl16 : ∀ q : Nat,q < 16 → shlI .u16 1 (q : Int) = ((2 ^ q : Nat) : Int):=by decide
theorem hasB_or {v : Int} (hv : 0 ≤ v ∧ v ≤ 65535) {q : Nat} (hq : q < 16) : hasB (bitOr .u16 v (shlI .u16 1 (IntKind.u64.wrap (q : Int)))) q = true:=by
 obtain ⟨n,rfl⟩ : ∃ n : Nat,v = n:=⟨v.toNat,by omega⟩
 have hn : n < 2 ^ 16:=by omega
 have hp : 2 ^ q < 2 ^ 16:=Nat.pow_lt_pow_right (by omega) hq
 rw [wrap64s q hq,shl16 q hq]
 have e1 : bitOr .u16 (n : Int) ((2 ^ q : Nat) : Int) = ((n ||| 2 ^ q : Nat) : Int):=by
  unfold bitOr
  have hb : IntKind.u16.bits = 16:=rfl
  rw [hb,BitVec.ofInt_natCast,BitVec.ofInt_natCast,BitVec.toNat_or,BitVec.toNat_ofNat,BitVec.toNat_ofNat,Nat.mod_eq_of_lt hn,Nat.mod_eq_of_lt hp]
  exact wrap16 (Nat.or_lt_two_pow (n:=16) hn hp)
 rw [e1]
 unfold hasB
 rw [wrap64s q hq]
 have e2 : shrI .u16 ((n ||| 2 ^ q : Nat) : Int) (q : Int) = (((n ||| 2 ^ q) / 2 ^ q : Nat) : Int):=by
  unfold shrI
  have hb : IntKind.u16.bits = 16:=rfl
  have hm : min (q : Int).toNat 16 = q:=by omega
  rw [hb,hm,Int.fdiv_eq_ediv_of_nonneg _ (by exact Int.le_of_lt (Int.pow_pos (by decide)))]
  norm_cast
 rw [e2]
 have hlt:=Nat.or_lt_two_pow (n:=16) hn hp
 have ht : Nat.testBit (n ||| 2 ^ q) q = true:=by simp [Nat.testBit_or,Nat.testBit_two_pow_self]
 rw [Nat.testBit_eq_decide_div_mod_eq,decide_eq_true_eq] at ht
 generalize (n ||| 2 ^ q) / 2 ^ q = y at *
 have e3 : bitAnd .u16 (y : Int) 1 = ((y % 2 : Nat) : Int):=by
  unfold bitAnd
  have hb : IntKind.u16.bits = 16:=rfl
  have h1 : (1 : Int) = ((1 : Nat) : Int):=rfl
  rw [hb,h1,BitVec.ofInt_natCast,BitVec.ofInt_natCast,BitVec.toNat_and,BitVec.toNat_ofNat,BitVec.toNat_ofNat,Nat.mod_eq_of_lt (show 1 < 2 ^ 16 by decide),Nat.and_one_is_mod]
  rw [wrap16 (by omega)]
  congr 1; omega
 rw [e3,ht]
 rfl
theorem bedsX_ne {x : Rx} (hx : WfRx x) {i : Nat} (hi : i = 0 ∨ i < x.which.length) (n : Nat) : (iterX x (whX x i) n 10).l ≠ []:=by
 have hq : hasB (whX x i) (6 + i % 3) = true:=by
  unfold whX
  by_cases h : i < x.which.length
  · rw [if_pos h]
    have hm : x.which.getD i 0 ∈ x.which:=by
     rw [List.getD_eq_getElem?_getD,List.getElem?_eq_getElem h]; exact List.getElem_mem h
    have:=hasB_or (hx.which _ hm) (q:=6 + i % 3) (by omega)
    exact this
  · rw [if_neg h]
    have : i = 0:=by omega
    subst this
    decide
 generalize whX x i = w at *
 obtain ⟨j,hj⟩ : ∃ j,j = 3 - i % 3:=⟨_,rfl⟩
 have hI:=iterX_ok hx w n j (by omega)
 have hstep : (iterX x w n (j + 1)).l ≠ []:=by
  show (addX x w (9 - j) (iterX x w n j)).l ≠ []
  have hl:=hI.lenj
  have e : 9 - j = 6 + i % 3:=by omega
  rw [e]
  unfold addX
  rw [if_pos ⟨by omega,hq⟩]
  simp
 have hmono : ∀ m,(iterX x w n (j + 1 + m)).l ≠ []:=by
  intro m
  induction m with
  | zero=>exact hstep
  | succ m ih =>
    show (addX x w (9 - (j + 1 + m)) (iterX x w n (j + 1 + m))).l ≠ []
    unfold addX
    split
    · simp
    · exact ih
 have:=hmono (9 - j)
 have e : j + 1 + (9 - j) = 10:=by omega
 rwa [e] at this
theorem seqOk_up : ∀ (l : List Bd) (p : Option Int),(∀ c ∈ l,c.b = 0 ∨ bedOk c.b = true) → l.Pairwise (fun a b=>a.b < b.b) → (∀ q,p = some q → ∀ c ∈ l,q < c.b) → seqOk p l = true
 | [],_,_,_,_=>rfl
 | x :: l, p, h1, h2, h3 => by
   obtain ⟨h4,h5⟩:=List.pairwise_cons.1 h2
   simp only [seqOk,Bool.and_eq_true,Bool.or_eq_true,decide_eq_true_eq]
   refine ⟨⟨h1 x (by simp),?_⟩,seqOk_up l _ (fun c hc=>h1 c (by simp [hc])) h5 (fun q hq c hc=>by injection hq with hq; subst hq; exact h4 c hc)⟩
   cases p with
   | none=>rfl
   | some q=>simpa using h3 q rfl x (by simp)
theorem aimX_ok {x : Rx} (hx : WfRx x) {i : Nat} (hi : i = 0 ∨ i < x.which.length) : aimOk 24 (aimX x i) = true ∧ (aimX x i).beds.length ≤ 5:=by
 have hI:=iterX_ok hx (whX x i) (nX x i) 10 (Nat.le_refl _)
 have hne:=bedsX_ne hx hi (nX x i)
 unfold aimX sX
 generalize iterX x (whX x i) (nX x i) 10 = p at *
 obtain ⟨l,s,h,n'⟩:=p
 obtain ⟨h1,h2,h3,h4,h5,h6,h7,h8⟩:=hI
 simp only at h1 h2 h3 h4 h5 h6 h7 h8 hne
 have hat : bedOk (bedX (6 + i % 3)) = true:=by
  have : ∀ k,k < 3 → bedOk (bedX (6 + k)) = true:=by decide
  exact this _ (Nat.mod_lt _ (by omega))
 have main : ∀ l' : List Bd,l' ≠ [] → l'.length ≤ 5 → (∀ c ∈ l',(∃ k,k < 10 ∧ c.b = bedX k) ∧ 0 ≤ c.lo ∧ c.lo ≤ c.hi ∧ c.hi ≤ 24) → l'.Pairwise (fun a b=>a.b < b.b) → loS l' ≤ 24 → 24 ≤ hiS l' →
  aimOk 24 ⟨bedX (6 + i % 3),l'⟩ = true ∧ l'.length ≤ 5:=by
  intro l' n1 n2 n3 n4 n5 n6
  refine ⟨?_,n2⟩
  unfold aimOk
  simp only [Bool.and_eq_true,decide_eq_true_eq,Bool.not_eq_true']
  refine ⟨⟨⟨⟨⟨hat,?_⟩,?_⟩,?_⟩,n5⟩,n6⟩
  · cases l' with
    | nil=>exact absurd rfl n1
    | cons _ _=>rfl
  · exact seqOk_up l' none (fun c hc=>by
     obtain ⟨⟨k,k1,k2⟩,_⟩:=n3 c hc
     rw [k2]; exact bedX_ok k1) n4 (fun q hq=>by cases hq)
  · refine List.all_eq_true.2 fun c hc=>?_
    obtain ⟨_,e1,e2,e3⟩:=n3 c hc
    simp [e1,e2,e3]
 cases l with
 | nil=>exact absurd rfl hne
 | cons c l =>
   obtain ⟨q1,q2⟩:=List.pairwise_cons.1 h4
   unfold fixX
   simp only
   have hc:=h3 c (by simp)
   have hl0 : 0 ≤ hiS l:=by
    have : ∀ l : List Bd,(∀ c ∈ l,0 ≤ c.hi) → 0 ≤ hiS l:=by
     intro l
     induction l with
     | nil=>intro _; simp [hiS]
     | cons y l ih =>
       intro hy
       have a1:=hy y (by simp)
       have a2:=ih fun c hc=>hy c (by simp [hc])
       simp only [hiS,List.map_cons,List.sum_cons] at a2 ⊢
       omega
    exact this l fun c hc=>by have:=h3 c (by simp [hc]); omega
   simp only [loS,hiS,List.map_cons,List.sum_cons] at h5 h7 hl0
   split
   · refine main _ (by simp) (by simpa using h1) ?_ ?_ ?_ ?_
     · intro d hd
       rcases List.mem_cons.1 hd with rfl | hd
       · obtain ⟨⟨k,k1,k2,k3⟩,e1,e2,e3⟩:=hc
         exact ⟨⟨k,k2,k3⟩,e1,by simp only; omega,by simp only; omega⟩
       · obtain ⟨⟨k,k1,k2,k3⟩,e⟩:=h3 d (by simp [hd])
         exact ⟨⟨k,k2,k3⟩,e⟩
     · exact List.pairwise_cons.2 ⟨q1,q2⟩
     · simp only [loS,List.map_cons,List.sum_cons]; omega
     · simp only [hiS,List.map_cons,List.sum_cons]; omega
   · refine main _ (by simp) (by simpa using h1) ?_ h4 ?_ ?_
     · intro d hd
       obtain ⟨⟨k,k1,k2,k3⟩,e⟩:=h3 d hd
       exact ⟨⟨k,k2,k3⟩,e⟩
     · simp only [loS,List.map_cons,List.sum_cons]; omega
     · simp only [hiS,List.map_cons,List.sum_cons]; omega
theorem ruleX_aim {x : Rx} (hx : WfRx x) {most : Nat} {a : Am} (ha : a ∈ (ruleX x most).aims) : aimOk 24 a = true ∧ a.beds.length ≤ 5:=by
 obtain ⟨i,hi,rfl⟩:=List.mem_map.1 ha
 rw [List.mem_range,cntX_lt] at hi
 exact aimX_ok hx (by omega)
theorem ruleX_len (x : Rx) (most : Nat) : (ruleX x most).aims.length = cntX x most:=by simp [ruleX,aimsX]
theorem ruleX_check {x : Rx} (hx : WfRx x) {most : Nat} (hm : most ≤ 20) : checkR (ruleX x most) = 0:=by
 have hl:=ruleX_len x most
 have ha:=fun a (h : a ∈ (ruleX x most).aims)=>ruleX_aim hx h
 have hs:=hx.start
 have ho:=hx.out
 have hcv : checkV (ruleX x most).d (ruleX x most).aims = 0:=by
  unfold checkV
  have hc : cntX x most ≤ 20 ∧ 1 ≤ cntX x most:=by unfold cntX; omega
  rw [if_neg,if_neg,if_pos]
  · exact List.all_eq_true.2 fun a h=>(ha a h).1
  · simp only [Bool.or_eq_true,List.isEmpty_iff,Bool.not_eq_true',Bool.and_eq_false_iff,decide_eq_false_iff_not]
    have : (ruleX x most).aims ≠ []:=fun h=>by rw [h] at hl; simp at hl; omega
    have hd : (ruleX x most).d = 24:=rfl
    simp [this,hd]
  · simp only [Bool.or_eq_true,decide_eq_true_eq,List.any_eq_true,not_or,not_exists,not_and]
    refine ⟨by omega,fun a h=>?_⟩
    have:=(ha a h).2
    omega
 unfold checkR
 rw [if_pos hcv,if_pos]
 simp only [ruleX]
 omega
theorem wf_aim {a : Am} (h : aimOk 24 a = true) : WfA a:=by
 obtain ⟨h1,h2,h3,h4,h5,h6⟩:=aimOk_facts h
 have hb : ∀ b : Int,bedOk b = true → I64 b:=fun b hb=>by
  unfold bedOk at hb
  simp only [Bool.or_eq_true,Bool.and_eq_true,decide_eq_true_eq] at hb
  unfold I64; omega
 refine ⟨hb _ h1,fun c hc=>?_⟩
 have hc2:=List.all_eq_true.1 h4 c hc
 simp only [Bool.and_eq_true,decide_eq_true_eq] at hc2
 refine ⟨?_,by unfold I64; omega,by unfold I64; omega⟩
 rcases seqOk_bed _ _ h3 c hc with h | h
 · rw [h]; unfold I64; omega
 · exact hb _ h
theorem ruleX_wf {x : Rx} (hx : WfRx x) {most : Nat} : WfL (ruleX x most).d (ruleX x most).aims:=by
 refine ⟨?_,fun a ha=>wf_aim (ruleX_aim hx ha).1⟩
 show I64 24
 unfold I64; omega
theorem byteOf_ok (l : List Int) (i : Nat) : ACalls Try.prog 30 [u8s l,i64 i] (.it .u8 (byteL l i)):=by
 refine acalls_st (rs:=[.it .u8 (byteL l i)]) [.tmp 4] Try.func30 rfl (by kernel_rfl) Try.ntmps30 rfl (by simp) rfl fun C vs=>?_
 refine zq ?_
 refine zb fun K hK=>?_;simp only [go_sem];refine hK _ ?_;clear hK K;refine zw (zk [0,1]) ?_;simp only [go_sem]
 by_cases h : l = []
 · subst h
   repeat refine zq ?_
   refine zb fun K hK=>?_;simp only [go_sem];refine hK _ ?_;clear hK K;refine zw (zk [0,1,7]) ?_;simp only [go_sem]
   refine zc rfl (fun hc=>?_) (fun hc=>?_) <;> (try simp only [go_sem] at hc)
   refine zq ?_
   refine zb fun K hK=>?_;simp only [go_sem];refine hK _ ?_;clear hK K;refine zw (zk [4]) ?_;simp only [go_sem];refine ze ?_;simp only [go_sem]
   rfl
 · have hp : 0 < l.length:=List.length_pos_iff.2 h
   have c : ((l.length : Int) == 0) = false:=by simp; omega
   have hm : i % l.length < l.length:=Nat.mod_lt _ hp
   obtain ⟨x,hx⟩:=opt_of_lt hm
   have ht : (i : Int).tmod (l.length : Int) = ((i % l.length : Nat) : Int):=(Int.ofNat_tmod _ _).symm
   repeat refine zq ?_
   refine zb fun K hK=>?_;simp only [go_sem,c]
   intros
   refine hK _ ?_;clear hK K;refine zw (zk [0,1,7]) ?_;simp only [go_sem]
   refine zc rfl (fun hc=>?_) (fun hc=>?_) <;> (try simp only [go_sem] at hc)
   refine zx ?_
   try simp only [go_sem]
   refine zq ?_
   refine zb fun K hK=>?_;simp only [go_sem,ht,hx,hm]
   intros
   refine ⟨by omega,?_⟩
   refine hK _ ?_;clear hK K;refine zw (zk [4]) ?_;simp only [go_sem];refine ze ?_;simp only [go_sem]
   simp [byteL,h,List.getD_eq_getElem?_getD,hx]
theorem beds_ok : ACalls Try.prog 59 [] (ints beds10):=by
 refine acalls_st (rs:=[ints beds10]) [.tmp 0] Try.func59 rfl (by kernel_rfl) Try.ntmps59 rfl (by simp) rfl fun C vs=>?_
 refine zq ?_
 refine zb fun K hK=>?_;simp only [go_sem];refine hK _ ?_;clear hK K;refine zw (zk []) ?_;simp only [go_sem]
 refine zq ?_
 refine zb fun K hK=>?_;simp only [go_sem];refine hK _ ?_;clear hK K;refine zw (zk [0]) ?_;simp only [go_sem];refine ze ?_;simp only [go_sem]
 try rfl
theorem lowest_ok (g : Int) : ACalls Try.prog 25 [i64 g] (i64 (lowG g)):=by
 refine acalls_st (rs:=[i64 (lowG g)]) [.tmp 2] Try.func25 rfl (by kernel_rfl) Try.ntmps25 rfl (by simp) rfl fun C vs=>?_
 refine zq ?_
 refine zb fun K hK=>?_;simp only [go_sem];refine hK _ ?_;clear hK K;refine zw (zk [0]) ?_;simp only [go_sem]
 repeat refine zq ?_
 refine zb fun K hK=>?_;simp only [go_sem];refine hK _ ?_;clear hK K;refine zw (zk [4]) ?_;simp only [go_sem]
 by_cases h : g = 0
 · have e : (g == 0) = true:=by simpa using h
   have e2 : lowG g = 1:=by unfold lowG; rw [if_pos h]
   rw [e,e2]
   refine zc rfl (fun hc=>?_) (fun hc=>?_) <;> (try simp only [go_sem] at hc)
   refine zq ?_
   refine zb fun K hK=>?_;simp only [go_sem];refine hK _ ?_;clear hK K;refine zw (zk [2]) ?_;simp only [go_sem];refine ze ?_;simp only [go_sem]
 · have e : (g == 0) = false:=by simpa using h
   have e2 : lowG g = 2:=by unfold lowG; rw [if_neg h]
   rw [e,e2]
   refine zc rfl (fun hc=>?_) (fun hc=>?_) <;> (try simp only [go_sem] at hc)
   refine zx ?_
   try simp only [go_sem]
   refine zq ?_
   refine zb fun K hK=>?_;simp only [go_sem];refine hK _ ?_;clear hK K;refine zw (zk [2]) ?_;simp only [go_sem];refine ze ?_;simp only [go_sem]
end Go.Proofs.Ytgfbenanljjgaaa.Du.Th.Ai

namespace Go.Oc
open Go Go.RowKit
set_option linter.unusedVariables false
set_option linter.unusedSimpArgs false
def xopW (P : Program) (ol : List Nat) (o : Oper) (K : AS → Prop) (s : AS) : Prop :=
 match o.op,o.dst with
 | .buildSlice t n ps,some d=>if ol.contains d then aR s (some d) (sBuildOwn P s d t n (ps.toList.map fun (i,x)=>(i,s.ev x))) K else xop P false o K s
 | _,_=>xop P false o K s
theorem xopW_sound {P : Program} {C : Ctx} {s : AS} {ol : List Nat} {p : Plan} {a : Act} {w : World} {o : Oper} {KA : AS → Prop} (hp : SR C p s a w) (h : xopW P ol o KA s) (hd0 : ∀ t,o.dst = some t → t < s.n) {K : Act → World → Prop} {Q : Exit → Act → World → Prop}
 (hK : ∀ a' w' p' s',SR C p' s' a' w' → s'.n = s.n → KA s' → K a' w') (hnd : ∀ c,o.op ≠ .defer c) : o.wpIn (fnc C.rd) 0 P a w K Q:=by
 unfold xopW at h
 split at h
 · rename_i t n ps d ho hdst
   split at h
   · refine wpIn_of_wp hnd ?_
     have hd1 : o.dst.getD 0 = d:=by rw [hdst]; rfl
     have hg:=good_buildOwn (o:=o) hp ho (by rw [hd1]; exact h.1)
     rw [hd1] at hg
     obtain ⟨nx,v,w',p',hrun,hnx,hass,hSR,hrel⟩:=hg
     unfold Oper.wp
     rw [hrun]
     have hput:=hSR.put' (d:=o.dst) hrel (fun t ht=>hd0 t ht)
     have hk:=h.2 hass
     rw [← hdst] at hk
     rcases hnx with rfl | ⟨rfl,rfl⟩
     · exact hK (a.put o.dst v) w' p' _ hput (app_n _ _ _) hk
     · exact hK (a.put o.dst undef) w' p' _ hput (app_n _ _ _) hk
   · exact xop_sound hp h hd0 hK hnd
 · exact xop_sound hp h hd0 hK hnd
def stepAllO (P : Program) (ol : List Nat) (ops : Array Oper) (n : Nat) (F : (Nat → Bool) → (Nat → Nat) → List (Nat × AV)) (R : (Nat → Bool) → (Nat → Nat) → List (Nat × RowC)) : Nat → List Oper → Prop
 | _,[]=>True
 | k,o :: rest=>(∀ b vs,(∀ j e,j < ops.size → (deps ops j).contains e = true → b j = true → b e = true) → b k = false → (∀ e ∈ deps ops k,b e = true) →
  xopW P ol o (FitV n (F (upd b k true)) (R (upd b k true))) (st n (F b vs) vs (R b vs))) ∧ stepAllO P ol ops n F R (k + 1) rest
theorem stepAllO_get {P : Program} {ol : List Nat} {ops : Array Oper} {n : Nat} {F : (Nat → Bool) → (Nat → Nat) → List (Nat × AV)} {R : (Nat → Bool) → (Nat → Nat) → List (Nat × RowC)} : ∀ {l : List Oper} {k i : Nat} {o : Oper},stepAllO P ol ops n F R k l → l[i]? = some o →
 ∀ b vs, (∀ j e, j < ops.size → (deps ops j).contains e = true → b j = true → b e = true) → b (k + i) = false → (∀ e ∈ deps ops (k + i), b e = true) →
   xopW P ol o (FitV n (F (upd b (k + i) true)) (R (upd b (k + i) true))) (st n (F b vs) vs (R b vs))
 | [],_,_,_,_,h=>by simp at h
 | x :: l, k, 0, o, hs, h => by
   simp only [List.getElem?_cons_zero,Option.some.injEq] at h
   subst h
   exact hs.1
 | x :: l, k, i + 1, o, hs, h => by
   have:=stepAllO_get (k:=k + 1) (i:=i) hs.2 (by simpa using h)
   rwa [show k + 1 + i = k + (i + 1) by omega] at this
section
variable {P : Program} {C : Ctx} {s : AS} {a : Act} {w : World} {ops : Array Oper}
theorem inv_anyO {ol : List Nat} {Q : AS → Prop} {Q' : Exit → Act → World → Prop} (hQ : ∀ s a w,Q s → SRel C s a w → Q' .normal a w) {n : Nat} {F : (Nat → Bool) → (Nat → Nat) → List (Nat × AV)} {R : (Nat → Bool) → (Nat → Nat) → List (Nat × RowC)}
 (hd : dstOk ops n = true) (hg : ops.all (fun o=>o.guard.isNone) = true) (hu : upOk ops = true) (hstep : stepAllO P ol ops n F R 0 ops.toList)
 (hend : ∀ b vs,(∀ j,b j = true) → Q (st n (F b vs) vs (R b vs))) :
 ∀ (fuel : Nat) (vs : Nat → Nat) (listed : Array Bool) (a : Act) (w : World), listed.size = ops.size → down ops listed → unl listed ops.size ≤ fuel → SRel C (st n (F (fun j => listed.getD j true) vs) vs (R (fun j => listed.getD j true) vs)) a w →
   wpAnyIn (fnc C.rd) 0 P .any ops Q' fuel listed a w:=by
 have all : ∀ {listed : Array Bool},listed.size = ops.size → (∀ j,j < ops.size → listed.getD j true = true) → ∀ j,(fun j=>listed.getD j true) j = true:=fun {listed} hsz h j=>by
  by_cases hj : j < ops.size
  · exact h j hj
  · show listed.getD j true = true
    have : ¬ j < listed.size:=by omega
    simp [this]
 intro fuel
 induction fuel with
 | zero =>
   intro vs listed a w hsz hdn hf hs
   have h0:=unl_zero (listed:=listed) ops.size (by omega)
   refine ⟨List.eq_nil_iff_forall_not_mem.2 fun j hj=>?_,hQ _ _ _ (hend _ _ (all hsz h0)) hs⟩
   obtain ⟨h1,o,ho,_⟩:=mem_ready.1 hj
   have:=h0 j (Array.getElem?_eq_some_iff.1 ho).1
   rw [this] at h1
   cases h1
 | succ fuel ih =>
   intro vs listed a w hsz hdn hf hs
   refine ⟨fun h0=>hQ _ _ _ (hend _ _ (all hsz (ready_nil hu h0 hsz))) hs,fun i hi=>?_⟩
   obtain ⟨hi1,o,ho,hall⟩:=mem_ready.1 hi
   unfold wpOpIn
   rw [ho]
   simp only
   have hil : i < ops.size:=(Array.getElem?_eq_some_iff.1 ho).1
   have hgo : o.guard = none:=by
    have:=Array.all_eq_true_iff_forall_mem.1 hg o (Array.mem_of_getElem? ho)
    simpa using this
   obtain ⟨p,hp⟩:=hs
   rw [if_pos (wantA_sound hp (by simp [wantA,hgo]))]
   have hx:=stepAllO_get (k:=0) (i:=i) hstep (by rw [Array.getElem?_toList]; exact ho) (fun j=>listed.getD j true) vs (fun j e hj he hb=>?_) (by rw [Nat.zero_add]; exact hi1) (fun e he=>?_)
   · rw [Nat.zero_add] at hx
     refine xopW_sound hp hx (dstOk_get hd ho) (fun a' w' p' s' hs' hn hK=>?_) (dstOk_nd hd ho)
     obtain ⟨vs',hsub⟩:=hK
     have e : upd (fun j=>listed.getD j true) i true = fun j=>(listed.setIfInBounds i true).getD j true:=by
      funext j
      rw [getD_setT]
      rfl
     rw [e] at hsub
     exact ih vs' _ a' w' (by simpa using hsz) (down_set hdn hi) (by have:=unl_set hi1 ops.size hil; omega) (hsub C a' w' ⟨p',hs'⟩)
   · have hjs : j < listed.size:=by omega
     have hb' : listed.getD j true = true:=hb
     have h2:=hdn j (by simpa [hjs] using hb') e (by simpa using he)
     show listed.getD e true = true
     by_cases hes : e < listed.size
     · simpa [hes] using h2
     · simp [hes]
   · have h2:=ready_deps hi e (by simpa using he)
     show listed.getD e true = true
     by_cases hes : e < listed.size
     · simpa [hes] using h2
     · simp [hes]
end
theorem awp_invO {P : Program} (ol : List Nat) {C : Ctx} {id : Nat} {l : List Oper} {n : Nat} {Q : Exit → AS → Prop} {s : AS} (F : (Nat → Bool) → (Nat → Nat) → List (Nat × AV)) (R : (Nat → Bool) → (Nat → Nat) → List (Nat × RowC)) (hm : P.follows .mixedOrders = true)
 (hd : dstOk l.toArray n = true) (hg : l.toArray.all (fun o=>o.guard.isNone) = true) (hu : upOk l.toArray = true) (h0 : FitV n (F fun j=>decide (l.length ≤ j)) (R fun j=>decide (l.length ≤ j)) s)
 (hstep : stepAllO P ol l.toArray n F R 0 l) (hend : ∀ b vs,(∀ j,b j = true) → Q .normal (st n (F b vs) vs (R b vs))) : awp P C (.region id l.toArray true) Q s:=fun a w hs=>by
 obtain ⟨vs,hsub⟩:=h0
 obtain ⟨p,hp⟩:=hsub C a w hs
 have hs' : SR C p _ a { w with drawn:=w.drawn + 1 }:=hp.below (w':=w.drew) ((Below.refl _ _).drew) (fun _ h=>h) (fun _ h=>.inl h) hp.rb
 refine wpIn_region_any hm ?_
 have e : (fun j=>(Array.replicate l.toArray.size false).getD j true) = fun j=>decide (l.length ≤ j):=by
  funext j
  by_cases h : j < l.length
  · have : ¬ l.length ≤ j:=by omega
    simp [h,this]
  · have : l.length ≤ j:=by omega
    simp [h,this]
 refine inv_anyO (ol:=ol) (Q:=fun s=>Q .normal s) (n:=n) (F:=F) (R:=R) (fun s a w hq hs=>⟨s,hs,hq⟩) hd hg hu (by simpa using hstep) hend _ vs _ _ _ (by simp) (fun j hj=>?_) ?_ ?_
 · exfalso
   simp only [Array.getD_eq_getD_getElem?,Array.getElem?_replicate] at hj
   split at hj <;> simp at hj
 · have : ∀ m,unl (Array.replicate l.toArray.size false) m ≤ m:=by
    intro m
    induction m with
    | zero=>exact Nat.le_refl _
    | succ m ih=>simp only [unl]; split <;> omega
   exact this _
 · rw [e]
   exact ⟨p,hs'⟩
end Go.Oc

namespace Go.Proofs.Ytgfbenanljjgaaa.Du.Th.Ai
open Go Go.Oc
set_option linter.unusedSimpArgs false
set_option linter.unusedVariables false
set_option maxRecDepth 8000
set_option maxHeartbeats 8000000
abbrev rxC (x : Rx) : List RV:=[.sl 1 (x.which.map fun n=>[.it .u16 n]),u8s x.low,u8s x.high,.it .u8 x.start,.it .u8 x.out]
def vG (b : Nat → Bool) (j : Nat) (v : AV) : AV:=if b j then v else .r .un
def gbF (A : List RV) (most n i k : Nat) (w q sm hgh : Int) (c : Bd) (l : List Bd) (b : Nat → Bool) (vs : Nat → Nat) : List (Nat × AV) :=
 [(1,.r (i64 most)),(2,.r (.rp A)),(4,.pt 4 (vs 4) 0),(5,.pt 5 (vs 5) 0),(6,.r (i64 (n : Int))),(7,.r (i64 (i : Int))),(8,.r (.it .u16 w)),(9,.pt 9 (vs 9) 0),(10,.r (ints beds10)),(11,.r (i64 sm)),(12,.r (i64 hgh)),(13,.r (i64 (k : Int))),(14,.r (.rp [i64 c.lo,i64 c.hi])),
  (106,vG b 0 (.r (ints beds10))),
  (107,vG b 1 (.r (i64 (k : Int)))),
  (108,vG b 2 (.r (.rp [i64 c.b]))),
  (109,vG b 3 (.r (i64 c.b))),
  (110,vG b 4 (.r (.ag [i64 c.lo,i64 c.hi]))),
  (111,vG b 5 (.ag [.r (i64 c.b),.r (i64 c.lo),.r (i64 c.hi)])),
  (112,vG b 6 (.os 112 (vs 112 - (bif b 9 then 1 else 0)) 3 0 1)),
  (113,vG b 7 (.pt 9 (vs 9) 1)),
  (114,vG b 8 (.r (.sl 3 (l.map bedR)))),
  (115,vG b 9 (.os 112 (vs 112) 3 0 (l.length + 1))),
  (116,vG b 10 (.pt 9 (vs 9) 1))]
def gbR (S O q : Int) (i : Nat) (aa : List (List RV)) (c : Bd) (l : List Bd) (b : Nat → Bool) (vs : Nat → Nat) : List (Nat × RowC) :=
 bif b 11 then [(4,.box [.r (i64 0),.r .ns,.r (i64 0),.r (i64 0)]),(5,.box [.r (i64 24),.os 158 (vs 158) 2 0 i,.r (i64 S),.r (i64 O)]),(9,.box [.r (i64 q),.os 112 (vs 112) 3 0 (l.length + 1)]),(112,.arr 68 3 (bedR c :: l.map bedR)),(158,.arr 63 2 aa)]
 else bif b 9 then [(4,.box [.r (i64 0),.r .ns,.r (i64 0),.r (i64 0)]),(5,.box [.r (i64 24),.os 158 (vs 158) 2 0 i,.r (i64 S),.r (i64 O)]),(9,.box [.r (i64 q),.r (.sl 3 (l.map bedR))]),(112,.arr 68 3 (bedR c :: l.map bedR)),(158,.arr 63 2 aa)]
 else bif b 6 then [(4,.box [.r (i64 0),.r .ns,.r (i64 0),.r (i64 0)]),(5,.box [.r (i64 24),.os 158 (vs 158) 2 0 i,.r (i64 S),.r (i64 O)]),(9,.box [.r (i64 q),.r (.sl 3 (l.map bedR))]),(112,.arr 68 3 [bedR c]),(158,.arr 63 2 aa)]
 else [(4,.box [.r (i64 0),.r .ns,.r (i64 0),.r (i64 0)]),(5,.box [.r (i64 24),.os 158 (vs 158) 2 0 i,.r (i64 S),.r (i64 O)]),(9,.box [.r (i64 q),.r (.sl 3 (l.map bedR))]),(158,.arr 63 2 aa)]
theorem rules_ok {x : Rx} (hw : WfRx x) (most : Nat) (hmost : most ≤ 20) : ACalls Try.prog 24 [.ag (rxC x),i64 most] (rkR (ruleX x most)):=by
 obtain ⟨s0,s1⟩:=hw.start
 obtain ⟨o0,o1⟩:=hw.out
 have q1 : IntKind.i64.wrap x.start = x.start:=by rw [zI] <;> omega
 have q2 : x.start.tmod 5 = x.start % 5:=Int.tmod_eq_emod_of_nonneg s0
 have q3 : x.out.tmod 3 = x.out % 3:=Int.tmod_eq_emod_of_nonneg o0
 have q4 : IntKind.i64.wrap (x.out % 3) = x.out % 3:=by rw [zI] <;> omega
 have q5 : IntKind.i64.wrap (2 + x.start % 5) = 2 + x.start % 5:=by rw [zI] <;> omega
 have hbe:=beds_ok
 refine acalls_st (rs:=[rkR (ruleX x most)]) [.cell 4 27] Try.func24 rfl (by kernel_rfl) Try.ntmps24 rfl (by simp) rfl fun C vs=>?_
 refine zq ?_
 refine zb fun K hK=>?_;simp only [go_sem];refine hK _ ?_;clear hK K;refine zw (sub_frzP 2 2 (rxC x) (by omega) rfl rfl) ?_;refine zw (zk [1,2,4]) ?_;simp only [go_sem]
 refine zq ?_
 refine zb fun K hK=>?_;simp only [go_sem,q1,q2,q3,q4,q5];refine hK _ ?_;clear hK K;refine zw (zk [1,2,4,5]) ?_;simp only [go_sem]
 refine zq ?_
 refine zb fun K hK=>?_;simp only [go_sem];refine hK _ ?_;clear hK K;refine zw (zk [1,2,4,5,6]) ?_;simp only [go_sem]
 repeat refine zq ?_
 refine zb fun K hK=>?_;simp only [go_sem];refine hK _ ?_;clear hK K;refine zw (zk [1,2,4,5,6,7]) ?_;simp only [go_sem];refine zd ?_;refine zw (sub_ownB 5 1 158 63 2 (by omega) (by omega) rfl rfl) ?_
 try simp only [go_sem]
 generalize hS : 2 + x.start % 5 = S
 generalize hO : x.out % 3 = O
 refine awp_whileV (n:=153) (fun (i : Nat) vs=>[(1,.r (i64 most)),(2,.r (.rp (rxC x))),(4,.pt 4 (vs 4) 0),(5,.pt 5 (vs 5) 0),(6,.r (i64 (nX x i : Int))),(7,.r (i64 (i : Int)))])
  (fun i vs=>[(4,.box [.r (i64 0),.r .ns,.r (i64 0),.r (i64 0)]),(5,.box [.r (i64 24),.os 158 (vs 158) 2 0 i,.r (i64 S),.r (i64 O)]),(158,.arr 63 2 ((aimsX x i).map aimR))])
  (fun i=>i ≤ cntX x most) (fun i=>cntX x most - i) 0 (zj [] ?_ ?_) (Nat.zero_le _) ?_
 · try simp only [go_sem]
   try rfl
 · try simp only [go_sem]
   try rfl
 intro i vs hi
 have hml:=cntX_lt x most i
 repeat refine zq ?_
 refine awp_joinV (n:=153) (fun (_ : Unit) vs=>[(1,.r (i64 most)),(2,.r (.rp (rxC x))),(4,.pt 4 (vs 4) 0),(5,.pt 5 (vs 5) 0),(6,.r (i64 (nX x i : Int))),(7,.r (i64 (i : Int))),(39,.r (.bo (decide (i < cntX x most))))])
  (fun _ vs=>[(4,.box [.r (i64 0),.r .ns,.r (i64 0),.r (i64 0)]),(5,.box [.r (i64 24),.os 158 (vs 158) 2 0 i,.r (i64 S),.r (i64 O)]),(158,.arr 63 2 ((aimsX x i).map aimR))]) (fun _=>True) (fun _ h=>h) ?_ ?_
 · skip
   refine zb fun K hK=>?_;simp only [go_sem,List.length_map]
   repeat' first | intro _ | refine And.intro ?_ ?_
   all_goals first | omega | skip
   all_goals (refine hK _ ?_; clear hK K)
   all_goals (try simp only [go_sem])
   all_goals (refine ⟨(),zj [] ?_ ?_⟩ <;> try simp only [go_sem])
   all_goals (rw [Bool.eq_iff_iff]; simp; omega)
 intro _ vs _
 refine zc rfl (fun hc=>?_) (fun hc=>?_) <;> (try simp only [go_sem] at hc)
 rotate_left
 · have hie : i = cntX x most:=by
    have : ¬ i < cntX x most:=by simpa using hc
    omega
   subst hie
   have hR : rkR (ruleX x most) = .ag [i64 24,aimsR (aimsX x (cntX x most)),i64 S,i64 O]:=by rw [← hS,← hO]; rfl
   have hal : (aimsX x (cntX x most)).length = cntX x most:=by simp [aimsX]
   rw [hR]
   refine zf ?_;simp only [go_sem];refine zw (sub_frzB 5 1 158 (by omega) (by omega) rfl rfl rfl (by simp [hal])) ?_
   try simp only [go_sem]
   rw [List.take_of_length_le (show ((aimsX x (cntX x most)).map aimR).length ≤ cntX x most by simp [hal])]
   refine zw (zk [4,5]) ?_;simp only [go_sem]
   refine zq ?_
   refine zb fun K hK=>?_;simp only [go_sem];refine hK _ ?_;clear hK K;refine zw (zk [4]) ?_;simp only [go_sem];refine ze ?_;simp only [go_sem]
 have hil : i < cntX x most:=by simpa using hc
 refine zx ?_
 try simp only [go_sem]
 refine zq ?_
 refine zd ?_
 obtain ⟨q,hq⟩ : ∃ q,q = 6 + i % 3:=⟨_,rfl⟩
 have hq8 : q ≤ 8:=by omega
 have ht : (i : Int).tmod 3 = ((i % 3 : Nat) : Int):=(Int.ofNat_tmod _ _).symm
 have hqi : IntKind.i64.wrap (6 + (i : Int).tmod 3) = (q : Int):=by rw [ht,zI] <;> omega
 have hqw : (0 : Int) ≤ IntKind.u64.wrap (q : Int):=by rw [wrap64s q (by omega)]; omega
 obtain ⟨w,hwq⟩ : ∃ w,w = whX x i:=⟨_,rfl⟩
 refine zq ?_
 refine zb fun K hK=>?_;simp only [go_sem];refine hK _ ?_;clear hK K;refine zw (zk [1,2,4,5,6,7,8]) ?_;simp only [go_sem]
 repeat refine zq ?_
 refine zb fun K hK=>?_;simp only [go_sem,List.length_map]
 intro _
 refine hK _ ?_;clear hK K;refine zw (zk [1,2,4,5,6,7,8,46]) ?_;simp only [go_sem]
 refine awp_joinV (n:=153) (fun (_ : Unit) vs=>[(1,.r (i64 most)),(2,.r (.rp (rxC x))),(4,.pt 4 (vs 4) 0),(5,.pt 5 (vs 5) 0),(6,.r (i64 (nX x i : Int))),(7,.r (i64 (i : Int))),(8,.r (.it .u16 w))])
  (fun _ vs=>[(4,.box [.r (i64 0),.r .ns,.r (i64 0),.r (i64 0)]),(5,.box [.r (i64 24),.os 158 (vs 158) 2 0 i,.r (i64 S),.r (i64 O)]),(158,.arr 63 2 ((aimsX x i).map aimR))]) (fun _=>True) (fun _ h=>h) ?_ ?_
 · by_cases hiw : i < x.which.length
   · obtain ⟨n,hn⟩:=opt_of_lt hiw
     have hwv : w = bitOr .u16 n (shlI .u16 1 (IntKind.u64.wrap (q : Int))):=by
      rw [hwq,whX,if_pos hiw,hq]
      simp [List.getD,hn]
     rw [hwv]
     have hm:=hw.which n (mem_of_opt hn)
     refine zc rfl (fun hc=>?_) (fun hc=>?_) <;> (try simp only [go_sem] at hc)
     rotate_left
     · exact absurd hiw hc
     refine zb fun K hK=>?_;simp only [go_sem,hn,hiw,hqi,List.length_map];refine hK _ ?_;clear hK K
     try simp only [go_sem]
     exact ⟨(),zj [] (by try simp only [go_sem]) (by try simp only [go_sem])⟩
   · have hwv : w = 64:=by rw [hwq,whX,if_neg hiw]
     rw [hwv]
     refine zc rfl (fun hc=>?_) (fun hc=>?_) <;> (try simp only [go_sem] at hc)
     · exact absurd hc hiw
     refine zx ?_
     try simp only [go_sem]
     exact ⟨(),zj [] (by try simp only [go_sem]) (by try simp only [go_sem])⟩
 intro _ vs _
 have hbl : beds10.length = 10:=rfl
 have hq10 : q < 10:=by omega
 have hqb : beds10[q]? = some (bedX q):=by
  unfold bedX
  rw [List.getD_eq_getElem?_getD,List.getElem?_eq_getElem (by rw [hbl]; exact hq10)]; rfl
 refine zq ?_
 refine awp_dreg2 [(7,none)] follows (by decide +kernel) (by kernel_rfl) (by simp only [keysOk,List.mem_cons,List.not_mem_nil,forall_eq_or_imp,Oc.keyOf,go_sem]; simp) fun K hK=>?_
 simp only [go_sem,hqi,hqb,hbl,hq10]
 refine zh (hbe) rfl (by simp only [go_sem,i64,ints,hqi,hqb,hbl,hq10]) (by simp only [go_sem,i64,ints,hqi,hqb,hbl,hq10]) (by first | exact .inl rfl | exact .inr rfl) ?_
 (try simp only [go_sem,hqi,hqb,hbl,hq10])
 refine ⟨by omega,?_⟩
 refine zh (hbe) rfl (by simp only [go_sem,i64,ints,hqi,hqb,hbl,hq10]) (by simp only [go_sem,i64,ints,hqi,hqb,hbl,hq10]) (by first | exact .inl rfl | exact .inr rfl) ?_
 (try simp only [go_sem,hqi,hqb,hbl,hq10]);refine hK _ ?_;clear hK K;refine zw (sub_ownB 9 1 112 68 3 (by omega) (by omega) rfl rfl) ?_;refine zw (zk [1,2,4,5,6,7,8,9,10,11,12]) ?_;simp only [go_sem]
 repeat refine zq ?_
 refine zb fun K hK=>?_;simp only [go_sem];refine hK _ ?_;clear hK K;refine zw (zk [1,2,4,5,6,7,8,9,10,11,12,13]) ?_;simp only [go_sem];refine zd ?_
 have hnj:=fun j=>iterX_n x w (nX x i) j
 have hnx:=nX_le x i
 have hcn : i < 20:=by unfold cntX at hil; omega
 have hI:=fun j (hj : j ≤ 10)=>iterX_ok hw w (nX x i) j hj
 have hn10 : nX x (i + 1) = (iterX x w (nX x i) 10).n:=by rw [hwq]; rfl
 have hs10 : aimX x i = ⟨bedX q,fixX (iterX x w (nX x i) 10)⟩:=by rw [hwq,hq]; rfl
 have hn0 : nX x i = (iterX x w (nX x i) 0).n:=rfl
 have hfull:=iterX_full x w (nX x i)
 have hstep : ∀ j,iterX x w (nX x i) (j + 1) = addX x w (9 - j) (iterX x w (nX x i) j):=fun j=>rfl
 have hz : iterX x w (nX x i) 0 = ⟨[],0,0,nX x i⟩:=rfl
 generalize hitd : iterX x w (nX x i) = it at *
 refine awp_uptoV (n:=153) 10 (fun j vs=>[(1,.r (i64 most)),(2,.r (.rp (rxC x))),(4,.pt 4 (vs 4) 0),(5,.pt 5 (vs 5) 0),(6,.r (i64 ((it j).n : Int))),(7,.r (i64 (i : Int))),(8,.r (.it .u16 w)),(9,.pt 9 (vs 9) 0),(10,.r (ints beds10)),(11,.r (i64 (it j).sum)),(12,.r (i64 (it j).high)),(13,.r (i64 (9 - (j : Int))))])
  (fun j vs=>[(4,.box [.r (i64 0),.r .ns,.r (i64 0),.r (i64 0)]),(5,.box [.r (i64 24),.os 158 (vs 158) 2 0 i,.r (i64 S),.r (i64 O)]),(9,.box [.r (i64 (bedX q)),.os 112 (vs 112) 3 0 (it j).l.length]),(112,.arr 68 3 ((it j).l.map bedR)),(158,.arr 63 2 ((aimsX x i).map aimR))]) (fun _=>True) 0 (zj [] ?_ ?_) (Nat.zero_le _) trivial ?_
 · try simp only [go_sem]
   rw [hz]
   try simp
 · try simp only [go_sem]
   rw [hz]
   try rfl
 intro j vs hj _
 have hIj:=hI j hj
 have hfj:=hfull j
 have hsj:=hstep j
 have hnj':=hnj j
 generalize hP : it j = P at *
 obtain ⟨l,sm,hgh,n⟩:=P
 simp only at hIj hfj
 have hl5:=hIj.len
 simp only at hl5
 by_cases hcj : j < 10 ∧ l.length < 5
 · obtain ⟨hj10,hlt5⟩:=hcj
   obtain ⟨k,hk⟩ : ∃ k,k = 9 - j:=⟨_,rfl⟩
   have hk9 : (9 : Int) - (j : Int) = (k : Int):=by omega
   have hkd : IntKind.i64.wrap ((k : Int) - 1) = 9 - ((j + 1 : Nat) : Int):=by rw [zI] <;> omega
   have hkw : (0 : Int) ≤ IntKind.u64.wrap (k : Int):=by rw [wrap64s k (by omega)]; omega
   rw [← hk] at hsj
   have e1 : decide ((k : Int) ≥ 0) = true:=by simp
   have e2 : decide ((l.length : Int) < 5) = true:=by simp; omega
   simp only
   rw [hk9]
   repeat refine zq ?_
   refine zb fun K hK=>?_;simp only [go_sem,e1,e2,List.length_map]
   intro _
   refine hK _ ?_;clear hK K;refine zw (zk [1,2,4,5,6,7,8,9,10,11,12,13,73]) ?_;simp only [go_sem]
   refine zc rfl (fun hc=>?_) (fun hc=>?_) <;> (try simp only [go_sem] at hc)
   refine zx ?_
   try simp only [go_sem]
   refine zq ?_
   refine zd ?_
   refine zq ?_
   refine zb fun K hK=>?_;simp only [go_sem];refine hK _ ?_;clear hK K;refine zw (zk [1,2,4,5,6,7,8,9,10,11,12,13,81]) ?_;simp only [go_sem]
   cases hB : hasB w k
   · have hB' : (bitAnd IntKind.u16 (shrI IntKind.u16 w (IntKind.u64.wrap (k : Int))) 1 == 1) = false:=hB
     have hns : it (j + 1) = ⟨l,sm,hgh,n⟩:=by
      rw [hsj]; unfold addX; rw [if_neg (by simp [hB])]
     rw [hns]
     rw [hB']
     refine zc rfl (fun hc=>?_) (fun hc=>?_) <;> (try simp only [go_sem] at hc)
     refine zx ?_
     try simp only [go_sem]
     refine zb fun K hK=>?_;simp only [go_sem,hkd];refine hK _ ?_;clear hK K
     try simp only [go_sem]
     refine ⟨hj10,zj [] ?_ ?_⟩
     · try simp only [go_sem]
     · try simp only [go_sem]
   · have hB' : (bitAnd IntKind.u16 (shrI IntKind.u16 w (IntKind.u64.wrap (k : Int))) 1 == 1) = true:=hB
     rw [hB']
     refine zc rfl (fun hc=>?_) (fun hc=>?_) <;> (try simp only [go_sem] at hc)
     have bl:=byteL_le hw.low n
     have bh:=byteL_le hw.high n
     have hb1:=byteOf_ok x.low n
     have hb2:=byteOf_ok x.high n
     obtain ⟨smb0,smb1⟩:=hIj.sum0
     obtain ⟨hgb0,hgb1⟩:=hIj.high0
     simp only at smb0 smb1 hgb0 hgb1
     obtain ⟨bl',hbl'⟩ : ∃ b,b = byteL x.low n:=⟨_,rfl⟩
     obtain ⟨bh',hbh'⟩ : ∃ b,b = byteL x.high n:=⟨_,rfl⟩
     obtain ⟨lo,hlo⟩ : ∃ lo,lo = min (bl' % 6) (24 - sm):=⟨_,rfl⟩
     obtain ⟨hi',hhi⟩ : ∃ hi,hi = min 24 (lo + bh' % 9):=⟨_,rfl⟩
     have hns : it (j + 1) = ⟨⟨bedX k,lo,hi'⟩ :: l,sm + lo,hgh + hi',n + 1⟩:=by
      rw [hsj]; unfold addX; rw [if_pos ⟨hlt5,hB⟩,hhi,hlo,hbl',hbh']
     rw [← hbl'] at bl hb1
     rw [← hbh'] at bh hb2
     have t1 : bl'.tmod 6 = bl' % 6:=Int.tmod_eq_emod_of_nonneg bl.1
     have t2 : bh'.tmod 9 = bh' % 9:=Int.tmod_eq_emod_of_nonneg bh.1
     have w1 : IntKind.i64.wrap bl' = bl':=by rw [zI] <;> omega
     have w2 : IntKind.i64.wrap bh' = bh':=by rw [zI] <;> omega
     have w3 : IntKind.i64.wrap (24 - sm) = 24 - sm:=by rw [zI] <;> omega
     have w4 : IntKind.i64.wrap (lo + bh' % 9) = lo + bh' % 9:=by rw [zI] <;> omega
     have w5 : IntKind.i64.wrap ((n : Int) + 1) = ((n + 1 : Nat) : Int):=by
      have : n ≤ 1000:=by simp only at hnj'; omega
      rw [zI] <;> omega
     have hk10 : k < 10:=by omega
     have hkb : beds10[k]? = some (bedX k):=by
      unfold bedX
      rw [List.getD_eq_getElem?_getD,List.getElem?_eq_getElem (by rw [hbl]; exact hk10)]; rfl
     rw [hns]
     refine zq ?_
     refine zb fun K hK=>?_;simp only [go_sem,w1,t1]
     refine zh (hb1) rfl (by simp only [go_sem,i64,ints,w1,t1]) (by simp only [go_sem,i64,ints,w1,t1]) (by first | exact .inl rfl | exact .inr rfl) ?_
     (try simp only [go_sem,w1,t1]);refine hK _ ?_;clear hK K;refine zw (zk [1,2,4,5,6,7,8,9,10,11,12,13,14]) ?_;simp only [go_sem]
     refine zq ?_
     refine zb fun K hK=>?_;simp only [go_sem,w3];refine hK _ ?_;clear hK K;rw [← hlo]
     refine zw (zk [1,2,4,5,6,7,8,9,10,11,12,13,14]) ?_;simp only [go_sem]
     refine zq ?_
     refine awp_dreg2 [(2,none),(6,none),(14,some 14)] follows (by decide +kernel) (by kernel_rfl) (by simp only [keysOk,List.mem_cons,List.not_mem_nil,forall_eq_or_imp,Oc.keyOf,go_sem]; simp) fun K hK=>?_
     simp only [go_sem,w2,t2,w4]
     refine zh (hb2) rfl (by simp only [go_sem,i64,ints,w2,t2,w4]) (by simp only [go_sem,i64,ints,w2,t2,w4]) (by first | exact .inl rfl | exact .inr rfl) ?_
     (try simp only [go_sem,w2,t2,w4]);refine hK _ ?_;clear hK K;rw [← hhi]
     refine zw (sub_frzP 14 14 [i64 lo,i64 hi'] (by omega) rfl rfl) ?_;refine zw (sub_frzB 9 1 112 (by omega) (by omega) rfl rfl rfl (by simp)) ?_
     try simp only [go_sem]
     refine zw (zk [1,2,4,5,6,7,8,9,10,11,12,13,14]) ?_;simp only [go_sem]
     obtain ⟨c,hc'⟩ : ∃ c : Bd,c = ⟨bedX k,lo,hi'⟩:=⟨_,rfl⟩
     rw [← hc']
     have hclo : lo = c.lo:=by rw [hc']
     have hchi : hi' = c.hi:=by rw [hc']
     have hcb : bedX k = c.b:=by rw [hc']
     rw [hclo,hchi]
     refine zq ?_
     refine awp_invO [112] (n:=153) (gbF (rxC x) most n i k w (bedX q) sm hgh c l) (gbR S O (bedX q) i ((aimsX x i).map aimR) c l) follows (by kernel_rfl) (by kernel_rfl) (by decide +kernel) (zj [] ?_ ?_) ?_ ?_
     · simp only [go_sem,gbF,vG,hclo,hchi,if_true,if_false,Bool.false_eq_true,cond_false]
     · simp only [go_sem,gbR,cond_false,List.cons_append,List.nil_append]
     · refine ⟨fun b vs hdn hbk hde=>?_,fun b vs hdn hbk hde=>?_,fun b vs hdn hbk hde=>?_,fun b vs hdn hbk hde=>?_,fun b vs hdn hbk hde=>?_,fun b vs hdn hbk hde=>?_,fun b vs hdn hbk hde=>?_,fun b vs hdn hbk hde=>?_,fun b vs hdn hbk hde=>?_,fun b vs hdn hbk hde=>?_,fun b vs hdn hbk hde=>?_,fun b vs hdn hbk hde=>?_,trivial⟩
       · skip
         have G:=dnT hdn hbk [2,10,11,3,5,6,9] (by decide +kernel)
         simp only [allB,and_true] at G
         (simp only [go_sem,gbF,gbR,upd,vG,cond_true,cond_false,if_true,Bool.false_eq_true,if_false,hbk,G,xopW,sBuildOwn,hkb,hbl,hk10,hcb,List.length_map,List.length_cons,List.length_nil,Nat.sub_zero,Nat.add_sub_cancel,Nat.zero_add,Nat.add_comm 1 l.length,bedR])
         all_goals (refine zj [] ?_ ?_ <;> (simp only [go_sem,gbF,gbR,upd,vG,cond_true,cond_false,if_true,Bool.false_eq_true,if_false,hbk,G,xopW,sBuildOwn,hkb,hbl,hk10,hcb,List.length_map,List.length_cons,List.length_nil,Nat.sub_zero,Nat.add_sub_cancel,Nat.zero_add,Nat.add_comm 1 l.length,bedR]))
       · skip
         have G:=dnT hdn hbk [2,10,11,3,5,6,9] (by decide +kernel)
         simp only [allB,and_true] at G
         (simp only [go_sem,gbF,gbR,upd,vG,cond_true,cond_false,if_true,Bool.false_eq_true,if_false,hbk,G,xopW,sBuildOwn,hkb,hbl,hk10,hcb,List.length_map,List.length_cons,List.length_nil,Nat.sub_zero,Nat.add_sub_cancel,Nat.zero_add,Nat.add_comm 1 l.length,bedR])
         all_goals (refine zj [] ?_ ?_ <;> (simp only [go_sem,gbF,gbR,upd,vG,cond_true,cond_false,if_true,Bool.false_eq_true,if_false,hbk,G,xopW,sBuildOwn,hkb,hbl,hk10,hcb,List.length_map,List.length_cons,List.length_nil,Nat.sub_zero,Nat.add_sub_cancel,Nat.zero_add,Nat.add_comm 1 l.length,bedR]))
       · skip
         have H:=upT hdn hde [0,1] (by decide +kernel)
         have G:=dnT hdn hbk [3,10,11,5,6,9] (by decide +kernel)
         simp only [allB,and_true] at H G
         (simp only [go_sem,gbF,gbR,upd,vG,cond_true,cond_false,if_true,Bool.false_eq_true,if_false,hbk,H,G,xopW,sBuildOwn,hkb,hbl,hk10,hcb,List.length_map,List.length_cons,List.length_nil,Nat.sub_zero,Nat.add_sub_cancel,Nat.zero_add,Nat.add_comm 1 l.length,bedR])
         all_goals refine ⟨by omega,?_⟩
         all_goals (refine zj [] ?_ ?_ <;> (simp only [go_sem,gbF,gbR,upd,vG,cond_true,cond_false,if_true,Bool.false_eq_true,if_false,hbk,H,G,xopW,sBuildOwn,hkb,hbl,hk10,hcb,List.length_map,List.length_cons,List.length_nil,Nat.sub_zero,Nat.add_sub_cancel,Nat.zero_add,Nat.add_comm 1 l.length,bedR]))
       · skip
         have H:=upT hdn hde [2,0,1] (by decide +kernel)
         have G:=dnT hdn hbk [5,10,11,6,9] (by decide +kernel)
         simp only [allB,and_true] at H G
         (simp only [go_sem,gbF,gbR,upd,vG,cond_true,cond_false,if_true,Bool.false_eq_true,if_false,hbk,H,G,xopW,sBuildOwn,hkb,hbl,hk10,hcb,List.length_map,List.length_cons,List.length_nil,Nat.sub_zero,Nat.add_sub_cancel,Nat.zero_add,Nat.add_comm 1 l.length,bedR])
         all_goals (refine zj [] ?_ ?_ <;> (simp only [go_sem,gbF,gbR,upd,vG,cond_true,cond_false,if_true,Bool.false_eq_true,if_false,hbk,H,G,xopW,sBuildOwn,hkb,hbl,hk10,hcb,List.length_map,List.length_cons,List.length_nil,Nat.sub_zero,Nat.add_sub_cancel,Nat.zero_add,Nat.add_comm 1 l.length,bedR]))
       · skip
         have G:=dnT hdn hbk [5,10,11,6,9] (by decide +kernel)
         simp only [allB,and_true] at G
         (simp only [go_sem,gbF,gbR,upd,vG,cond_true,cond_false,if_true,Bool.false_eq_true,if_false,hbk,G,xopW,sBuildOwn,hkb,hbl,hk10,hcb,List.length_map,List.length_cons,List.length_nil,Nat.sub_zero,Nat.add_sub_cancel,Nat.zero_add,Nat.add_comm 1 l.length,bedR])
         all_goals (refine zj [] ?_ ?_ <;> (simp only [go_sem,gbF,gbR,upd,vG,cond_true,cond_false,if_true,Bool.false_eq_true,if_false,hbk,G,xopW,sBuildOwn,hkb,hbl,hk10,hcb,List.length_map,List.length_cons,List.length_nil,Nat.sub_zero,Nat.add_sub_cancel,Nat.zero_add,Nat.add_comm 1 l.length,bedR]))
       · skip
         have H:=upT hdn hde [3,4,2,0,1] (by decide +kernel)
         have G:=dnT hdn hbk [6,10,11,9] (by decide +kernel)
         simp only [allB,and_true] at H G
         (simp only [go_sem,gbF,gbR,upd,vG,cond_true,cond_false,if_true,Bool.false_eq_true,if_false,hbk,H,G,xopW,sBuildOwn,hkb,hbl,hk10,hcb,List.length_map,List.length_cons,List.length_nil,Nat.sub_zero,Nat.add_sub_cancel,Nat.zero_add,Nat.add_comm 1 l.length,bedR])
         all_goals (refine zj [] ?_ ?_ <;> (simp only [go_sem,gbF,gbR,upd,vG,cond_true,cond_false,if_true,Bool.false_eq_true,if_false,hbk,H,G,xopW,sBuildOwn,hkb,hbl,hk10,hcb,List.length_map,List.length_cons,List.length_nil,Nat.sub_zero,Nat.add_sub_cancel,Nat.zero_add,Nat.add_comm 1 l.length,bedR]))
       · skip
         have H:=upT hdn hde [5,3,4,2,0,1] (by decide +kernel)
         have G:=dnT hdn hbk [9,10,11] (by decide +kernel)
         simp only [allB,and_true] at H G
         (simp only [go_sem,gbF,gbR,upd,vG,cond_true,cond_false,if_true,Bool.false_eq_true,if_false,hbk,H,G,xopW,sBuildOwn,hkb,hbl,hk10,hcb,List.length_map,List.length_cons,List.length_nil,Nat.sub_zero,Nat.add_sub_cancel,Nat.zero_add,Nat.add_comm 1 l.length,bedR])
         all_goals (refine zj [] ?_ ?_ <;> (simp only [go_sem,gbF,gbR,upd,vG,cond_true,cond_false,if_true,Bool.false_eq_true,if_false,hbk,H,G,xopW,sBuildOwn,hkb,hbl,hk10,hcb,List.length_map,List.length_cons,List.length_nil,Nat.sub_zero,Nat.add_sub_cancel,Nat.zero_add,Nat.add_comm 1 l.length,bedR]))
       · skip
         have G:=dnT hdn hbk [8,10,11,9] (by decide +kernel)
         simp only [allB,and_true] at G
         cases g6 : b 6
         all_goals (simp only [go_sem,gbF,gbR,upd,vG,cond_true,cond_false,if_true,Bool.false_eq_true,if_false,hbk,G,g6,xopW,sBuildOwn,hkb,hbl,hk10,hcb,List.length_map,List.length_cons,List.length_nil,Nat.sub_zero,Nat.add_sub_cancel,Nat.zero_add,Nat.add_comm 1 l.length,bedR])
         all_goals (refine zj [] ?_ ?_ <;> (simp only [go_sem,gbF,gbR,upd,vG,cond_true,cond_false,if_true,Bool.false_eq_true,if_false,hbk,G,g6,xopW,sBuildOwn,hkb,hbl,hk10,hcb,List.length_map,List.length_cons,List.length_nil,Nat.sub_zero,Nat.add_sub_cancel,Nat.zero_add,Nat.add_comm 1 l.length,bedR]))
       · skip
         have H:=upT hdn hde [7] (by decide +kernel)
         have G:=dnT hdn hbk [9,10,11] (by decide +kernel)
         simp only [allB,and_true] at H G
         cases g6 : b 6
         all_goals (simp only [go_sem,gbF,gbR,upd,vG,cond_true,cond_false,if_true,Bool.false_eq_true,if_false,hbk,H,G,g6,xopW,sBuildOwn,hkb,hbl,hk10,hcb,List.length_map,List.length_cons,List.length_nil,Nat.sub_zero,Nat.add_sub_cancel,Nat.zero_add,Nat.add_comm 1 l.length,bedR])
         all_goals (refine zj [] ?_ ?_ <;> (simp only [go_sem,gbF,gbR,upd,vG,cond_true,cond_false,if_true,Bool.false_eq_true,if_false,hbk,H,G,g6,xopW,sBuildOwn,hkb,hbl,hk10,hcb,List.length_map,List.length_cons,List.length_nil,Nat.sub_zero,Nat.add_sub_cancel,Nat.zero_add,Nat.add_comm 1 l.length,bedR]))
       · skip
         have H:=upT hdn hde [6,8,5,7,3,4,2,0,1] (by decide +kernel)
         have G:=dnT hdn hbk [10,11] (by decide +kernel)
         simp only [allB,and_true] at H G
         (simp only [go_sem,gbF,gbR,upd,vG,cond_true,cond_false,if_true,Bool.false_eq_true,if_false,hbk,H,G,xopW,sBuildOwn,hkb,hbl,hk10,hcb,List.length_map,List.length_cons,List.length_nil,Nat.sub_zero,Nat.add_sub_cancel,Nat.zero_add,Nat.add_comm 1 l.length,bedR])
         all_goals refine ⟨by omega,?_⟩
         all_goals (refine zj [] ?_ ?_ <;> (simp only [go_sem,gbF,gbR,upd,vG,cond_true,cond_false,if_true,Bool.false_eq_true,if_false,hbk,H,G,xopW,sBuildOwn,hkb,hbl,hk10,hcb,List.length_map,List.length_cons,List.length_nil,Nat.sub_zero,Nat.add_sub_cancel,Nat.zero_add,Nat.add_comm 1 l.length,bedR]))
       · skip
         have H:=upT hdn hde [0,1,2,3,4,5,6,7,8,9] (by decide +kernel)
         have G:=dnT hdn hbk [11] (by decide +kernel)
         simp only [allB,and_true] at H G
         (simp only [go_sem,gbF,gbR,upd,vG,cond_true,cond_false,if_true,Bool.false_eq_true,if_false,hbk,H,G,xopW,sBuildOwn,hkb,hbl,hk10,hcb,List.length_map,List.length_cons,List.length_nil,Nat.sub_zero,Nat.add_sub_cancel,Nat.zero_add,Nat.add_comm 1 l.length,bedR])
         all_goals (refine zj [] ?_ ?_ <;> (simp only [go_sem,gbF,gbR,upd,vG,cond_true,cond_false,if_true,Bool.false_eq_true,if_false,hbk,H,G,xopW,sBuildOwn,hkb,hbl,hk10,hcb,List.length_map,List.length_cons,List.length_nil,Nat.sub_zero,Nat.add_sub_cancel,Nat.zero_add,Nat.add_comm 1 l.length,bedR]))
       · skip
         have H:=upT hdn hde [0,1,2,3,4,5,6,7,8,9,9,9,10] (by decide +kernel)
         simp only [allB,and_true] at H
         (simp only [go_sem,gbF,gbR,upd,vG,cond_true,cond_false,if_true,Bool.false_eq_true,if_false,hbk,H,xopW,sBuildOwn,hkb,hbl,hk10,hcb,List.length_map,List.length_cons,List.length_nil,Nat.sub_zero,Nat.add_sub_cancel,Nat.zero_add,Nat.add_comm 1 l.length,bedR])
         all_goals (refine zj [] ?_ ?_ <;> (simp only [go_sem,gbF,gbR,upd,vG,cond_true,cond_false,if_true,Bool.false_eq_true,if_false,hbk,H,xopW,sBuildOwn,hkb,hbl,hk10,hcb,List.length_map,List.length_cons,List.length_nil,Nat.sub_zero,Nat.add_sub_cancel,Nat.zero_add,Nat.add_comm 1 l.length,bedR]))
     intro b vs hb
     simp only [go_sem,gbF,gbR,vG,hb,if_true,cond_true,List.cons_append,List.nil_append];refine zw (zk [1,2,4,5,6,7,8,9,10,11,12,13,14]) ?_;simp only [go_sem]
     have w6 : IntKind.i64.wrap (sm + c.lo) = sm + c.lo:=by rw [zI] <;> omega
     have w7 : IntKind.i64.wrap (hgh + c.hi) = hgh + c.hi:=by rw [zI] <;> omega
     refine awp_dreg2 [(6,none),(11,none),(12,none),(14,none)] follows (by decide +kernel) (by kernel_rfl) (by simp only [keysOk,List.mem_cons,List.not_mem_nil,forall_eq_or_imp,Oc.keyOf,go_sem]; simp) fun K hK=>?_
     simp only [go_sem,w5,w6,w7];refine hK _ ?_;clear hK K;refine zw (zk [1,2,4,5,6,7,8,9,10,11,12,13]) ?_;simp only [go_sem];refine zb fun K hK=>?_;simp only [go_sem,hkd];refine hK _ ?_;clear hK K
     try simp only [go_sem]
     refine ⟨hj10,zj [] ?_ ?_⟩
     · try simp only [go_sem]
     · try simp only [go_sem]
       try simp
 have hend : it 10 = ⟨l,sm,hgh,n⟩:=by
  by_cases hj10 : j < 10
  · have h5 : ¬ l.length < 5:=fun h=>hcj ⟨hj10,h⟩
    have:=hfj h5 (10 - j)
    rwa [show j + (10 - j) = 10 by omega] at this
  · have : j = 10:=by omega
    rw [← this]; exact hP
 have hne : l ≠ []:=by
  have:=bedsX_ne hw (show i = 0 ∨ i < x.which.length by omega) (nX x i)
  rw [← hwq,hitd,hend] at this
  exact this
 simp only
 repeat refine zq ?_
 refine awp_joinV (n:=153) (fun (_ : Unit) vs=>[(1,.r (i64 most)),(2,.r (.rp (rxC x))),(4,.pt 4 (vs 4) 0),(5,.pt 5 (vs 5) 0),(6,.r (i64 (n : Int))),(7,.r (i64 (i : Int))),(9,.pt 9 (vs 9) 0),(12,.r (i64 hgh)),(73,.r (.bo false))])
  (fun _ vs=>[(4,.box [.r (i64 0),.r .ns,.r (i64 0),.r (i64 0)]),(5,.box [.r (i64 24),.os 158 (vs 158) 2 0 i,.r (i64 S),.r (i64 O)]),(9,.box [.r (i64 (bedX q)),.os 112 (vs 112) 3 0 l.length]),(112,.arr 68 3 (l.map bedR)),(158,.arr 63 2 ((aimsX x i).map aimR))]) (fun _=>True) (fun _ h=>h) ?_ ?_
 · by_cases hj10 : j < 10
   · have e1 : decide (9 - (j : Int) ≥ 0) = true:=by simp; omega
     have e2 : decide ((l.length : Int) < 5) = false:=by simp; omega
     refine zb fun K hK=>?_;simp only [go_sem,e1,e2,List.length_map]
     intro _
     refine hK _ ?_;clear hK K
     try simp only [go_sem]
     exact ⟨(),zj [] (by try simp only [go_sem]) (by try simp only [go_sem])⟩
   · have e1 : decide (9 - (j : Int) ≥ 0) = false:=by simp; omega
     refine zb fun K hK=>?_;simp only [go_sem,e1,List.length_map];refine hK _ ?_;clear hK K
     try simp only [go_sem]
     exact ⟨(),zj [] (by try simp only [go_sem]) (by try simp only [go_sem])⟩
 intro _ vs _
 refine zc rfl (fun hc=>?_) (fun hc=>?_) <;> (try simp only [go_sem] at hc)
 refine zf ?_;simp only [go_sem]
 have hnn : n = nX x (i + 1):=by rw [hn10,hend]
 have haim : aimX x i = ⟨bedX q,fixX ⟨l,sm,hgh,n⟩⟩:=by rw [hs10,hend]
 obtain ⟨c,l',rfl⟩ : ∃ c l',l = c :: l':=by
  cases l with
  | nil=>exact absurd rfl hne
  | cons c l'=>exact ⟨c,l',rfl⟩
 obtain ⟨fx,hfx⟩ : ∃ fx,fx = fixX ⟨c :: l',sm,hgh,n⟩:=⟨_,rfl⟩
 rw [← hfx] at haim
 have hfl : fx.length = l'.length + 1:=by rw [hfx]; unfold fixX; simp only; split <;> simp
 have hcI:=hIj.each c (by simp)
 obtain ⟨_,hcI0,hcI1,hcI2⟩:=hcI
 obtain ⟨hgb0,hgb1⟩:=hIj.high0
 simp only [List.length_cons] at hgb0 hgb1
 have hl5' : l'.length + 1 ≤ 5:=by simpa using hl5
 repeat refine zq ?_
 refine zb fun K hK=>?_;simp only [go_sem];refine hK _ ?_;clear hK K;refine zw (zk [1,2,4,5,6,7,9,12,128]) ?_;simp only [go_sem]
 refine awp_joinV (n:=153) (fun (_ : Unit) vs=>[(1,.r (i64 most)),(2,.r (.rp (rxC x))),(4,.pt 4 (vs 4) 0),(5,.pt 5 (vs 5) 0),(6,.r (i64 (n : Int))),(7,.r (i64 (i : Int))),(9,.pt 9 (vs 9) 0)])
  (fun _ vs=>[(4,.box [.r (i64 0),.r .ns,.r (i64 0),.r (i64 0)]),(5,.box [.r (i64 24),.os 158 (vs 158) 2 0 i,.r (i64 S),.r (i64 O)]),(9,.box [.r (i64 (bedX q)),.os 112 (vs 112) 3 0 (l'.length + 1)]),(112,.arr 68 3 (fx.map bedR)),(158,.arr 63 2 ((aimsX x i).map aimR))]) (fun _=>True) (fun _ h=>h) ?_ ?_
 · by_cases h24 : hgh < 24
   · have hfe : fx = ⟨c.b,c.lo,min 24 (c.hi + 24 - hgh)⟩ :: l':=by rw [hfx]; unfold fixX; simp only; rw [if_pos h24]
     have e1 : decide (hgh < 24) = true:=decide_eq_true h24
     have w8 : IntKind.i64.wrap (IntKind.i64.wrap (c.hi + 24) - hgh) = c.hi + 24 - hgh:=by
      have : IntKind.i64.wrap (c.hi + 24) = c.hi + 24:=by rw [zI] <;> omega
      rw [this,zI] <;> omega
     rw [hfe,e1]
     refine zc rfl (fun hc=>?_) (fun hc=>?_) <;> (try simp only [go_sem] at hc)
     refine awp_dreg2 [(9,some 9),(12,none)] follows (by decide +kernel) (by kernel_rfl) (by simp only [keysOk,List.mem_cons,List.not_mem_nil,forall_eq_or_imp,Oc.keyOf,go_sem]; simp) fun K hK=>?_
     simp only [go_sem,w8,bedR];(try simp (disch:=omega) only [zI])
     refine ⟨by omega,by omega,by omega,?_⟩
     refine hK _ ?_;clear hK K
     try simp only [go_sem]
     refine ⟨(),zj [] (by try simp only [go_sem]) ?_⟩
     try simp only [go_sem]
     rfl
   · have hfe : fx = c :: l':=by rw [hfx]; unfold fixX; simp only; rw [if_neg h24]
     have e1 : decide (hgh < 24) = false:=decide_eq_false h24
     rw [hfe,e1]
     refine zc rfl (fun hc=>?_) (fun hc=>?_) <;> (try simp only [go_sem] at hc)
     refine zx ?_
     try simp only [go_sem]
     exact ⟨(),zj [] (by try simp only [go_sem]) (by try simp only [go_sem])⟩
 intro _ vs _
 refine zw (sub_frzB 9 1 112 (by omega) (by omega) rfl rfl rfl (by simp [hfl])) ?_
 try simp only [go_sem]
 rw [List.take_of_length_le (show (fx.map bedR).length ≤ l'.length + 1 by simp [hfl])]
 refine zw (sub_frzP 9 9 [i64 (bedX q),bedsR fx] (by omega) rfl rfl) ?_
 have hal : (aimsX x i).length = i:=by simp [aimsX]
 have hsu:=aimsX_succ x i
 refine zw (zk [1,2,4,5,6,7,9]) ?_;simp only [go_sem];refine zb fun K hK=>?_;simp only [go_sem,hal,List.length_map]
 refine ⟨by omega,?_⟩
 refine hK _ ?_;clear hK K;refine zw (zk [1,2,4,5,6,7]) ?_;simp only [go_sem]
 have hi1 : IntKind.i64.wrap ((i : Int) + 1) = ((i + 1 : Nat) : Int):=by rw [zI] <;> omega
 refine zb fun K hK=>?_;simp only [go_sem,hi1];refine hK _ ?_;clear hK K
 try simp only [go_sem]
 refine ⟨i + 1,by omega,by omega,zj [] ?_ ?_⟩
 · try simp only [go_sem]
   rw [hnn]
 · try simp only [go_sem]
   rw [hsu,haim]
   simp [aimR,bedsR]
end Go.Proofs.Ytgfbenanljjgaaa.Du.Th.Ai
