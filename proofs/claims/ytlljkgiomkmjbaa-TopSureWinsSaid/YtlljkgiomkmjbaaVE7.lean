/- Part 7 of the texts of this claim. -/
import Derived.Test.YtlljkgiomkmjbaaVE6
import Derived.Test.YtlljkgiomkmjbaaVE5
namespace Go.Proofs.Ytlljkgiomkmjbaa.Du
open Go Go.Oc
set_option linter.unusedSimpArgs false
set_option linter.unusedVariables false
set_option maxRecDepth 8000
structure VisG (r : Ru) (T : List (List Int)) (k st : Nat) : Prop where
 kk : k < r.ends.length
 h10 : r.ends.length ≤ 10
 ends : ∀ x ∈ r.ends,endOk x = true
 st40 : (st : Int) ≤ r.start
 s40 : r.start ≤ 40
 tab : ∀ left : Nat,(left : Int) ≤ r.start → ∃ row v,k + 1 < r.ends.length → T[k + 1]? = some row ∧ row[left]? = some v ∧ 0 ≤ v ∧ v ≤ 1000000
theorem VisG.after {r : Ru} {T : List (List Int)} {k st : Nat} (h : VisG r T k st) (most : Bool) {left : Nat} (hl : (left : Int) ≤ r.start) : ACalls Try.prog 45 [sideP r most T,i64 k,i64 left] (i64 (afterD r most T k left)):=by
 obtain ⟨row,v,hv⟩:=h.tab left hl
 exact after_ok r most T k left row v h.kk h.h10 h.ends hv
theorem next_ok (r : Ru) (most : Bool) (T : List (List Int)) (k st n left : Nat) (b : Int) (hG : VisG r T k st) (hl1 : 1 ≤ left) (hl : (left : Int) ≤ r.start) (hn : n ≤ 100) (b0 : 0 ≤ b) (b1 : b ≤ 499)
 (hval : n ≠ 0 → ∀ left' : Nat,1 ≤ left' → (left' : Int) ≤ r.start → MCalls Try.prog 180 (visL r most T k st) (visL r most T k st) [.pt 1000 0 0,.r (.ag [i64 (left' : Int),i64 (n : Int)])] (.r (i64 (valV r most T k st n left')))) :
 MCalls Try.prog 120 (visL r most T k st) (visL r most T k st) [.pt 1000 0 0,.r (.ag [i64 (left : Int),i64 ((n : Int) + 1)]),.r (i64 b)] (.r (i64 (nextV r most T k st (valV r most T k st n) (decide (n = 0)) left b))):=by
 have h40:=hG.s40
 have hq:=tdiv100 (b:=b) ⟨by omega,by omega⟩
 have hm:=score_mul b0 b1
 obtain ⟨s0,s1⟩:=score_le b0 b1
 obtain ⟨x,hx⟩ : ∃ x,x = scoreOf b:=⟨_,rfl⟩
 have hdn : IntKind.i64.wrap ((n : Int) + 1 - 1) = n:=by rw [zI] <;> omega
 have hlx : IntKind.i64.wrap ((left : Int) - scoreOf b) = left - scoreOf b:=by rw [zI] <;> omega
 have hop:=opens_ok r b b0 b1
 have hlo : ACalls Try.prog 119 [ruV r] (i64 (lowestR r)):=dlowest_ok r
 refine mcalls_st (n:=88) (rs:=[.r (i64 (nextV r most T k st (valV r most T k st n) (decide (n = 0)) left b))]) _ _ [.tmp 6] Try.func120 rfl (by kernel_rfl) Try.ntmps120 rfl (by simp) rfl rfl fun C=>?_
 repeat refine zq ?_
 refine zb fun K hK=>?_;simp only [go_sem];(try simp (disch:=omega) only [zI]);repeat first | intro _ | refine ⟨by omega,?_⟩
 refine hK _ ?_;clear hK K;refine zw (zk [0,2,4]) ?_;simp only [go_sem]
 repeat refine zq ?_
 refine zb fun K hK=>?_;simp only [go_sem,hq,hm];(try simp (disch:=omega) only [zI]);repeat first | intro _ | refine ⟨by omega,?_⟩
 refine hK _ ?_;clear hK K;refine zw (zk [0,2,4,7]) ?_;simp only [go_sem]
 repeat refine zq ?_
 refine zb fun K hK=>?_;simp only [go_sem,hlx];(try simp (disch:=omega) only [zI]);repeat first | intro _ | refine ⟨by omega,?_⟩
 refine hK _ ?_;clear hK K;refine zw (zk [0,2,4,7]) ?_;simp only [go_sem]
 repeat refine zq ?_
 refine zb fun K hK=>?_;simp only [go_sem,hdn];(try simp (disch:=omega) only [zI]);repeat first | intro _ | refine ⟨by omega,?_⟩
 refine hK _ ?_;clear hK K;refine zw (zk [0,2,4,7]) ?_;simp only [go_sem]
 rw [← hx] at hlx ⊢
 repeat refine zq ?_
 refine zd ?_
 have hst:=hG.after most hG.st40
 have hv : nextV r most T k st (valV r most T k st n) (decide (n = 0)) left b = if decide (0 < x) && (decide ((left : Int) - x = 0) && opensD r.out b) then 1000000
  else if decide (0 < x) && decide ((left : Int) - x < lowestR r) then afterD r most T k st else if n = 0 then afterD r most T k ((left : Int) - x).toNat else valV r most T k st n ((left : Int) - x).toNat:=by
  unfold nextV; rw [← hx]; simp only [decide_eq_true_eq]
 by_cases c1 : 0 < x
 · have d1 : decide (0 < x) = true:=by simpa using c1
   by_cases c2 : (left : Int) - x = 0
   · have d2 : ((left : Int) - x == 0) = true:=by simpa using c2
     cases c3 : opensD r.out b
     · have c4 : (left : Int) - x < lowestR r:=by unfold lowestR; split <;> omega
       have d4 : decide ((left : Int) - x < lowestR r) = true:=by simpa using c4
       rw [c3] at hop
       repeat refine zq ?_
       refine zb fun K hK=>?_;simp only [go_sem,d1,d2];(try simp (disch:=omega) only [zI])
       refine zh (hop) rfl (by simp only [go_sem,i64,ints,d1,d2]) (by simp only [go_sem,i64,ints,d1,d2]) (by first | exact .inl rfl | exact .inr rfl) ?_
       (try simp only [go_sem,d1,d2]);(try simp (disch:=omega) only [zI]);repeat first | intro _ | refine ⟨by omega,?_⟩
       refine hK _ ?_;clear hK K;refine zw (zk [0,4,7,22]) ?_;simp only [go_sem]
       repeat refine zq ?_
       refine zc rfl (fun hc=>?_) (fun hc=>?_) <;> (try simp only [go_sem] at hc)
       repeat refine zq ?_
       refine zg follows (by decide +kernel) (by kernel_rfl) fun K hK=>?_;simp only [go_sem,d1,d4];(try simp (disch:=omega) only [zI])
       refine zh (hlo) rfl (by simp only [go_sem,i64,ints,d1,d4]) (by simp only [go_sem,i64,ints,d1,d4]) (by first | exact .inl rfl | exact .inr rfl) ?_
       (try simp only [go_sem,d1,d4]);(try simp (disch:=omega) only [zI]);repeat first | intro _ | refine ⟨by omega,?_⟩
       refine hK _ ?_;clear hK K;refine zw (zk [0,4,41]) ?_;simp only [go_sem]
       repeat refine zq ?_
       refine zc rfl (fun hc=>?_) (fun hc=>?_) <;> (try simp only [go_sem] at hc)
       repeat refine zq ?_
       refine zg follows (by decide +kernel) (by kernel_rfl) fun K hK=>?_;simp only [go_sem];(try simp (disch:=omega) only [zI])
       refine zh (hst) rfl (by simp only [go_sem,i64,ints]) (by simp only [go_sem,i64,ints]) (by first | exact .inl rfl | exact .inr rfl) ?_
       (try simp only [go_sem]);(try simp (disch:=omega) only [zI]);repeat first | intro _ | refine ⟨by omega,?_⟩
       refine hK _ ?_;clear hK K;refine zw (zk [6]) ?_;simp only [go_sem];refine ze ?_;simp only [go_sem]
       rw [hv]; simp [c1,c3,c4]
     · rw [c3] at hop
       repeat refine zq ?_
       refine zb fun K hK=>?_;simp only [go_sem,d1,d2];(try simp (disch:=omega) only [zI])
       refine zh (hop) rfl (by simp only [go_sem,i64,ints,d1,d2]) (by simp only [go_sem,i64,ints,d1,d2]) (by first | exact .inl rfl | exact .inr rfl) ?_
       (try simp only [go_sem,d1,d2]);(try simp (disch:=omega) only [zI]);repeat first | intro _ | refine ⟨by omega,?_⟩
       refine hK _ ?_;clear hK K;refine zw (zk [0,4,7,22]) ?_;simp only [go_sem]
       repeat refine zq ?_
       refine zc rfl (fun hc=>?_) (fun hc=>?_) <;> (try simp only [go_sem] at hc)
       repeat refine zq ?_
       refine zb fun K hK=>?_;simp only [go_sem];(try simp (disch:=omega) only [zI]);repeat first | intro _ | refine ⟨by omega,?_⟩
       refine hK _ ?_;clear hK K;refine zw (zk [6]) ?_;simp only [go_sem];refine ze ?_;simp only [go_sem]
       rw [hv]; simp [c1,c2,c3]
   · have d2 : ((left : Int) - x == 0) = false:=by simpa using c2
     repeat refine zq ?_
     refine zb fun K hK=>?_;simp only [go_sem,d1,d2];(try simp (disch:=omega) only [zI]);repeat first | intro _ | refine ⟨by omega,?_⟩
     refine hK _ ?_;clear hK K;refine zw (zk [0,4,7,22]) ?_;simp only [go_sem]
     repeat refine zq ?_
     refine zc rfl (fun hc=>?_) (fun hc=>?_) <;> (try simp only [go_sem] at hc)
     by_cases c4 : (left : Int) - x < lowestR r
     · have d4 : decide ((left : Int) - x < lowestR r) = true:=by simpa using c4
       repeat refine zq ?_
       refine zg follows (by decide +kernel) (by kernel_rfl) fun K hK=>?_;simp only [go_sem,d1,d4];(try simp (disch:=omega) only [zI])
       refine zh (hlo) rfl (by simp only [go_sem,i64,ints,d1,d4]) (by simp only [go_sem,i64,ints,d1,d4]) (by first | exact .inl rfl | exact .inr rfl) ?_
       (try simp only [go_sem,d1,d4]);(try simp (disch:=omega) only [zI]);repeat first | intro _ | refine ⟨by omega,?_⟩
       refine hK _ ?_;clear hK K;refine zw (zk [0,4,41]) ?_;simp only [go_sem]
       repeat refine zq ?_
       refine zc rfl (fun hc=>?_) (fun hc=>?_) <;> (try simp only [go_sem] at hc)
       repeat refine zq ?_
       refine zg follows (by decide +kernel) (by kernel_rfl) fun K hK=>?_;simp only [go_sem];(try simp (disch:=omega) only [zI])
       refine zh (hst) rfl (by simp only [go_sem,i64,ints]) (by simp only [go_sem,i64,ints]) (by first | exact .inl rfl | exact .inr rfl) ?_
       (try simp only [go_sem]);(try simp (disch:=omega) only [zI]);repeat first | intro _ | refine ⟨by omega,?_⟩
       refine hK _ ?_;clear hK K;refine zw (zk [6]) ?_;simp only [go_sem];refine ze ?_;simp only [go_sem]
       rw [hv]; simp [c1,c2,c4]
     · have d4 : decide ((left : Int) - x < lowestR r) = false:=by simpa using c4
       have hl1' : 1 ≤ lowestR r:=by unfold lowestR; split <;> omega
       obtain ⟨y,hy⟩ : ∃ y : Nat,(left : Int) - x = (y : Int):=⟨((left : Int) - x).toNat,by omega⟩
       have hyn : ((left : Int) - x).toNat = y:=by omega
       have haf:=hG.after most (left:=y) (by omega)
       rw [hy] at c2 c4
       repeat refine zq ?_
       refine zg follows (by decide +kernel) (by kernel_rfl) fun K hK=>?_;simp only [go_sem,d1,d4];(try simp (disch:=omega) only [zI])
       refine zh (hlo) rfl (by simp only [go_sem,i64,ints,d1,d4]) (by simp only [go_sem,i64,ints,d1,d4]) (by first | exact .inl rfl | exact .inr rfl) ?_
       (try simp only [go_sem,d1,d4]);(try simp (disch:=omega) only [zI]);repeat first | intro _ | refine ⟨by omega,?_⟩
       refine hK _ ?_;clear hK K;refine zw (zk [0,4,41]) ?_;simp only [go_sem]
       repeat refine zq ?_
       refine zc rfl (fun hc=>?_) (fun hc=>?_) <;> (try simp only [go_sem] at hc)
       by_cases c5 : n = 0
       · have d5 : ((n : Int) == 0) = true:=by simpa using c5
         repeat refine zq ?_
         refine zb fun K hK=>?_;simp only [go_sem,d5];(try simp (disch:=omega) only [zI]);repeat first | intro _ | refine ⟨by omega,?_⟩
         refine hK _ ?_;clear hK K;refine zw (zk [0,4,70]) ?_;simp only [go_sem]
         repeat refine zq ?_
         refine zc rfl (fun hc=>?_) (fun hc=>?_) <;> (try simp only [go_sem] at hc)
         repeat refine zq ?_
         refine zg follows (by decide +kernel) (by kernel_rfl) fun K hK=>?_;simp only [go_sem,hy];(try simp (disch:=omega) only [zI])
         refine zh (haf) rfl (by simp only [go_sem,i64,ints]) (by simp only [go_sem,i64,ints]) (by first | exact .inl rfl | exact .inr rfl) ?_
         (try simp only [go_sem]);(try simp (disch:=omega) only [zI]);repeat first | intro _ | refine ⟨by omega,?_⟩
         refine hK _ ?_;clear hK K;refine zw (zk [6]) ?_;simp only [go_sem];refine ze ?_;simp only [go_sem]
         have c2' : ¬ y = 0:=by omega
         rw [hv,hyn]; simp [c1,c2,c2',c4,c5,hy]
       · have d5 : ((n : Int) == 0) = false:=by simpa using c5
         have hvl:=hval c5 y (by omega) (by omega)
         repeat refine zq ?_
         refine zb fun K hK=>?_;simp only [go_sem,d5];(try simp (disch:=omega) only [zI]);repeat first | intro _ | refine ⟨by omega,?_⟩
         refine hK _ ?_;clear hK K;refine zw (zk [0,4,70]) ?_;simp only [go_sem]
         repeat refine zq ?_
         refine zc rfl (fun hc=>?_) (fun hc=>?_) <;> (try simp only [go_sem] at hc)
         refine zx ?_
         try simp only [go_sem]
         refine zw (sub_frzP 4 4 [i64 ((left : Int) - x),i64 (n : Int)] (by omega) rfl rfl) ?_;refine zw (zk [0,4]) ?_;simp only [go_sem]
         repeat refine zq ?_
         refine zb fun K hK=>?_;simp only [go_sem,hy];(try simp (disch:=omega) only [zI])
         refine xcall_mut (hvl) [(1000,1000),(1001,1001)] rfl (by simp only [go_sem,i64,ints]) (by simp only [go_sem,i64,ints]) (by rfl) (by rfl) ?_
         (try simp only [go_sem]);(try simp (disch:=omega) only [zI]);repeat first | intro _ | refine ⟨by omega,?_⟩
         refine hK _ ?_;clear hK K;refine zw (zk [6]) ?_;simp only [go_sem];refine ze ?_;simp only [go_sem]
         have c2' : ¬ y = 0:=by omega
         rw [hv,hyn]; simp [c1,c2,c2',c4,c5,hy]
 · have d1 : decide (0 < x) = false:=by simpa using c1
   have hx0 : x = 0:=by omega
   repeat refine zq ?_
   refine zb fun K hK=>?_;simp only [go_sem,d1];(try simp (disch:=omega) only [zI]);repeat first | intro _ | refine ⟨by omega,?_⟩
   refine hK _ ?_;clear hK K;refine zw (zk [0,4,7,22]) ?_;simp only [go_sem]
   repeat refine zq ?_
   refine zc rfl (fun hc=>?_) (fun hc=>?_) <;> (try simp only [go_sem] at hc)
   repeat refine zq ?_
   refine zg follows (by decide +kernel) (by kernel_rfl) fun K hK=>?_;simp only [go_sem,d1];(try simp (disch:=omega) only [zI]);repeat first | intro _ | refine ⟨by omega,?_⟩
   refine hK _ ?_;clear hK K;refine zw (zk [0,4,41]) ?_;simp only [go_sem]
   have haf:=hG.after most hl
   have hx1 : ((left : Int) - x).toNat = left:=by omega
   subst hx0
   simp only [Int.sub_zero] at hx1 ⊢
   repeat refine zq ?_
   refine zc rfl (fun hc=>?_) (fun hc=>?_) <;> (try simp only [go_sem] at hc)
   by_cases c5 : n = 0
   · have d5 : ((n : Int) == 0) = true:=by simpa using c5
     repeat refine zq ?_
     refine zb fun K hK=>?_;simp only [go_sem,d5];(try simp (disch:=omega) only [zI]);repeat first | intro _ | refine ⟨by omega,?_⟩
     refine hK _ ?_;clear hK K;refine zw (zk [0,4,70]) ?_;simp only [go_sem]
     repeat refine zq ?_
     refine zc rfl (fun hc=>?_) (fun hc=>?_) <;> (try simp only [go_sem] at hc)
     repeat refine zq ?_
     refine zg follows (by decide +kernel) (by kernel_rfl) fun K hK=>?_;simp only [go_sem];(try simp (disch:=omega) only [zI])
     refine zh (haf) rfl (by simp only [go_sem,i64,ints]) (by simp only [go_sem,i64,ints]) (by first | exact .inl rfl | exact .inr rfl) ?_
     (try simp only [go_sem]);(try simp (disch:=omega) only [zI]);repeat first | intro _ | refine ⟨by omega,?_⟩
     refine hK _ ?_;clear hK K;refine zw (zk [6]) ?_;simp only [go_sem];refine ze ?_;simp only [go_sem]
     rw [hv]; simp [c1,c5]
   · have d5 : ((n : Int) == 0) = false:=by simpa using c5
     have hvl:=hval c5 left (by omega) (by omega)
     repeat refine zq ?_
     refine zb fun K hK=>?_;simp only [go_sem,d5];(try simp (disch:=omega) only [zI]);repeat first | intro _ | refine ⟨by omega,?_⟩
     refine hK _ ?_;clear hK K;refine zw (zk [0,4,70]) ?_;simp only [go_sem]
     repeat refine zq ?_
     refine zc rfl (fun hc=>?_) (fun hc=>?_) <;> (try simp only [go_sem] at hc)
     refine zx ?_
     try simp only [go_sem]
     refine zw (sub_frzP 4 4 [i64 (left : Int),i64 (n : Int)] (by omega) rfl rfl) ?_;refine zw (zk [0,4]) ?_;simp only [go_sem]
     repeat refine zq ?_
     refine zb fun K hK=>?_;simp only [go_sem];(try simp (disch:=omega) only [zI])
     refine xcall_mut (hvl) [(1000,1000),(1001,1001)] rfl (by simp only [go_sem,i64,ints]) (by simp only [go_sem,i64,ints]) (by rfl) (by rfl) ?_
     (try simp only [go_sem]);(try simp (disch:=omega) only [zI]);repeat first | intro _ | refine ⟨by omega,?_⟩
     refine hK _ ?_;clear hK K;refine zw (zk [6]) ?_;simp only [go_sem];refine ze ?_;simp only [go_sem]
     rw [hv]; simp [c1,c5]
theorem max_ok (l : List Int) (h : l ≠ []) (hl : l.length ≤ 1000000) : ACalls Try.prog 219 [ints l] (i64 (maxL l)):=by
 have hp : 0 < l.length:=List.length_pos_iff.2 h
 have d0 : decide ((l.length : Int) < 1) = false:=by simp; omega
 obtain ⟨x0,hx0⟩:=opt_of_lt hp
 have hhd : l.headD 0 = x0:=by cases l with | nil=>exact absurd rfl h | cons a l=>simpa using hx0
 have hs : ∀ i v,l[i]? = some v → (l.take (i + 1)).foldl max x0 = max ((l.take i).foldl max x0) v:=fun i v hv=>by
  rw [List.take_add_one,hv]; simp
 refine acalls_st (rs:=[i64 (maxL l)]) [.tmp 2] Try.func219 rfl (by kernel_rfl) Try.ntmps219 rfl (by simp) rfl fun C vs=>?_
 repeat refine zq ?_
 refine zb fun K hK=>?_;simp only [go_sem];(try simp (disch:=omega) only [zI]);repeat first | intro _ | refine ⟨by omega,?_⟩
 refine hK _ ?_;clear hK K;refine zw (zk [0]) ?_;simp only [go_sem]
 repeat refine zq ?_
 refine zb fun K hK=>?_;simp only [go_sem,d0];(try simp (disch:=omega) only [zI]);repeat first | intro _ | refine ⟨by omega,?_⟩
 refine hK _ ?_;clear hK K;refine zw (zk [0,7]) ?_;simp only [go_sem]
 repeat refine zq ?_
 refine zc rfl (fun hc=>?_) (fun hc=>?_) <;> (try simp only [go_sem] at hc)
 refine zx ?_
 try simp only [go_sem]
 repeat refine zq ?_
 refine zb fun K hK=>?_;simp only [go_sem,hx0];(try simp (disch:=omega) only [zI]);repeat first | intro _ | refine ⟨by omega,?_⟩
 refine hK _ ?_;clear hK K;refine zw (zk [0,3]) ?_;simp only [go_sem]
 repeat refine zq ?_
 refine zb fun K hK=>?_;simp only [go_sem];(try simp (disch:=omega) only [zI]);repeat first | intro _ | refine ⟨by omega,?_⟩
 refine hK _ ?_;clear hK K;refine zw (zk [0,3,4]) ?_;simp only [go_sem]
 repeat refine zq ?_
 refine zd ?_
 refine awp_upto (n:=25) l.length (fun i vs=>[(0,.r (ints l)),(3,.r (i64 ((l.take i).foldl max x0))),(4,.r (i64 i))])
  (fun i=>[]) (fun _=>True) 1 (fit_of [] ?_ ?_) (by omega) trivial ?_
 · try simp only [go_sem]
   rw [show (1 : Nat) = 0 + 1 from rfl,hs 0 x0 hx0]; simp
 · try simp only [go_sem]
 · intro i vs hi _
   repeat refine zq ?_
   refine zb fun K hK=>?_;simp only [go_sem];(try simp (disch:=omega) only [zI]);repeat first | intro _ | refine ⟨by omega,?_⟩
   refine hK _ ?_;clear hK K;refine zw (zk [0,3,4,15]) ?_;simp only [go_sem]
   repeat refine zq ?_
   refine zc rfl (fun hc=>?_) (fun hc=>?_) <;> (try simp only [go_sem] at hc)
   · have hci : i < l.length:=by omega
     obtain ⟨v,hv⟩:=opt_of_lt hci
     refine zx ?_
     try simp only [go_sem]
     repeat refine zq ?_
     refine zd ?_
     repeat refine zq ?_
     refine zb fun K hK=>?_;simp only [go_sem,hv];(try simp (disch:=omega) only [zI]);repeat first | intro _ | refine ⟨by omega,?_⟩
     refine hK _ ?_;clear hK K;refine zw (zk [0,3,4]) ?_;simp only [go_sem]
     repeat refine zq ?_
     refine zb fun K hK=>?_;simp only [go_sem];(try simp (disch:=omega) only [zI]);repeat first | intro _ | refine ⟨by omega,?_⟩
     refine hK _ ?_;clear hK K
     try simp only [go_sem]
     refine ⟨by omega,fit_of [] ?_ ?_⟩
     · try simp only [go_sem]
       rw [hs i v hv]
     · try simp only [go_sem]
   · have hil : i = l.length:=by omega
     refine zf ?_;simp only [go_sem]
     repeat refine zq ?_
     refine zb fun K hK=>?_;simp only [go_sem];(try simp (disch:=omega) only [zI]);repeat first | intro _ | refine ⟨by omega,?_⟩
     refine hK _ ?_;clear hK K;refine zw (zk [2]) ?_;simp only [go_sem];refine ze ?_;simp only [go_sem];rw [maxL,hhd,hil,List.take_length]
theorem value_ok (r : Ru) (most : Bool) (T : List (List Int)) (k st n left : Nat) (hn : n ≤ 100) (hl : left ≤ 40) (hne : r.aims ≠ []) (hle : r.aims.length ≤ 1000)
 (hme : MCalls Try.prog 69 (visL r most T k st) (visL r most T k st) [.pt 1000 0 0,.r (.ag [i64 (left : Int),i64 ((n + 1 : Nat) : Int)])] (.r (ints (meansV r most (nextV r most T k st (valV r most T k st n) (decide (n = 0)) left))))) :
 MCalls Try.prog 180 (visL r most T k st) (visL r most T k st) [.pt 1000 0 0,.r (.ag [i64 (left : Int),i64 ((n + 1 : Nat) : Int)])] (.r (i64 (valV r most T k st (n + 1) left))):=by
 have hmx:=max_ok (meansV r most (nextV r most T k st (valV r most T k st n) (decide (n = 0)) left)) (by simp [meansV,hne]) (by simp [meansV]; omega)
 have hval : maxL (meansV r most (nextV r most T k st (valV r most T k st n) (decide (n = 0)) left)) = valV r most T k st (n + 1) left:=rfl
 rw [hval] at hmx
 refine mcalls_st (n:=29) (rs:=[.r (i64 (valV r most T k st (n + 1) left))]) _ _ [.tmp 4] Try.func180 rfl (by kernel_rfl) Try.ntmps180 rfl (by simp) rfl rfl fun C=>?_
 repeat refine zq ?_
 refine zb fun K hK=>?_;simp only [go_sem];(try simp (disch:=omega) only [zI]);repeat first | intro _ | refine ⟨by omega,?_⟩
 refine hK _ ?_;clear hK K;refine zw (sub_frzP 3 3 [i64 (left : Int),i64 ((n + 1 : Nat) : Int)] (by omega) rfl rfl) ?_;refine zw (zk [0,3]) ?_;simp only [go_sem]
 repeat refine zq ?_
 refine awp_openM 1001 (by rfl) fun m hm=>?_
 try simp only [go_sem]
 have ecast : (((n + 1 : Nat)) : Int) = (n : Int) + 1:=by omega
 rcases memo_find (n:=n + 1) (left:=left) (i:=0) hm with hf | ⟨j,hf⟩
 · rw [ecast] at hf
   repeat refine zq ?_
   refine zg follows (by decide +kernel) (by kernel_rfl) fun K hK=>?_;simp only [go_sem,hf,Bool.and_self,eq_self,true_and];(try simp (disch:=omega) only [zI]);repeat first | intro _ | refine ⟨by omega,?_⟩
   refine hK _ ?_;clear hK K;refine zw (sub_shutM (memoV r most T k st) 1001 (by rfl) hm) ?_;refine zw (zk [0,3,5,6]) ?_;simp only [go_sem]
   repeat refine zq ?_
   refine zb fun K hK=>?_;simp only [go_sem];(try simp (disch:=omega) only [zI]);repeat first | intro _ | refine ⟨by omega,?_⟩
   refine hK _ ?_;clear hK K;refine zw (zk [0,3,5,17]) ?_;simp only [go_sem]
   repeat refine zq ?_
   refine zc rfl (fun hc=>?_) (fun hc=>?_) <;> (try simp only [go_sem] at hc)
   repeat refine zq ?_
   refine zb fun K hK=>?_;simp only [go_sem];(try simp (disch:=omega) only [zI])
   refine xcall_mut (hme) [(1000,1000),(1001,1001)] rfl (by simp only [go_sem,i64,ints]) (by simp only [go_sem,i64,ints]) (by rfl) (by rfl) ?_
   (try simp only [go_sem]);(try simp (disch:=omega) only [zI])
   refine zh (hmx) rfl (by simp only [go_sem,i64,ints]) (by simp only [go_sem,i64,ints]) (by first | exact .inl rfl | exact .inr rfl) ?_
   (try simp only [go_sem]);(try simp (disch:=omega) only [zI]);repeat first | intro _ | refine ⟨by omega,?_⟩
   refine hK _ ?_;clear hK K;refine zw (zk [0,3,5]) ?_;simp only [go_sem]
   repeat refine zq ?_
   refine awp_openM 1001 (by rfl) fun m' hm'=>?_
   try simp only [go_sem]
   rcases memo_find (n:=n + 1) (left:=left) (i:=0) hm' with hf' | ⟨j,hf'⟩
   · rw [ecast] at hf'
     repeat refine zq ?_
     refine awp_dreg2 [(0,some 1000),(3,none),(5,none)] follows (by decide +kernel) (by kernel_rfl) (by simp only [keysOk,List.mem_cons,List.not_mem_nil,forall_eq_or_imp,Oc.keyOf,go_sem]; simp) fun K hK=>?_
     simp only [go_sem,hf',Bool.and_self,eq_self,true_and];(try simp (disch:=omega) only [zI]);repeat first | intro _ | refine ⟨by omega,?_⟩
     refine hK _ ?_;clear hK K;refine zw (sub_shutM (memoV r most T k st) 1001 (by rfl) (by have h:=memo_app (n:=n + 1) (left:=left) hm'; rw [ecast] at h; exact h)) ?_;refine zw (zk [5]) ?_;simp only [go_sem]
     repeat refine zq ?_
     refine zb fun K hK=>?_;simp only [go_sem];(try simp (disch:=omega) only [zI]);repeat first | intro _ | refine ⟨by omega,?_⟩
     refine hK _ ?_;clear hK K;refine zw (zk [4]) ?_;simp only [go_sem];refine ze ?_;simp only [go_sem]
   · rw [ecast] at hf'
     repeat refine zq ?_
     refine awp_dreg2 [(0,some 1000),(3,none),(5,none)] follows (by decide +kernel) (by kernel_rfl) (by simp only [keysOk,List.mem_cons,List.not_mem_nil,forall_eq_or_imp,Oc.keyOf,go_sem]; simp) fun K hK=>?_
     simp only [go_sem,hf',Bool.and_self,eq_self,true_and];(try simp (disch:=omega) only [zI]);repeat first | intro _ | refine ⟨by omega,?_⟩
     refine hK _ ?_;clear hK K;refine zw (sub_shutM (memoV r most T k st) 1001 (by rfl) (by have h:=memo_set (n:=n + 1) (left:=left) hm' j; rw [ecast] at h; exact h)) ?_;refine zw (zk [5]) ?_;simp only [go_sem]
     repeat refine zq ?_
     refine zb fun K hK=>?_;simp only [go_sem];(try simp (disch:=omega) only [zI]);repeat first | intro _ | refine ⟨by omega,?_⟩
     refine hK _ ?_;clear hK K;refine zw (zk [4]) ?_;simp only [go_sem];refine ze ?_;simp only [go_sem]
 · rw [ecast] at hf
   repeat refine zq ?_
   refine zg follows (by decide +kernel) (by kernel_rfl) fun K hK=>?_;simp only [go_sem,hf,Bool.and_self,eq_self,true_and];(try simp (disch:=omega) only [zI]);repeat first | intro _ | refine ⟨by omega,?_⟩
   refine hK _ ?_;clear hK K;refine zw (sub_shutM (memoV r most T k st) 1001 (by rfl) hm) ?_;refine zw (zk [0,3,5,6]) ?_;simp only [go_sem]
   repeat refine zq ?_
   refine zb fun K hK=>?_;simp only [go_sem];(try simp (disch:=omega) only [zI]);repeat first | intro _ | refine ⟨by omega,?_⟩
   refine hK _ ?_;clear hK K;refine zw (zk [0,3,5,17]) ?_;simp only [go_sem]
   repeat refine zq ?_
   refine zc rfl (fun hc=>?_) (fun hc=>?_) <;> (try simp only [go_sem] at hc)
   refine zx ?_
   try simp only [go_sem]
   repeat refine zq ?_
   refine zb fun K hK=>?_;simp only [go_sem];(try simp (disch:=omega) only [zI]);repeat first | intro _ | refine ⟨by omega,?_⟩
   refine hK _ ?_;clear hK K;refine zw (zk [4]) ?_;simp only [go_sem];refine ze ?_;simp only [go_sem]
theorem means_ok (r : Ru) (most : Bool) (T : List (List Int)) (k st n left : Nat) (f : Int → Int) (hn : n ≤ 100) (hl : left ≤ 40) (hle : r.aims.length ≤ 1000)
 (hch : ∀ a ∈ r.aims,ChG r.d (chW f a.beds)) (hbd : ∀ a ∈ r.aims,∀ c ∈ a.beds,0 ≤ c.b ∧ c.b ≤ 499)
 (hnx : ∀ b,0 ≤ b → b ≤ 499 → MCalls Try.prog 120 (visL r most T k st) (visL r most T k st) [.pt 1000 0 0,.r (.ag [i64 (left : Int),i64 ((n : Int) + 1)]),.r (i64 b)] (.r (i64 (f b)))) :
 MCalls Try.prog 69 (visL r most T k st) (visL r most T k st) [.pt 1000 0 0,.r (.ag [i64 (left : Int),i64 ((n : Int) + 1)])] (.r (ints (meansV r most f))):=by
 refine mcalls_st (n:=55) (rs:=[.r (ints (meansV r most f))]) _ _ [.tmp 4] Try.func69 rfl (by kernel_rfl) Try.ntmps69 rfl (by simp) rfl rfl fun C=>?_
 repeat refine zq ?_
 refine zb fun K hK=>?_;simp only [go_sem];(try simp (disch:=omega) only [zI]);repeat first | intro _ | refine ⟨by omega,?_⟩
 refine hK _ ?_;clear hK K;refine zw (sub_frzP 3 3 [i64 (left : Int),i64 ((n : Int) + 1)] (by omega) rfl rfl) ?_;refine zw (zk [0,3,4]) ?_;simp only [go_sem]
 repeat refine zq ?_
 refine zb fun K hK=>?_;simp only [go_sem];(try simp (disch:=omega) only [zI]);repeat first | intro _ | refine ⟨by omega,?_⟩
 refine hK _ ?_;clear hK K;refine zw (zk [0,3,4,19,20,21]) ?_;simp only [go_sem];refine zw (sub_own 4 52 3 1 (by omega) rfl) ?_
 try simp only [go_sem]
 repeat refine zq ?_
 refine zd ?_
 refine awp_upto0 (n:=55) r.aims.length (fun i vs=>[(0,.pt 1000 0 0),(3,.r (.rp [i64 (left : Int),i64 ((n : Int) + 1)])),(4,.os 52 (vs 52) 1 0 i),(19,.r (aimsR r.aims)),(20,.r (i64 r.aims.length)),(21,.r (i64 i))])
  (fun i=>[(52,.arr 3 1 (((meansV r most f).take i).map fun x=>[i64 x])),(1000,.box (visC r most T (k : Int) (st : Int) 1001 0)),(1001,.mem (memoV r most T k st))]) (fun _=>True) 0 (fit0_of [] (by repeat (first | exact lent_zero | refine lent_upd (by omega) ?_)) ?_ ?_) (by omega) trivial ?_
 · try simp only [go_sem]
 · try simp only [go_sem]
 · intro i vs hv hi _
   have hv0:=hv 1000 (by omega)
   have hv1:=hv 1001 (by omega)
   repeat refine zq ?_
   refine zb fun K hK=>?_;simp only [go_sem];(try simp (disch:=omega) only [zI]);repeat first | intro _ | refine ⟨by omega,?_⟩
   refine hK _ ?_;clear hK K;refine zw (zk [0,3,4,19,20,21,22]) ?_;simp only [go_sem]
   repeat refine zq ?_
   refine zc rfl (fun hc=>?_) (fun hc=>?_) <;> (try simp only [go_sem] at hc)
   · have hci:=hc
     obtain ⟨a,ha⟩:=opt_of_lt hc
     have haM:=mem_of_opt ha
     have hca:=hch a haM
     have hl19:=hca.len
     have hlen : (chW f a.beds).length = a.beds.length:=by simp [chW]
     rw [hlen] at hl19
     refine zx ?_
     try simp only [go_sem]
     repeat refine zq ?_
     refine zd ?_
     repeat refine zq ?_
     refine zb fun K hK=>?_;simp only [go_sem,ha,hci,aimR];(try simp (disch:=omega) only [zI]);repeat first | intro _ | refine ⟨by omega,?_⟩
     refine hK _ ?_;clear hK K;refine zw (sub_frzP 6 6 [i64 a.at_,bedsR a.beds] (by omega) (by try simp only [go_sem]) (by try simp only [go_sem])) ?_;refine zw (zk [0,3,4,6,19,20,21]) ?_;simp only [go_sem]
     repeat refine zq ?_
     refine zb fun K hK=>?_;simp only [go_sem];(try simp (disch:=omega) only [zI]);repeat first | intro _ | refine ⟨by omega,?_⟩
     refine hK _ ?_;clear hK K;refine zw (zk [0,3,4,6,7,19,20,21]) ?_;simp only [go_sem];refine zw (sub_own 7 42 285 3 (by omega) rfl) ?_
     try simp only [go_sem]
     repeat refine zq ?_
     refine zb fun K hK=>?_;simp only [go_sem];(try simp (disch:=omega) only [zI]);repeat first | intro _ | refine ⟨by omega,?_⟩
     refine hK _ ?_;clear hK K;refine zw (zk [0,3,4,7,19,20,21,26,27,28]) ?_;simp only [go_sem]
     repeat refine zq ?_
     refine zd ?_
     refine awp_upto0 (n:=55) a.beds.length (fun j vs=>[(0,.pt 1000 0 0),(3,.r (.rp [i64 (left : Int),i64 ((n : Int) + 1)])),(4,.os 52 (vs 52) 1 0 i),(7,.os 42 (vs 42) 3 0 j),(19,.r (aimsR r.aims)),(20,.r (i64 r.aims.length)),(21,.r (i64 i)),(26,.r (bedsR a.beds)),(27,.r (i64 a.beds.length)),(28,.r (i64 j))])
      (fun j=>[(42,.arr 285 3 (idx ((chW f a.beds).take j))),(52,.arr 3 1 (((meansV r most f).take i).map fun x=>[i64 x])),(1000,.box (visC r most T (k : Int) (st : Int) 1001 0)),(1001,.mem (memoV r most T k st))]) (fun _=>True) 0 (fit0_of [] (by repeat (first | exact hv | exact lent_zero | refine lent_upd (by omega) ?_)) ?_ ?_) (by omega) trivial ?_
     · try simp only [go_sem]
     · try simp only [go_sem]
     · intro j vs2 hv2 hj _
       have hv0:=hv2 1000 (by omega)
       have hv1:=hv2 1001 (by omega)
       repeat refine zq ?_
       refine zb fun K hK=>?_;simp only [go_sem];(try simp (disch:=omega) only [zI]);repeat first | intro _ | refine ⟨by omega,?_⟩
       refine hK _ ?_;clear hK K;refine zw (zk [0,3,4,7,19,20,21,26,27,28,29]) ?_;simp only [go_sem]
       repeat refine zq ?_
       refine zc rfl (fun hc=>?_) (fun hc=>?_) <;> (try simp only [go_sem] at hc)
       · have hcj:=hc
         obtain ⟨c,hc1⟩:=opt_of_lt hc
         have hbc:=hbd a haM c (mem_of_opt hc1)
         have hnc:=hnx c.b hbc.1 hbc.2
         have htk : (chW f a.beds).take (j + 1) = (chW f a.beds).take j ++ [⟨f c.b,c.lo,c.hi⟩]:=take_of_opt (by simp [chW,hc1])
         have hlj : ((chW f a.beds).take j).length = j:=by rw [List.length_take,hlen]; omega
         refine zx ?_
         try simp only [go_sem]
         repeat refine zq ?_
         refine zd ?_
         repeat refine zq ?_
         refine zb fun K hK=>?_;simp only [go_sem,hc1,hcj,bedR];(try simp (disch:=omega) only [zI]);repeat first | intro _ | refine ⟨by omega,?_⟩
         refine hK _ ?_;clear hK K;refine zw (sub_frzP 9 9 [i64 c.b,i64 c.lo,i64 c.hi] (by omega) (by try simp only [go_sem]) (by try simp only [go_sem])) ?_;simp only [go_sem,bedR];refine zw (zk [0,3,4,7,9,19,20,21,26,27,28]) ?_;simp only [go_sem]
         repeat refine zq ?_
         refine zg follows (by decide +kernel) (by kernel_rfl) fun K hK=>?_;simp only [go_sem,hlj];(try simp (disch:=omega) only [zI])
         refine xcall_keep hnc [(1000,1000),(1001,1001)] rfl (by simp only [go_sem,i64,ints,hv0,hv1]) (by simp only [go_sem,i64,ints,hv0,hv1]) (by rfl) (by rfl) ?_ ?_ ?_
         · intro x hx
           simp only [List.mem_cons,List.not_mem_nil,or_false] at hx
           rcases hx with rfl | rfl
           · try simp only [go_sem]
             simp [hv0,hv1]
           · try simp only [go_sem]
         · intro x hx
           simp only [List.mem_cons,List.not_mem_nil,or_false] at hx
           rcases hx with rfl | rfl
           · left
             simp [AV.nrL,AV.nr,AS.ver,Oc.st,hv0,upd]
           · right
             refine ⟨(1000,1000),by simp,visC r most T (k : Int) (st : Int) 1001 0,?_,by try simp only [go_sem],?_⟩
             · simp [AV.nrL,AV.nr,AS.ver,Oc.st,hv0,upd]
             · simp [AV.nrL,AV.nr,AS.ver,Oc.st,hv1,upd]
         simp only [go_sem,hlj];repeat first | intro _ | refine ⟨by omega,?_⟩
         refine hK _ ?_;clear hK K;refine zw (zk [0,3,4,7,19,20,21,26,27,28]) ?_;simp only [go_sem]
         repeat refine zq ?_
         refine zb fun K hK=>?_;simp only [go_sem];(try simp (disch:=omega) only [zI]);repeat first | intro _ | refine ⟨by omega,?_⟩
         refine hK _ ?_;clear hK K
         try simp only [go_sem]
         refine ⟨by omega,fit0_of [] (by repeat (first | exact hv2 | refine lent_upd (by omega) ?_)) ?_ ?_⟩
         · try simp only [go_sem]
         · try simp only [go_sem]
           rw [htk]
           simp [bedR]
       · have hjl : j = a.beds.length:=by omega
         subst hjl
         have e1 : (chW f a.beds).take a.beds.length = chW f a.beds:=by rw [← hlen,List.take_length]
         rw [e1]
         have hmn:=mean_ok r most T (chW f a.beds) hca
         rw [hlen] at hmn
         have htm : (meansV r most f).take (i + 1) = (meansV r most f).take i ++ [meanD most r.d (chW f a.beds)]:=take_of_opt (by simp [meansV,ha])
         have hli : ((meansV r most f).take i).length = i:=by rw [List.length_take]; simp [meansV]; omega
         refine zf ?_;simp only [go_sem]
         repeat refine zq ?_
         refine zb fun K hK=>?_;simp only [go_sem,hli,hlen];(try simp (disch:=omega) only [zI])
         refine ⟨hv0.symm,hv0.symm,hv0.symm,?_⟩
         refine xcall_mut (hmn) [(1000,42)] rfl (by simp only [go_sem,i64,ints,hli,hlen]) (by simp only [go_sem,i64,ints,hli,hlen]) (by rfl) (by rfl) ?_
         (try simp only [go_sem,hli,hlen]);(try simp (disch:=omega) only [zI]);repeat first | intro _ | refine ⟨by omega,?_⟩
         refine hK _ ?_;clear hK K;refine zw (zk [0,3,4,19,20,21]) ?_;simp only [go_sem]
         repeat refine zq ?_
         refine zb fun K hK=>?_;simp only [go_sem];(try simp (disch:=omega) only [zI]);repeat first | intro _ | refine ⟨by omega,?_⟩
         refine hK _ ?_;clear hK K
         try simp only [go_sem]
         refine ⟨by omega,fit0_of [42] (by repeat (first | exact hv2 | refine lent_upd (by omega) ?_)) ?_ ?_⟩
         · try simp only [go_sem]
         · try simp only [go_sem]
           rw [htm]
           simp
   · have hil : i = r.aims.length:=by omega
     have e1 : (meansV r most f).take i = meansV r most f:=List.take_of_length_le (by simp [meansV]; omega)
     rw [e1]
     have hml : (meansV r most f).length = i:=by simp [meansV,hil]
     refine zf ?_;simp only [go_sem]
     repeat refine zq ?_
     refine zb fun K hK=>?_;simp only [go_sem];(try simp (disch:=omega) only [zI]);repeat first | intro _ | refine ⟨by omega,?_⟩
     refine hK _ ?_;clear hK K;refine zw (zk [4]) ?_;simp only [go_sem];refine zw (sub_frz (ty:=3) (sz:=1) (off:=0) (m:=i) (es:=(meansV r most f).map fun x=>[i64 x]) 4 52 (by omega) (by try simp only [go_sem]) (by try simp only [go_sem]) (by simp [hml])) ?_
     have e2 : (((meansV r most f).map fun x=>[i64 x]).drop 0).take i = (meansV r most f).map fun x=>[i64 x]:=by
      rw [List.drop_zero,List.take_of_length_le (by simp [hml])]
     rw [e2]
     refine zw (zk [4]) ?_;simp only [go_sem];refine ze ?_;simp only [go_sem]
structure AimsG (r : Ru) : Prop where
 ne : r.aims ≠ []
 len : r.aims.length ≤ 1000
 den0 : 1 ≤ r.d
 den1 : r.d ≤ 3000
 beds : ∀ a ∈ r.aims,a.beds.length ≤ 19 ∧ loS a.beds ≤ r.d ∧ ∀ c ∈ a.beds,(0 ≤ c.b ∧ c.b ≤ 499) ∧ 0 ≤ c.lo ∧ c.lo ≤ c.hi ∧ c.hi ≤ 3000
theorem loS_chW (f : Int → Int) (l : List Bd) : loS (chW f l) = loS l:=by simp [loS,chW,Function.comp_def]
theorem AimsG.ch {r : Ru} (h : AimsG r) {f : Int → Int} (hf : ∀ b,0 ≤ b → b ≤ 499 → 0 ≤ f b ∧ f b ≤ 1000000) : ∀ a ∈ r.aims,ChG r.d (chW f a.beds):=fun a ha=>by
 obtain ⟨h1,h2,h3⟩:=h.beds a ha
 refine ⟨by simpa [chW] using h1,h.den0,h.den1,by rw [loS_chW]; exact h2,fun c hc=>?_⟩
 obtain ⟨x,hx,rfl⟩:=List.mem_map.1 hc
 obtain ⟨g1,g2⟩:=h3 x hx
 exact ⟨hf _ g1.1 g1.2,g2⟩
theorem fillG_le {den : Int} : ∀ (l : List Bd) (x : Int × Int),(∀ c ∈ l,(0 ≤ c.b ∧ c.b ≤ 1000000) ∧ c.lo ≤ c.hi) → 0 ≤ x.1 → 0 ≤ x.2 → x.2 ≤ 1000000 * (den - x.1) → 0 ≤ (fillG l x).2 ∧ (fillG l x).2 ≤ 1000000 * den
 | [],x,_,h1,h2,h3=>by simp only [fillG]; omega
 | c :: l, x, h, h1, h2, h3 => by
   obtain ⟨⟨b0,b1⟩,g⟩:=h c (by simp)
   simp only [fillG]
   generalize hm : min x.1 (c.hi - c.lo) = m
   have m0 : 0 ≤ m:=by omega
   have m1 : m ≤ x.1:=by omega
   have p0:=Int.mul_nonneg m0 b0
   have p1 : m * c.b ≤ m * 1000000:=Int.mul_le_mul_of_nonneg_left b1 m0
   exact fillG_le l _ (fun y hy=>h y (by simp [hy])) (by simp only; omega) (by simp only; omega) (by simp only; omega)
theorem loV_lo {l : List Bd} (h : ∀ c ∈ l,(0 ≤ c.b ∧ c.b ≤ 1000000) ∧ 0 ≤ c.lo) : 0 ≤ loV l ∧ loV l ≤ 1000000 * loS l:=by
 induction l with
 | nil=>simp [loV,loS]
 | cons c l ih =>
   obtain ⟨h1,h2⟩:=ih fun x hx=>h x (by simp [hx])
   obtain ⟨⟨b0,b1⟩,g0⟩:=h c (by simp)
   have m0:=Int.mul_nonneg g0 b0
   have m1 : c.lo * c.b ≤ c.lo * 1000000:=Int.mul_le_mul_of_nonneg_left b1 g0
   simp only [loV,loS,List.map_cons,List.sum_cons] at h1 h2 ⊢
   omega
theorem meanD_le {most : Bool} {den : Int} {l : List Bd} (h : ChG den l) : 0 ≤ meanD most den l ∧ meanD most den l ≤ 1000000:=by
 have hp:=sortN_perm (ltD most) l
 have hS : ∀ c ∈ sortN (ltD most) l,(0 ≤ c.b ∧ c.b ≤ 1000000) ∧ 0 ≤ c.lo ∧ c.lo ≤ c.hi ∧ c.hi ≤ 3000:=fun c hc=>h.each c (hp.mem_iff.1 hc)
 have hlo : loS (sortN (ltD most) l) = loS l:=perm_sum hp
 have hlow:=h.low
 obtain ⟨v0,v1⟩:=loV_lo (l:=sortN (ltD most) l) fun c hc=>⟨(hS c hc).1,(hS c hc).2.1⟩
 unfold meanD
 obtain ⟨f0,f1⟩:=fillG_le (den:=den) (sortN (ltD most) l) (den - loS (sortN (ltD most) l),loV (sortN (ltD most) l)) (fun c hc=>⟨(hS c hc).1,(hS c hc).2.2.1⟩) (by simp only; omega) (by simp only; omega) (by simp only; omega)
 exact overD_le f0 h.den0 f1
theorem foldl_max_le {l : List Int} {m : Int} : ∀ {x : Int},(0 ≤ x ∧ x ≤ m) → (∀ y ∈ l,0 ≤ y ∧ y ≤ m) → 0 ≤ l.foldl max x ∧ l.foldl max x ≤ m:=by
 induction l with
 | nil=>intro x h _; exact h
 | cons y l ih =>
   intro x h hl
   have:=hl y (by simp)
   exact ih (x:=max x y) (by omega) fun z hz=>hl z (by simp [hz])
theorem maxL_le {l : List Int} {m : Int} (h : l ≠ []) (hl : ∀ y ∈ l,0 ≤ y ∧ y ≤ m) : 0 ≤ maxL l ∧ maxL l ≤ m:=by
 unfold maxL
 refine foldl_max_le ?_ hl
 cases l with
 | nil=>exact absurd rfl h
 | cons x l=>exact hl x (by simp)
theorem after_le {r : Ru} {T : List (List Int)} {k st : Nat} (h : VisG r T k st) (most : Bool) {left : Nat} (hl : (left : Int) ≤ r.start) : 0 ≤ afterD r most T k left ∧ afterD r most T k left ≤ 1000000:=by
 unfold afterD
 split
 · omega
 · rename_i hk
   obtain ⟨row,v,hv⟩:=h.tab left hl
   obtain ⟨t1,t2,t3,t4⟩:=hv (by have:=h.kk; omega)
   obtain ⟨e,hek⟩:=opt_of_lt h.kk
   obtain ⟨g1,g2,g3⟩:=endOk_le (h.ends e (mem_of_opt hek))
   have e1 : ((T.getD (k + 1) []).getD left 0) = v:=by simp [List.getD_eq_getElem?_getD,t1,t2]
   have e2 : r.ends.getD k (0,0) = e:=by simp [List.getD_eq_getElem?_getD,hek]
   rw [e1,e2]
   have q : 0 ≤ endsD most e ∧ endsD most e ≤ 1000000:=by unfold endsD; split <;> omega
   exact overD_le (Int.mul_nonneg t3 (by omega)) (by omega) (Int.mul_le_mul t4 (by omega) (by omega) (by omega))
theorem nextV_le {r : Ru} {most : Bool} {T : List (List Int)} {k st left : Nat} {val : Nat → Int} {last : Bool} {b : Int} (h : VisG r T k st) (hl : (left : Int) ≤ r.start) (b0 : 0 ≤ b) (b1 : b ≤ 499) (hv : last = false → ∀ x : Nat,(x : Int) ≤ r.start → 0 ≤ val x ∧ val x ≤ 1000000) :
 0 ≤ nextV r most T k st val last left b ∧ nextV r most T k st val last left b ≤ 1000000:=by
 obtain ⟨s0,s1⟩:=score_le b0 b1
 unfold nextV
 split
 · omega
 · split
   · exact after_le h most h.st40
   · split
     · exact after_le h most (by omega)
     · rename_i hn
       exact hv (by simpa using hn) _ (by omega)
theorem valV_le {r : Ru} {most : Bool} {T : List (List Int)} {k st : Nat} (h : VisG r T k st) (ha : AimsG r) : ∀ n left : Nat,(left : Int) ≤ r.start → 0 ≤ valV r most T k st n left ∧ valV r most T k st n left ≤ 1000000
 | 0,_,_=>by simp only [valV]; omega
 | n + 1, left, hl => by
   simp only [valV]
   refine maxL_le (by simpa [meansV] using ha.ne) fun y hy=>?_
   obtain ⟨a,haM,rfl⟩:=List.mem_map.1 hy
   exact meanD_le (ha.ch (fun b b0 b1=>nextV_le h hl b0 b1 fun _ x hx=>valV_le h ha n x hx) a haM)
theorem vis_ok {r : Ru} (most : Bool) {T : List (List Int)} {k st : Nat} (h : VisG r T k st) (ha : AimsG r) : ∀ n left : Nat,n ≤ 100 → 1 ≤ left → (left : Int) ≤ r.start →
 MCalls Try.prog 180 (visL r most T k st) (visL r most T k st) [.pt 1000 0 0,.r (.ag [i64 (left : Int),i64 ((n + 1 : Nat) : Int)])] (.r (i64 (valV r most T k st (n + 1) left)))
 | n, left, hn, hl1, hl => by
   have h40:=h.s40
   have hl40 : left ≤ 40:=by omega
   refine value_ok r most T k st n left hn hl40 ha.ne ha.len ?_
   have e : (((n + 1 : Nat)) : Int) = (n : Int) + 1:=by omega
   rw [e]
   refine means_ok r most T k st n left _ hn hl40 ha.len (ha.ch fun b b0 b1=>nextV_le h hl b0 b1 fun _ x hx=>valV_le h ha n x hx) (fun a haM c hc=>((ha.beds a haM).2.2 c hc).1) fun b b0 b1=>?_
   refine next_ok r most T k st n left b h hl1 hl hn b0 b1 fun hn0 left' h1 h2=>?_
   match n,hn0 with
   | m + 1,_=>exact vis_ok most h ha m left' (by omega) h1 h2
theorem relV_of_map {w : World} {p : Plan} {ver : Nat → Nat} : ∀ {xs : List RV} {vs : List Value},AV.relV w p ver (xs.map .r) vs → RV.relV w p.R xs vs
 | [],_,h=>by simp only [List.map_nil,AV.relV] at h; simp only [RV.relV]; exact h
 | x :: xs, _, h => by
   simp only [List.map_cons,AV.relV,AV.rel] at h
   obtain ⟨u,us,e,h1,h2⟩:=h
   simp only [RV.relV];exact ⟨u,us,e,h1,relV_of_map h2⟩
theorem mcalls_ag {P : Program} {f : FuncId} {L L' : List (Nat × RowC)} {a : AV} {xs : List RV} {r : AV} (h : MCalls P f L L' [a,.r (.ag xs)] r) : MCalls P f L L' [a,.ag (xs.map .r)] r :=
 ⟨h.1,fun w p vs hp h1 h2 h3 h4 h5 h6=>h.2 w p vs hp h1 h2 h3 h4 h5 (by
  simp only [AV.relV] at h6 ⊢
  obtain ⟨u,us,e,g1,u2,us2,e2,g2,g3⟩:=h6
  refine ⟨u,us,e,g1,u2,us2,e2,?_,g3⟩
  simp only [AV.rel] at g2
  simp only [AV.rel,RV.rel]
  obtain ⟨vs,q1,q2,q3⟩:=g2
  exact ⟨vs,q1,q2,relV_of_map q3⟩)⟩
theorem whole_ok {r : Ru} (most : Bool) {T : List (List Int)} {k st : Nat} (h : VisG r T k st) (ha : AimsG r) (h1 : 1 ≤ st) : ACalls Try.prog 159 [sideP r most T,i64 (k : Int),i64 (st : Int)] (i64 (valV r most T k st 3 st)):=by
 have hnew:=newVisit_ok r most T (k : Int) (st : Int)
 have hval:=vis_ok most h ha 2 st (by omega) h1 h.st40
 refine acalls_st (rs:=[i64 (valV r most T k st 3 st)]) [.tmp 6] Try.func159 rfl (by kernel_rfl) Try.ntmps159 rfl (by simp) rfl fun C vs=>?_
 repeat refine zq ?_
 refine zb fun K hK=>?_;simp only [go_sem];(try simp (disch:=omega) only [zI]);repeat first | intro _ | refine ⟨by omega,?_⟩
 refine hK _ ?_;clear hK K;refine zw (zk [0,1,2]) ?_;simp only [go_sem]
 repeat refine zq ?_
 refine awp_long ?_
 refine sops_take 4 (by kernel_rfl) fun K hK=>?_
 simp only [go_sem,List.take_succ_cons,List.take_zero,List.drop_succ_cons,List.drop_zero,List.append_eq,List.cons_append,List.nil_append];(try simp (disch:=omega) only [zI])
 refine xcall_new hnew [(12,30),(10,31)] rfl (by rfl) (by rfl) (by rfl) (by rfl) (by rfl) ?_
 simp only [go_sem,idK,backA,backC,backL,pinOf,lendKey];repeat first | intro _ | refine ⟨by omega,?_⟩
 refine hK _ rfl ?_
 clear hK K
 refine sops_sub (sub_shutM (memoV r most T k st) 31 (by rfl) (fun e he=>by cases he)) ?_
 try simp only [go_sem]
 refine sops_end (by kernel_rfl) fun K hK=>?_
 simp only [go_sem,List.drop_succ_cons,List.drop_zero,List.append_eq,List.cons_append,List.nil_append];(try simp (disch:=omega) only [zI])
 refine xcall_mut (mcalls_ag hval) [(1000,30),(1001,31)] rfl (by simp only [go_sem,i64,ints]) (by simp only [go_sem,i64,ints]) (by rfl) (by rfl) ?_
 (try simp only [go_sem]);(try simp (disch:=omega) only [zI]);repeat first | intro _ | refine ⟨by omega,?_⟩
 refine hK _ ?_;clear hK K;refine zw (zk [6]) ?_;simp only [go_sem];refine ze ?_;simp only [go_sem]
def rowV (r : Ru) (most : Bool) (T : List (List Int)) (k : Nat) : List Int:=(List.range (r.start.toNat + 1)).map fun x : Nat=>if (x : Int) < lowestR r then 0 else valV r most T k x 3 x
def tabI (r : Ru) (most : Bool) : Nat → List (List Int)
 | 0=>List.replicate r.ends.length []
 | i + 1=>(tabI r most i).set (r.ends.length - 1 - i) (rowV r most (tabI r most i) (r.ends.length - 1 - i))
theorem tabI_len (r : Ru) (most : Bool) : ∀ i,(tabI r most i).length = r.ends.length
 | 0=>by simp [tabI]
 | i + 1=>by simp only [tabI,List.length_set]; exact tabI_len r most i
structure RuG (r : Ru) : Prop where
 aims : AimsG r
 e1 : 1 ≤ r.ends.length
 h10 : r.ends.length ≤ 10
 ends : ∀ x ∈ r.ends,endOk x = true
 s2 : 2 ≤ r.start
 s40 : r.start ≤ 40
theorem rowV_get (r : Ru) (most : Bool) (T : List (List Int)) (k left : Nat) (h : (left : Int) ≤ r.start) : (rowV r most T k)[left]? = some (if (left : Int) < lowestR r then 0 else valV r most T k left 3 left):=by
 unfold rowV
 rw [List.getElem?_map,List.getElem?_range (by omega)]
 rfl
theorem vis_at {r : Ru} (h : RuG r) (most : Bool) : ∀ i,i < r.ends.length → ∀ st : Nat,(st : Int) ≤ r.start → VisG r (tabI r most i) (r.ends.length - 1 - i) st
 | i, hi, st, hst => by
   refine ⟨by omega,h.h10,h.ends,hst,h.s40,fun left hl=>?_⟩
   cases i with
   | zero=>exact ⟨[],0,fun hk=>by omega⟩
   | succ i =>
     refine ⟨rowV r most (tabI r most i) (r.ends.length - 1 - i),_,fun hk=>⟨?_,rowV_get _ _ _ _ _ hl,?_⟩⟩
     · rw [show r.ends.length - 1 - (i + 1) + 1 = r.ends.length - 1 - i by omega]
       simp only [tabI]
       rw [List.getElem?_set_self (by rw [tabI_len]; omega)]
     · split
       · omega
       · have:=valV_le (most:=most) (vis_at h most i (by omega) left hl) h.aims 3 left hl
         exact this
theorem rowV_ne (r : Ru) (most : Bool) (T : List (List Int)) (k : Nat) : rowV r most T k ≠ []:=by simp [rowV]
theorem tabI_get (r : Ru) (most : Bool) : ∀ i,i ≤ r.ends.length → ∀ j,r.ends.length - i ≤ j → j < r.ends.length → (tabI r most i)[j]? = some (rowV r most (tabI r most (r.ends.length - 1 - j)) j)
 | 0,_,j,h1,h2=>by omega
 | i + 1, hi, j, h1, h2 => by
   simp only [tabI]
   by_cases e : j = r.ends.length - 1 - i
   · subst e
     rw [List.getElem?_set_self (by rw [tabI_len]; omega),show r.ends.length - 1 - (r.ends.length - 1 - i) = i by omega]
   · rw [List.getElem?_set_ne (by omega)]
     exact tabI_get r most i (by omega) j (by omega) h2
theorem tab_ne (r : Ru) (most : Bool) : ∀ row ∈ tabI r most r.ends.length,row ≠ []:=fun row hr=>by
 obtain ⟨j,hj⟩:=List.getElem?_of_mem hr
 have hl:=(List.getElem?_eq_some_iff.1 hj).1
 rw [tabI_len] at hl
 rw [tabI_get r most _ (Nat.le_refl _) j (by omega) hl] at hj
 injection hj with hj
 rw [← hj]
 exact rowV_ne _ _ _ _
abbrev sideA (r : Ru) (most : Bool) (t : AV) : List AV:=[.r (i64 r.d),.r (aimsR r.aims),.r (i64 r.start),.r (i64 r.out),.r (spansR r.ends),.r (.bo most),t]
def cellT (l : List Int) : RV:=if l = [] then .ns else ints l
theorem acalls_weak {P : Program} {f : FuncId} {xs ys : List RV} {r : RV} (h : ACalls P f ys r) (hs : ∀ (w : World) (R : Nat → Prop) vs,RV.relV w R xs vs → RV.relV w R ys vs) : ACalls P f xs r :=
 ⟨h.1,fun w R vs h1 h2=>h.2 w R vs h1 (hs w R _ h2)⟩
theorem cellT_rel {w : World} {R : Nat → Prop} {l : List Int} {v : Value} (h : (cellT l).rel w R v) : (ints l).rel w R v:=by
 unfold cellT at h
 split at h
 · rename_i e
   subst e
   simp only [RV.rel] at h ⊢
   obtain ⟨A,e⟩:=h
   exact ⟨A,0,e,by simp,Nat.zero_le _,fun hn=>absurd rfl hn⟩
 · exact h
theorem cellsT_rel {w : World} {R : Nat → Prop} : ∀ (T : List (List Int)) (ad : Addr) (j : Nat),RV.relE w R 1 (T.map fun row=>[cellT row]) ad j → RV.relE w R 1 (T.map fun row=>[ints row]) ad j
 | [],_,_,h=>h
 | l :: T, ad, j, h => by
   simp only [List.map_cons,RV.relE,RV.relC] at h ⊢
   obtain ⟨_,⟨⟨u,h1,h2,h3⟩,_⟩,h4⟩:=h
   exact ⟨rfl,⟨⟨u,h1,h2,cellT_rel h3⟩,trivial⟩,cellsT_rel T ad (j + 1) h4⟩
theorem tabT_rel {w : World} {R : Nat → Prop} {T : List (List Int)} {v : Value} (h : (RV.sl 1 (T.map fun row=>[cellT row])).rel w R v) : (tabR T).rel w R v:=by
 simp only [RV.rel,List.length_map] at h ⊢
 obtain ⟨A,c,h1,h2,h3,h4⟩:=h
 refine ⟨A,c,h1,h2,h3,fun hn=>?_⟩
 obtain ⟨ad,g1,g2,g3⟩:=h4 (by cases T <;> simp_all)
 exact ⟨ad,g1,g2,cellsT_rel _ _ _ g3⟩
theorem whole_ns {r : Ru} {most : Bool} {T : List (List Int)} {x y v : RV} (h : ACalls Try.prog 159 [sideP r most T,x,y] v) :
 ACalls Try.prog 159 [.rp [i64 r.d,aimsR r.aims,i64 r.start,i64 r.out,spansR r.ends,.bo most,.sl 1 (T.map fun row=>[cellT row])],x,y] v:=acalls_weak h fun w R vs hv=>by
 simp only [RV.relV] at hv ⊢
 obtain ⟨u,us,e1,hu,h3⟩:=hv
 refine ⟨u,us,e1,?_,h3⟩
 simp only [RV.rel] at hu ⊢
 obtain ⟨ad,e2,h1,h2⟩:=hu
 refine ⟨ad,e2,h1,?_⟩
 simp only [RV.relC] at h2 ⊢
 obtain ⟨c1,c2,c3,c4,c5,c6,⟨u7,c7,c8,c9⟩,_⟩:=h2
 exact ⟨c1,c2,c3,c4,c5,c6,⟨u7,c7,c8,tabT_rel c9⟩,trivial⟩
def rowP (r : Ru) (most : Bool) (T : List (List Int)) (k j : Nat) : List Int:=(List.range (r.start.toNat + 1)).map fun x : Nat=>if (x : Int) < lowestR r then 0 else if x < j then valV r most T k x 3 x else 0
theorem rowP_zero (r : Ru) (most : Bool) (T : List (List Int)) (k : Nat) : rowP r most T k (lowestR r).toNat = List.replicate (r.start.toNat + 1) 0:=by
 refine List.ext_getElem (by simp [rowP]) fun x h1 h2=>?_
 simp only [rowP,List.getElem_map,List.getElem_range,List.getElem_replicate]
 split
 · rfl
 · rw [if_neg (by omega)]
theorem rowP_end (r : Ru) (most : Bool) (T : List (List Int)) (k : Nat) : rowP r most T k (r.start.toNat + 1) = rowV r most T k:=by
 refine List.ext_getElem (by simp [rowP,rowV]) fun x h1 h2=>?_
 simp only [rowP,rowV,List.getElem_map,List.getElem_range]
 simp only [rowP,List.length_map,List.length_range] at h1
 rw [if_pos h1]
theorem rowP_set (r : Ru) (most : Bool) (T : List (List Int)) (k j : Nat) (hj : lowestR r ≤ j) (hs : (j : Int) ≤ r.start) : (rowP r most T k j).set j (valV r most T k j 3 j) = rowP r most T k (j + 1):=by
 refine List.ext_getElem (by simp [rowP]) fun x h1 h2=>?_
 simp only [rowP,List.getElem_set,List.getElem_map,List.getElem_range]
 by_cases e : j = x
 · subst e
   rw [if_pos rfl,if_neg (by omega),if_pos (by omega)]
 · rw [if_neg e]
   split
   · rfl
   · by_cases e2 : x < j
     · rw [if_pos e2,if_pos (by omega)]
     · rw [if_neg e2,if_neg (by omega)]
theorem rowP_len (r : Ru) (most : Bool) (T : List (List Int)) (k j : Nat) : (rowP r most T k j).length = r.start.toNat + 1:=by simp [rowP]
theorem fill_ok {r : Ru} (h : RuG r) (most : Bool) :
 MCalls Try.prog 89 [(1000,.box (sideA r most (.r .ns)))] [(1000,.box (sideA r most (.r (tabR (tabI r most r.ends.length)))))] [.pt 1000 0 0] (.tu []):=by
 have h10:=h.h10
 refine mcalls_st (n:=72) (rs:=[]) _ _ [] Try.func89 rfl (by kernel_rfl) Try.ntmps89 rfl (by simp) rfl rfl fun C=>?_
 repeat refine zq ?_
 refine zb fun K hK=>?_;simp only [go_sem];(try simp (disch:=omega) only [zI]);repeat first | intro _ | refine ⟨by omega,?_⟩
 repeat first | intro _ | refine ⟨by omega,?_⟩
 refine hK _ ?_;clear hK K;refine zw (zk [0]) ?_;simp only [go_sem]
 repeat refine zq ?_
 refine zb fun K hK=>?_;simp only [go_sem];(try simp (disch:=omega) only [zI]);repeat first | intro _ | refine ⟨by omega,?_⟩
 refine hK _ ?_;clear hK K;refine zw (zk [0,23,24]) ?_;simp only [go_sem]
 repeat refine zq ?_
 refine zd ?_
 refine awp_uptoV (n:=72) r.ends.length (fun i vs=>[(0,.pt 1000 (vs 1000) 0),(23,.r (i64 r.ends.length)),(24,.r (i64 i))])
  (fun i vs=>[(14,.arr 41 1 ((tabI r most i).map fun row=>[cellT row])),(1000,.box (sideA r most (.os 14 (vs 14) 1 0 r.ends.length)))]) (fun _=>True) 0 (zj [] ?_ ?_) (Nat.zero_le _) trivial ?_
 · try simp only [go_sem]
 · try simp only [go_sem]
   simp [tabI,cellT]
 · intro i vs hi _
   repeat refine zq ?_
   refine zb fun K hK=>?_;simp only [go_sem];(try simp (disch:=omega) only [zI]);repeat first | intro _ | refine ⟨by omega,?_⟩
   refine hK _ ?_;clear hK K;refine zw (zk [0,23,24,25]) ?_;simp only [go_sem]
   repeat refine zq ?_
   refine zc rfl (fun hc=>?_) (fun hc=>?_) <;> (try simp only [go_sem] at hc)
   · have hci:=hc
     have hla:=last_ok r (by omega)
     have hlo:=dlowest_ok r
     have hk : IntKind.i64.wrap ((r.ends.length : Int) - 1 - i) = ((r.ends.length - 1 - i : Nat) : Int):=by rw [zI] <;> omega
     refine zx ?_
     try simp only [go_sem]
     repeat refine zq ?_
     refine zd ?_
     repeat refine zq ?_
     refine zb fun K hK=>?_;simp only [go_sem];(try simp (disch:=omega) only [zI]);repeat first | intro _ | refine ⟨by omega,?_⟩
     refine hK _ ?_;clear hK K;refine zw (zk [0,2,23,24]) ?_;simp only [go_sem]
     repeat refine zq ?_
     refine zb fun K hK=>?_;simp only [go_sem,hk];(try simp (disch:=omega) only [zI])
     refine zh (hla) rfl (by simp only [go_sem,i64,ints,hk]) (by simp only [go_sem,i64,ints,hk]) (by first | exact .inl rfl | exact .inr rfl) ?_
     (try simp only [go_sem,hk]);(try simp (disch:=omega) only [zI]);repeat first | intro _ | refine ⟨by omega,?_⟩
     refine hK _ ?_;clear hK K;refine zw (zk [0,3,23,24]) ?_;simp only [go_sem]
     have hs2:=h.s2
     have hs40:=h.s40
     have hw1 : IntKind.i64.wrap (r.start + 1) = r.start + 1:=by rw [zI] <;> omega
     repeat refine zq ?_
     refine zb fun K hK=>?_;simp only [go_sem,hw1];(try simp (disch:=omega) only [zI])
     refine ⟨by omega,?_⟩
     repeat first | intro _ | refine ⟨by omega,?_⟩
     refine hK _ ?_;clear hK K;refine zw (zk [0,3,4,23,24]) ?_;simp only [go_sem]
     repeat refine zq ?_
     refine zb fun K hK=>?_;simp only [go_sem];(try simp (disch:=omega) only [zI])
     refine zh (hlo) rfl (by simp only [go_sem,i64,ints]) (by simp only [go_sem,i64,ints]) (by first | exact .inl rfl | exact .inr rfl) ?_
     (try simp only [go_sem]);(try simp (disch:=omega) only [zI]);repeat first | intro _ | refine ⟨by omega,?_⟩
     refine hK _ ?_;clear hK K;refine zw (zk [0,3,4,5,23,24]) ?_;simp only [go_sem]
     repeat refine zq ?_
     refine zd ?_
     generalize hT : tabI r most i = T
     have hTl : T.length = r.ends.length:=by rw [← hT]; exact tabI_len r most i
     have hvis : ∀ st : Nat,(st : Int) ≤ r.start → VisG r T (r.ends.length - 1 - i) st:=fun st hst=>by rw [← hT]; exact vis_at h most i hci st hst
     generalize hkk : r.ends.length - 1 - i = k at *
     have hst1 : (r.start + 1).toNat = r.start.toNat + 1:=by omega
     have hlow : lowestR r = 1 ∨ lowestR r = 2:=by unfold lowestR; split <;> simp
     refine awp_uptoV (n:=72) (r.start.toNat + 1) (fun j vs=>[(0,.pt 1000 (vs 1000) 0),(3,.r (i64 (k : Int))),(4,.os 41 (vs 41) 1 0 (r.start.toNat + 1)),(5,.r (i64 (j : Int))),(23,.r (i64 r.ends.length)),(24,.r (i64 i))])
      (fun j vs=>[(14,.arr 41 1 (T.map fun row=>[cellT row])),(41,.arr 3 1 ((rowP r most T k j).map fun v=>[i64 v])),(1000,.box (sideA r most (.os 14 (vs 14) 1 0 r.ends.length)))]) (fun j=>lowestR r ≤ j) (lowestR r).toNat (zj [] ?_ ?_) (by omega) (by omega) ?_
     · simp only [go_sem,hk,hw1,hst1]
       omega
     · simp only [go_sem,hw1,hst1];rw [rowP_zero]
       simp only [List.map_replicate,List.replicate_succ,List.map_cons]
     · intro j vs hj hjl
       have hpl:=rowP_len r most T k j
       repeat refine zq ?_
       refine zb fun K hK=>?_;simp only [go_sem];(try simp (disch:=omega) only [zI]);repeat first | intro _ | refine ⟨by omega,?_⟩
       refine hK _ ?_;clear hK K;refine zw (zk [0,3,4,5,23,24,54]) ?_;simp only [go_sem]
       repeat refine zq ?_
       refine zc rfl (fun hc=>?_) (fun hc=>?_) <;> (try simp only [go_sem] at hc)
       · have hcj : (j : Int) ≤ r.start:=by omega
         obtain ⟨w0,hw0⟩:=opt_of_lt (show j < (rowP r most T k j).length by rw [hpl]; omega)
         have htk : List.take r.ends.length (T.map fun row=>[cellT row]) = T.map fun row=>[cellT row]:=List.take_of_length_le (by simp [hTl])
         have hw:=whole_ns (whole_ok most (hvis j hcj) h.aims (by omega))
         refine zx ?_
         try simp only [go_sem]
         repeat refine zq ?_
         refine zd ?_
         repeat refine zq ?_
         refine zb fun K hK=>?_;simp only [go_sem,hTl,htk,hpl];(try simp (disch:=omega) only [zI])
         refine zh (hw) rfl (by simp only [go_sem,i64,ints,hTl,htk,hpl]) (by simp only [go_sem,i64,ints,hTl,htk,hpl]) (by first | exact .inl rfl | exact .inr rfl) ?_
         (try simp only [go_sem,hTl,htk,hpl]);(try simp (disch:=omega) only [zI]);repeat first | intro _ | refine ⟨by omega,?_⟩
         refine hK _ ?_;clear hK K;refine zw (zk [0,3,4,5,23,24]) ?_;simp only [go_sem]
         repeat refine zq ?_
         refine zb fun K hK=>?_;simp only [go_sem];(try simp (disch:=omega) only [zI]);repeat first | intro _ | refine ⟨by omega,?_⟩
         refine hK _ ?_;clear hK K
         try simp only [go_sem]
         refine ⟨by omega,by omega,zj [] ?_ ?_⟩
         · try simp only [go_sem]
         · simp only [go_sem,hw0];rw [← rowP_set r most T k j hjl hcj,List.map_set]
       · have hje : j = r.start.toNat + 1:=by omega
         subst hje
         rw [rowP_end] at hpl ⊢
         refine zf ?_;simp only [go_sem];refine zw (sub_frz (ty:=3) (sz:=1) (off:=0) (m:=r.start.toNat + 1) (es:=(rowV r most T k).map fun v=>[i64 v]) 4 41 (by omega) (by try simp only [go_sem]) (by try simp only [go_sem]) (by simp [hpl])) ?_
         have e2 : (((rowV r most T k).map fun v=>[i64 v]).drop 0).take (r.start.toNat + 1) = (rowV r most T k).map fun v=>[i64 v]:=by
          rw [List.drop_zero,List.take_of_length_le (by simp [hpl])]
         rw [e2]
         refine zw (zk [0,3,4,23,24]) ?_;simp only [go_sem]
         have hkT : k < T.length:=by omega
         have hkr : k < r.ends.length:=by omega
         obtain ⟨w0,hw0⟩:=opt_of_lt hkT
         repeat refine zq ?_
         refine zb fun K hK=>?_;simp only [go_sem,hkT,hkr,hw0];(try simp (disch:=omega) only [zI]);repeat first | intro _ | refine ⟨by omega,?_⟩
         refine hK _ ?_;clear hK K;refine zw (zk [0,23,24]) ?_;simp only [go_sem]
         repeat refine zq ?_
         refine zb fun K hK=>?_;simp only [go_sem];(try simp (disch:=omega) only [zI]);repeat first | intro _ | refine ⟨by omega,?_⟩
         refine hK _ ?_;clear hK K
         try simp only [go_sem]
         refine ⟨by omega,zj [] ?_ ?_⟩
         · try simp only [go_sem]
         · try simp only [go_sem]
           have e3 : tabI r most (i + 1) = T.set k (rowV r most T k):=by simp only [tabI,hT,hkk]
           rw [e3,List.map_set]
           simp only [cellT,if_neg (rowV_ne r most T k)]
           done
   · have hil : i = r.ends.length:=by omega
     subst hil
     refine zf ?_;simp only [go_sem]
     try simp only [go_sem]
     refine ⟨by rw [tabI_len]; exact Nat.le_refl _,?_⟩
     rw [List.take_of_length_le (by rw [List.length_map,tabI_len]; exact Nat.le_refl _)]
     have : (tabI r most r.ends.length).map (fun row=>[cellT row]) = (tabI r most r.ends.length).map fun row=>[ints row] :=
      List.map_congr_left fun row hr=>by rw [cellT,if_neg (tab_ne r most row hr)]
     rw [this]
end Go.Proofs.Ytlljkgiomkmjbaa.Du

namespace Go.Oc
open Go Go.RowKit
set_option linter.unusedVariables false
set_option linter.unusedSimpArgs false
def sLitBox (P : Program) (s : AS) (d : Nat) (t : TypeId) (len : Nat) (parts : List (Nat × AV)) : Res :=
 match tyq P t with
 | some ⟨.slice e esz _ ez, _, _, _⟩ =>
   if len = 0 then .bad else
   match lay s.ver (fun i=>some (i * esz,esz)) ((List.replicate len ez).flatten.map .r) parts with
   | some cs=>⟨0 < esz ∧ len * esz ≤ 16777216 ∧ d < 1000,True,⟨.os d ((s.rows d).ver + 1) esz 0 len,[(d,⟨(s.rows d).ver + 1,.ara e esz cs⟩)]⟩⟩
   | none=>.bad
 | _=>.bad
section
variable {P : Program} {C : Ctx} {p : Plan} {s : AS} {a : Act} {w : World} {o : Oper}
theorem relV_map_r {ver : Nat → Nat} : ∀ {xs : List RV} {vs : List Value},RV.relV w p.R xs vs → AV.relV w p ver (xs.map .r) vs
 | [],vs,h=>by simp only [RV.relV] at h; simp only [List.map_nil,AV.relV]; exact h
 | x :: xs, vs, h => by
   simp only [RV.relV] at h
   obtain ⟨u,us,e,h1,h2⟩:=h
   simp only [List.map_cons,AV.relV,AV.rel];exact ⟨u,us,e,h1,relV_map_r h2⟩
variable {Q : Exit → AS → Prop} {ops : Array Oper}
end
theorem sub_freezePB (s : AS) (kb i k v : Nat) {cells : List AV} {rs : List RV} (hk0 : k < 1000) (hne : kb ≠ k) (hbox : (s.rows kb).c = .box cells) (hi : cells[i]? = some (.pt k v 0)) (hv : v = s.ver k)
 (hc : (s.rows k).c = .box (rs.map .r)) :
 Sub s { s with rows:=upd (upd s.rows k ⟨(s.rows k).ver + 1,.dead⟩) kb ⟨(s.rows kb).ver,.box (cells.set i (.r (.rp rs)))⟩ }:=fun C a w ⟨p,hp⟩=>by
 have h1:=hp.reRow (w':=w) k hk0 .dead rfl none 1 (by simp [maxLen]) rfl rfl rfl (Nat.le_refl _) (fun _ _ _=>rfl) (fun _ h=>by cases h) (fun p' ver' _ hβ hγ _=>by simp only [rowRel]; exact ⟨hβ,hγ⟩)
 have hr:=hp.rw kb
 rw [hbox] at hr
 simp only [rowRel] at hr
 obtain ⟨b,cs,t,g1,g2,g3,g4⟩:=hr
 obtain ⟨u,hu,hval⟩:=AV.relV_get g3 hi
 have hq:=hp.rw k
 rw [hc] at hq
 simp only [rowRel] at hq
 obtain ⟨bk,ck,tk,k1,k2,k3,k4⟩:=hq
 simp only [AV.rel] at hval
 obtain ⟨bk',e1,e2⟩:=hval.2 hv
 rw [k1] at e1
 injection e1 with e1
 subst e1
 obtain ⟨q1,_,q2⟩:=hp.bl k bk k1
 have h2:=h1.publish (b:=bk) q1 (q2.imp id fun h=>h.resolve_left (fun h=>by omega)) (fun j hj=>by
  have hj' : upd p.β k none j = some bk:=hj
  by_cases e : j = k
  · subst e; rw [upd_same] at hj'; cases hj'
  · rw [upd_other _ _ e] at hj'; exact e (hp.ij j k bk hj' k1)) (hp.ex.publish k1)
 have hr2:=h2.rw kb
 rw [show (upd s.rows k ⟨(s.rows k).ver + 1,.dead⟩ kb).c = .box cells by rw [upd_other _ _ hne]; exact hbox] at hr2
 simp only [rowRel] at hr2
 obtain ⟨b',cs',t',f1,f2,f3,f4⟩:=hr2
 have eb : b' = b:=by
  rw [show (upd p.β k none) kb = p.β kb from upd_other _ _ hne,g1] at f1
  injection f1 with e; exact e.symm
 subst eb
 rw [g2] at f2
 injection f2 with e
 injection e with e1 e2' e3
 subst e1
 have:=h2.setRow (w':=w) kb (.box (cells.set i (.r (.rp rs))))
  (by rw [show (upd s.rows k ⟨(s.rows k).ver + 1,.dead⟩ kb).c = .box cells by rw [upd_other _ _ hne]; exact hbox]; rfl) (fun _ _ _ _ h=>by cases h) f1 rfl rfl rfl rfl (fun _ _=>rfl) (fun _=>by
   simp only [rowRel]
   refine ⟨b',cs,t',f1,by rw [g2,e2'],relV_set f3 (fun u' hu'=>?_),f4⟩
   rw [hu] at hu'
   injection hu' with e
   subst e
   simp only [AV.rel,RV.rel]
   refine ⟨_,e2,.inr rfl,?_⟩
   exact relC_plain (fun _ h=>.inl h) k2 k4 _ _ _ (fun i u h=>by simpa using h) k3)
 rw [show (upd s.rows k ⟨(s.rows k).ver + 1,.dead⟩ kb).ver = (s.rows kb).ver by rw [upd_other _ _ hne]] at this
 exact ⟨_,this⟩
section
variable {n : Nat} {l : List (Nat × AV)} {vs : Nat → Nat} {cs : List (Nat × RowC)}
theorem sub_frzPB (kb i k : Nat) (rs : List RV) {cells : List AV} (hk0 : k < 1000) (hne : kb ≠ k) (hb : lookc cs kb = .box cells) (hi : cells[i]? = some (.pt k (vs k) 0)) (hc : lookc cs k = .box (rs.map .r)) :
 Sub (st n l vs cs) (st n l (upd vs k (vs k + 1)) (insc (delc cs k) kb (.box (cells.set i (.r (.rp rs)))))):=by
 have:=sub_freezePB (st n l vs cs) kb i k (vs k) hk0 hne hb hi rfl hc
 have e : ({ st n l vs cs with rows:=upd (upd (st n l vs cs).rows k ⟨((st n l vs cs).rows k).ver + 1,.dead⟩) kb ⟨((st n l vs cs).rows kb).ver,.box (cells.set i (.r (.rp rs)))⟩ } : AS)
  = st n l (upd vs k (vs k + 1)) (insc (delc cs k) kb (.box (cells.set i (.r (.rp rs))))):=by
  simp only [st,AS.mk.injEq,true_and]
  funext j
  rw [lookc_insc,lookc_delc]
  unfold upd
  split
  · rename_i e; subst e; rw [if_neg hne]
  · split <;> rfl
 rwa [e] at this
end
end Go.Oc

namespace Go.Proofs.Ytlljkgiomkmjbaa.Du
open Go Go.Oc
set_option linter.unusedSimpArgs false
set_option linter.unusedVariables false
set_option maxRecDepth 8000
mutual
theorem rv_le : ∀ x : RV,RV.le x x
 | .sl _ _=>by simp only [RV.le]; exact .inl trivial
 | .ag xs=>by simp only [RV.le]; exact rv_leL xs
 | .fn _ xs=>by simp only [RV.le]; exact ⟨trivial,rv_leL xs⟩
 | .rp xs=>by simp only [RV.le]; exact rv_leL xs
 | .un | .bo _ | .it _ _ | .ns | .np | .nf | .tu _ | .st _ | .ud | .yl _ | .sx _ _ | .vl _ | .bf _ _=>by simp only [RV.le]
theorem rv_leL : ∀ xs : List RV,RV.leL xs xs
 | []=>by simp only [RV.leL]
 | x :: xs=>by simp only [RV.leL]; exact ⟨rv_le x,rv_leL xs⟩
end
theorem seq_beds : ∀ {p : Option Int} {l : List Bd},seqOk p l = true → ∀ x ∈ l,x.b = 0 ∨ bedOk x.b = true
 | _,[],_,x,hx=>by cases hx
 | p, y :: l, h, x, hx => by
   simp only [seqOk,Bool.and_eq_true,Bool.or_eq_true,decide_eq_true_eq] at h
   rcases List.mem_cons.1 hx with rfl | hx
   · exact h.1.1
   · exact seq_beds h.2 x hx
theorem bedOk_le {b : Int} (h : bedOk b = true) : 0 ≤ b ∧ b ≤ 499:=by
 simp only [bedOk,Bool.or_eq_true,Bool.and_eq_true,decide_eq_true_eq] at h
 omega
theorem ruG_of {r : Ru} (h : ruE r = 0) : RuG r ∧ 1 ≤ r.ends.length ∧ 0 ≤ r.out ∧ r.out ≤ 2:=by
 unfold ruE at h
 split at h
 · rename_i hc; exact absurd h hc
 · rename_i hc
   have hc : checkV r.d r.aims = 0:=by simpa using hc
   split at h
   · rename_i hb
     simp only [Bool.and_eq_true,decide_eq_true_eq] at hb
     obtain ⟨⟨⟨⟨⟨⟨⟨s2,s40⟩,o0⟩,o2⟩,e1⟩,e10⟩,he⟩,hl⟩:=hb
     unfold checkV at hc
     split at hc
     · cases hc
     · rename_i g1
       split at hc
       · cases hc
       · rename_i g2
         split at hc
         · rename_i g3
           simp only [Bool.or_eq_true,decide_eq_true_eq,List.any_eq_true,not_or,not_exists,not_and] at g1
           simp only [Bool.or_eq_true,Bool.not_eq_true',Bool.and_eq_false_iff,decide_eq_false_iff_not,not_or,Decidable.not_not,List.isEmpty_iff] at g2
           refine ⟨⟨⟨g2.1,by omega,by omega,by omega,fun a ha=>?_⟩,e1,e10,fun x hx=>List.all_eq_true.1 he x hx,s2,s40⟩,e1,o0,o2⟩
           have ha1:=List.all_eq_true.1 g3 a ha
           have ha2:=g1.2 a ha
           simp only [aimOk,Bool.and_eq_true,decide_eq_true_eq] at ha1
           obtain ⟨⟨⟨⟨q1,q2⟩,q3⟩,q4⟩,q5⟩:=ha1
           refine ⟨by omega,q4,fun c hc=>?_⟩
           have hb:=seq_beds q2 c hc
           have hch:=List.all_eq_true.1 q3 c hc
           simp only [Bool.and_eq_true,decide_eq_true_eq] at hch
           refine ⟨?_,hch.1.1,hch.1.2,by omega⟩
           rcases hb with hb | hb
           · omega
           · exact bedOk_le hb
         · cases hc
   · cases h
def tabF (r : Ru) (most : Bool) : List (List Int):=tabI r most r.ends.length
abbrev sidesV (r : Ru) : RV:=if ruE r = 0 then .ag [sideP r false (tabF r false),sideP r true (tabF r true)] else .ag [.np,.np]
theorem sides_ok (r : Ru) (hw : WfR r) : ACalls Try.prog 42 [ruV r] (.tu [sidesV r,i64 (ruE r)]):=by
 have hch:=dcheck_ok r hw
 refine acalls_st (rs:=[sidesV r,i64 (ruE r)]) [.cell 2 129,.tmp 3] Try.func42 rfl (by kernel_rfl) Try.ntmps42 rfl (by simp) rfl fun C vs=>?_
 repeat refine zq ?_
 refine zb fun K hK=>?_;simp only [go_sem];(try simp (disch:=omega) only [zI]);repeat first | intro _ | refine ⟨by omega,?_⟩
 refine hK _ ?_;clear hK K;refine zw (sub_frzP 1 1 (ruC r) (by omega) rfl rfl) ?_;refine zw (zk [1,2]) ?_;simp only [go_sem]
 repeat refine zq ?_
 refine zb fun K hK=>?_;simp only [go_sem];(try simp (disch:=omega) only [zI])
 refine zh (hch) rfl (by simp only [go_sem,i64,ints]) (by simp only [go_sem,i64,ints]) (by first | exact .inl rfl | exact .inr rfl) ?_
 (try simp only [go_sem]);(try simp (disch:=omega) only [zI]);repeat first | intro _ | refine ⟨by omega,?_⟩
 refine hK _ ?_;clear hK K;refine zw (zk [1,2,4]) ?_;simp only [go_sem]
 by_cases h0 : ruE r = 0
 rotate_left
 · have c : (ruE r != 0) = true:=by simpa using h0
   repeat refine zq ?_
   refine zb fun K hK=>?_;simp only [go_sem,c];(try simp (disch:=omega) only [zI]);repeat first | intro _ | refine ⟨by omega,?_⟩
   refine hK _ ?_;clear hK K;refine zw (zk [1,2,4,9]) ?_;simp only [go_sem]
   repeat refine zq ?_
   refine zc rfl (fun hc=>?_) (fun hc=>?_) <;> (try simp only [go_sem] at hc)
   repeat refine zq ?_
   refine zb fun K hK=>?_;simp only [go_sem];(try simp (disch:=omega) only [zI]);repeat first | intro _ | refine ⟨by omega,?_⟩
   refine hK _ ?_;clear hK K;refine zw (zk [2,3]) ?_;simp only [go_sem];refine ze ?_;simp only [go_sem];simp only [sidesV,if_neg h0];exact rv_le _
 obtain ⟨hG,_⟩:=ruG_of h0
 rw [h0]
 repeat refine zq ?_
 refine zb fun K hK=>?_;simp only [go_sem,bne_self_eq_false];(try simp (disch:=omega) only [zI]);repeat first | intro _ | refine ⟨by omega,?_⟩
 refine hK _ ?_;clear hK K;refine zw (zk [1,2,4,9]) ?_;simp only [go_sem]
 repeat refine zq ?_
 refine zc rfl (fun hc=>?_) (fun hc=>?_) <;> (try simp only [go_sem] at hc)
 refine zx ?_
 try simp only [go_sem]
 repeat refine zq ?_
 refine zb fun K hK=>?_;simp only [go_sem];(try simp (disch:=omega) only [zI]);repeat first | intro _ | refine ⟨by omega,?_⟩
 refine hK _ ?_;clear hK K;refine zw (zk [1,2,12]) ?_;simp only [go_sem]
 repeat refine zq ?_
 refine zd ?_
 refine awp_uptoV (n:=29) 2 (fun i vs=>[(1,.r (.rp (ruC r))),(2,.pt 2 (vs 2) 0),(12,.r (i64 (i : Int)))])
  (fun i vs=>[(2,.box [if 0 < i then .r (sideP r false (tabF r false)) else .r .np,if 1 < i then .r (sideP r true (tabF r true)) else .r .np])]) (fun _=>True) 0 (zj [] ?_ ?_) (Nat.zero_le _) trivial ?_
 · try simp only [go_sem]
 · try simp only [go_sem]
 · intro i vs hi _
   have hf0:=fill_ok hG false
   have hf1:=fill_ok hG true
   have e01 : ((0 : Int) == 1) = false:=rfl
   have e11 : ((1 : Int) == 1) = true:=rfl
   have h012 : i = 0 ∨ i = 1 ∨ i = 2:=by omega
   rcases h012 with rfl | rfl | rfl
   · repeat refine zq ?_
     refine zb fun K hK=>?_;simp only [go_sem];(try simp (disch:=omega) only [zI]);repeat first | intro _ | refine ⟨by omega,?_⟩
     refine hK _ ?_;clear hK K;refine zw (zk [1,2,12,13]) ?_;simp only [go_sem]
     repeat refine zq ?_
     refine zc rfl (fun hc=>?_) (fun hc=>?_) <;> (try simp only [go_sem] at hc)
     refine zx ?_
     try simp only [go_sem]
     repeat refine zq ?_
     refine zd ?_
     repeat refine zq ?_
     refine zb fun K hK=>?_;simp only [go_sem];(try simp (disch:=omega) only [zI]);repeat first | intro _ | refine ⟨by omega,?_⟩
     refine hK _ ?_;clear hK K;refine zw (zk [1,2,5,12]) ?_;simp only [go_sem]
     repeat refine zq ?_
     refine zb fun K hK=>?_;simp only [go_sem,e01,e11];(try simp (disch:=omega) only [zI]);repeat first | intro _ | refine ⟨by omega,?_⟩
     refine hK _ ?_;clear hK K;refine zw (zk [1,2,5,12]) ?_;simp only [go_sem]
     repeat refine zq ?_
     refine zb fun K hK=>?_;simp only [go_sem];(try simp (disch:=omega) only [zI])
     refine xcall_mut (hf0) [(1000,21)] rfl (by simp only [go_sem,i64,ints]) (by simp only [go_sem,i64,ints]) (by rfl) (by rfl) ?_
     (try simp only [go_sem]);(try simp (disch:=omega) only [zI]);repeat first | intro _ | refine ⟨by omega,?_⟩
     refine hK _ ?_;clear hK K;refine zw (sub_frzPB 2 0 21 (sideC r false (tabF r false)) (by omega) (by omega) rfl rfl rfl) ?_;refine zw (zk [1,2,12]) ?_;simp only [go_sem]
     repeat refine zq ?_
     refine zb fun K hK=>?_;simp only [go_sem];(try simp (disch:=omega) only [zI]);repeat first | intro _ | refine ⟨by omega,?_⟩
     refine hK _ ?_;clear hK K
     try simp only [go_sem]
     refine zj [] ?_ ?_
     · try simp only [go_sem]
     · try simp only [go_sem]
   · repeat refine zq ?_
     refine zb fun K hK=>?_;simp only [go_sem];(try simp (disch:=omega) only [zI]);repeat first | intro _ | refine ⟨by omega,?_⟩
     refine hK _ ?_;clear hK K;refine zw (zk [1,2,12,13]) ?_;simp only [go_sem]
     repeat refine zq ?_
     refine zc rfl (fun hc=>?_) (fun hc=>?_) <;> (try simp only [go_sem] at hc)
     refine zx ?_
     try simp only [go_sem]
     repeat refine zq ?_
     refine zd ?_
     repeat refine zq ?_
     refine zb fun K hK=>?_;simp only [go_sem];(try simp (disch:=omega) only [zI]);repeat first | intro _ | refine ⟨by omega,?_⟩
     refine hK _ ?_;clear hK K;refine zw (zk [1,2,5,12]) ?_;simp only [go_sem]
     repeat refine zq ?_
     refine zb fun K hK=>?_;simp only [go_sem,e01,e11];(try simp (disch:=omega) only [zI]);repeat first | intro _ | refine ⟨by omega,?_⟩
     refine hK _ ?_;clear hK K;refine zw (zk [1,2,5,12]) ?_;simp only [go_sem]
     repeat refine zq ?_
     refine zb fun K hK=>?_;simp only [go_sem];(try simp (disch:=omega) only [zI])
     refine xcall_mut (hf1) [(1000,21)] rfl (by simp only [go_sem,i64,ints]) (by simp only [go_sem,i64,ints]) (by rfl) (by rfl) ?_
     (try simp only [go_sem]);(try simp (disch:=omega) only [zI]);repeat first | intro _ | refine ⟨by omega,?_⟩
     refine hK _ ?_;clear hK K;refine zw (sub_frzPB 2 1 21 (sideC r true (tabF r true)) (by omega) (by omega) rfl rfl rfl) ?_;refine zw (zk [1,2,12]) ?_;simp only [go_sem]
     repeat refine zq ?_
     refine zb fun K hK=>?_;simp only [go_sem];(try simp (disch:=omega) only [zI]);repeat first | intro _ | refine ⟨by omega,?_⟩
     refine hK _ ?_;clear hK K
     try simp only [go_sem]
     refine zj [] ?_ ?_
     · try simp only [go_sem]
     · try simp only [go_sem]
   · repeat refine zq ?_
     refine zb fun K hK=>?_;simp only [go_sem];(try simp (disch:=omega) only [zI]);repeat first | intro _ | refine ⟨by omega,?_⟩
     refine hK _ ?_;clear hK K;refine zw (zk [1,2,12,13]) ?_;simp only [go_sem]
     repeat refine zq ?_
     refine zc rfl (fun hc=>?_) (fun hc=>?_) <;> (try simp only [go_sem] at hc)
     refine zf ?_;simp only [go_sem]
     repeat refine zq ?_
     refine zb fun K hK=>?_;simp only [go_sem];(try simp (disch:=omega) only [zI]);repeat first | intro _ | refine ⟨by omega,?_⟩
     refine hK _ ?_;clear hK K;refine zw (zk [2,3]) ?_;simp only [go_sem];refine ze ?_;simp only [go_sem];simp only [sidesV,if_pos h0];exact rv_le _
abbrev tabsV (r : Ru) (most : Bool) : RV:=if ruE r = 0 then tabR (tabF r most) else .ns
theorem table_ok (r : Ru) (hw : WfR r) : ACalls Try.prog 34 [ruV r] (.tu [tabsV r false,tabsV r true,i64 (ruE r)]):=by
 have hs:=sides_ok r hw
 refine acalls_st (rs:=[tabsV r false,tabsV r true,i64 (ruE r)]) [.tmp 2,.tmp 3,.tmp 4] Try.func34 rfl (by kernel_rfl) Try.ntmps34 rfl (by simp) rfl fun C vs=>?_
 repeat refine zq ?_
 refine zb fun K hK=>?_;simp only [go_sem];(try simp (disch:=omega) only [zI]);repeat first | intro _ | refine ⟨by omega,?_⟩
 refine hK _ ?_;clear hK K;refine zw (sub_frzP 1 1 (ruC r) (by omega) rfl rfl) ?_;refine zw (zk [1]) ?_;simp only [go_sem]
 by_cases h0 : ruE r = 0
 · have e1 : sidesV r = .ag [sideP r false (tabF r false),sideP r true (tabF r true)]:=if_pos h0
   rw [e1,h0] at hs
   repeat refine zq ?_
   refine zb fun K hK=>?_;simp only [go_sem];(try simp (disch:=omega) only [zI])
   refine zh (hs) rfl (by simp only [go_sem,i64,ints]) (by simp only [go_sem,i64,ints]) (by first | exact .inl rfl | exact .inr rfl) ?_
   (try simp only [go_sem]);(try simp (disch:=omega) only [zI]);repeat first | intro _ | refine ⟨by omega,?_⟩
   refine hK _ ?_;clear hK K;refine zw (zk [4,5]) ?_;simp only [go_sem]
   repeat refine zq ?_
   refine zb fun K hK=>?_;simp only [go_sem,bne_self_eq_false];(try simp (disch:=omega) only [zI]);repeat first | intro _ | refine ⟨by omega,?_⟩
   refine hK _ ?_;clear hK K;refine zw (zk [4,5,12]) ?_;simp only [go_sem]
   repeat refine zq ?_
   refine zc rfl (fun hc=>?_) (fun hc=>?_) <;> (try simp only [go_sem] at hc)
   refine zx ?_
   try simp only [go_sem]
   repeat refine zq ?_
   refine zg follows (by decide +kernel) (by kernel_rfl) fun K hK=>?_;simp only [go_sem];(try simp (disch:=omega) only [zI]);repeat first | intro _ | refine ⟨by omega,?_⟩
   refine hK _ ?_;clear hK K;refine zw (zk [2,3,4]) ?_;simp only [go_sem];refine ze ?_;simp only [go_sem];simp only [tabsV,if_pos h0];exact ⟨rv_le _,rv_le _,h0.symm⟩
 · have e1 : sidesV r = .ag [.np,.np]:=if_neg h0
   have c : (ruE r != 0) = true:=by simpa using h0
   rw [e1] at hs
   repeat refine zq ?_
   refine zb fun K hK=>?_;simp only [go_sem];(try simp (disch:=omega) only [zI])
   refine zh (hs) rfl (by simp only [go_sem,i64,ints]) (by simp only [go_sem,i64,ints]) (by first | exact .inl rfl | exact .inr rfl) ?_
   (try simp only [go_sem]);(try simp (disch:=omega) only [zI]);repeat first | intro _ | refine ⟨by omega,?_⟩
   refine hK _ ?_;clear hK K;refine zw (zk [4,5]) ?_;simp only [go_sem]
   repeat refine zq ?_
   refine zb fun K hK=>?_;simp only [go_sem,c];(try simp (disch:=omega) only [zI]);repeat first | intro _ | refine ⟨by omega,?_⟩
   refine hK _ ?_;clear hK K;refine zw (zk [4,5,12]) ?_;simp only [go_sem]
   repeat refine zq ?_
   refine zc rfl (fun hc=>?_) (fun hc=>?_) <;> (try simp only [go_sem] at hc)
   repeat refine zq ?_
   refine zb fun K hK=>?_;simp only [go_sem];(try simp (disch:=omega) only [zI]);repeat first | intro _ | refine ⟨by omega,?_⟩
   refine hK _ ?_;clear hK K;refine zw (zk [2,3,4]) ?_;simp only [go_sem];refine ze ?_;simp only [go_sem];simp only [tabsV,if_neg h0];exact ⟨rv_le _,rv_le _⟩
structure RefH (r : Ru) : Prop where
 out : r.out = 0 ∨ r.out = 1 ∨ r.out = 2
 beds : ∀ a ∈ r.aims,∀ c ∈ a.beds,c.b = 0 ∨ 0 < scoreOf c.b
 hi : ∀ a ∈ r.aims,r.d ≤ hiS a.beds
theorem bedOk_pos {b : Int} (h : bedOk b = true) : 0 < scoreOf b:=by
 simp only [bedOk,Bool.or_eq_true,Bool.and_eq_true,decide_eq_true_eq] at h
 unfold scoreOf
 refine Int.mul_pos (by omega) (by omega)
structure Pos where
 round : Int
 start : Int
 left : Int
 darts : Int
abbrev posC (p : Pos) : List RV:=[i64 p.round,i64 p.start,i64 p.left,i64 p.darts]
abbrev posV (p : Pos) : RV:=.ag (posC p)
def oddsV (r : Ru) (most : Bool) (T : List (List Int)) (k st left d : Nat) : List Int:=meansV r most (nextV r most T k st (valV r most T k st d) (decide (d = 0)) left)
set_option maxHeartbeats 4000000
theorem throws_mem {bs : List Int} (hB : ∀ b ∈ bs,bedOk b = true) {g s : Int} {x : Int × Int} (hx : x ∈ throwsO g s bs) : x.1 ∈ bs ∧ 0 ≤ x.2 ∧ x.2 < s ∧ x.2 = s - scoreOf x.1:=by
 unfold throwsO at hx
 obtain ⟨b,hb,e⟩:=List.mem_filterMap.1 hx
 split at e
 · rename_i hc
   injection e with e
   subst e
   have hp:=bedOk_pos (hB b hb)
   simp only [Bool.and_eq_true,decide_eq_true_eq] at hc
   obtain ⟨h1,h2⟩:=hc
   unfold afterO at h1 ⊢
   refine ⟨hb,?_⟩
   by_cases q0 : s - scoreOf b = 0
   · simp only [if_pos q0]; omega
   · by_cases q1 : s - scoreOf b = 1
     · simp only [if_neg q0,if_pos q1]; omega
     · simp only [if_neg q0,if_neg q1,decide_eq_true_eq] at h1 ⊢
       exact ⟨by omega,by omega,trivial⟩
 · cases e
theorem throws_len (bs : List Int) (g s : Int) : (throwsO g s bs).length ≤ bs.length:=List.length_filterMap_le _ _
def sumT (before : List Int) (l : List (Int × Int)) : Int:=(l.map fun x=>before.getD x.2.toNat 0).sum
theorem sumT_snoc (before : List Int) (l : List (Int × Int)) (x : Int × Int) : sumT before (l ++ [x]) = sumT before l + before.getD x.2.toNat 0:=by simp [sumT]
def rowO (g : Int) (bs before : List Int) : List Int:=(List.range before.length).map fun s : Nat=>sumT before (throwsO g s bs)
def rowS (g : Int) (bs before : List Int) (k : Nat) : List Int:=(List.range before.length).map fun s : Nat=>if s < k then sumT before (throwsO g s bs) else 0
theorem rowS_len (g : Int) (bs before : List Int) (k : Nat) : (rowS g bs before k).length = before.length:=by simp [rowS]
theorem rowS_zero (g : Int) (bs before : List Int) : rowS g bs before 0 = List.replicate before.length 0:=by
 refine List.ext_getElem (by simp [rowS]) fun i h1 h2=>?_
 simp [rowS]
theorem rowS_end (g : Int) (bs before : List Int) : rowS g bs before before.length = rowO g bs before:=by
 unfold rowS rowO
 refine List.map_congr_left fun s hs=>?_
 rw [if_pos (List.mem_range.1 hs)]
theorem rowS_set (g : Int) (bs before : List Int) (k : Nat) : (rowS g bs before k).set k (sumT before (throwsO g k bs)) = rowS g bs before (k + 1):=by
 refine List.ext_getElem (by simp [rowS]) fun i h1 h2=>?_
 have hi : i < before.length:=by simpa [rowS] using h2
 rw [List.getElem_set]
 simp only [rowS,List.getElem_map,List.getElem_range]
 split
 · rename_i e; subst e; rw [if_pos (by omega)]
 · split <;> split <;> first | rfl | omega
theorem rowS_at (g : Int) (bs before : List Int) (k : Nat) (h : k < before.length) : (rowS g bs before k).set k 0 = rowS g bs before k:=by
 refine List.ext_getElem (by simp) fun i h1 h2=>?_
 rw [List.getElem_set]
 split
 · rename_i e; subst e; simp [rowS]
 · rfl
theorem sumT_le {before : List Int} {M : Int} (h : ∀ x ∈ before,0 ≤ x ∧ x ≤ M) (hM : 0 ≤ M) : ∀ l : List (Int × Int),0 ≤ sumT before l ∧ sumT before l ≤ M * l.length
 | []=>by simp [sumT]
 | x :: l => by
   have ih:=sumT_le h hM l
   have hx : 0 ≤ before.getD x.2.toNat 0 ∧ before.getD x.2.toNat 0 ≤ M:=by
    rw [List.getD_eq_getElem?_getD]
    cases e : before[x.2.toNat]? with
    | none=>simp; omega
    | some y=>exact h y (mem_of_opt e)
   have e1 : sumT before (x :: l) = before.getD x.2.toNat 0 + sumT before l:=by simp [sumT]
   rw [e1,List.length_cons]
   have : M * ((l.length + 1 : Nat) : Int) = M * l.length + M:=by push_cast; rw [Int.mul_add]; omega
   omega
abbrev arrN (l : List Int) : List (List RV):=l.map fun n=>[i64 n]
theorem row_ok (bs : List Int) (g : Int) (cs : List (List Int)) (before : List Int) (hb : ∀ b ∈ bs,bedOk b = true ∧ 0 ≤ b ∧ b ≤ 499) (hl : 1 ≤ before.length ∧ before.length ≤ 1001) (hbl : bs.length ≤ 82) (hM : ∀ x ∈ before,0 ≤ x ∧ x ≤ 1000000000000) :
 OCalls Try.prog 104 [brdP bs g cs,ints before] 3 1 (arrN (rowO g bs before)) before.length:=by
 have hth:=throws_ok bs g cs
 refine ocalls_0R (n:=34) (.tmp 4) Try.func104 rfl (by kernel_rfl) Try.ntmps104 rfl (by simp) (fun e he=>by obtain ⟨x,_,rfl⟩:=List.mem_map.1 he; rfl) fun C hC=>?_
 repeat refine zq ?_
 refine zb fun K hK=>?_;simp only [go_sem];(try simp (disch:=omega) only [zI]);repeat first | intro _ | refine ⟨by omega,?_⟩
 refine hK _ ?_;clear hK K;refine zw (sub_frzP 3 3 [ints before] (by omega) rfl rfl) ?_;refine zw (zk [0,3]) ?_;simp only [go_sem]
 repeat refine zq ?_
 refine zb fun K hK=>?_;simp only [go_sem,List.length_map];(try simp (disch:=omega) only [zI]);repeat first | intro _ | refine ⟨by omega,?_⟩
 repeat first | intro _ | refine ⟨by omega,?_⟩
 refine hK _ ?_;clear hK K;refine zw (zk [0,3,5]) ?_;simp only [go_sem]
 repeat refine zq ?_
 refine zb fun K hK=>?_;simp only [go_sem,List.length_map,List.length_replicate];(try simp (disch:=omega) only [zI]);repeat first | intro _ | refine ⟨by omega,?_⟩
 repeat first | intro _ | refine ⟨by omega,?_⟩
 refine hK _ ?_;clear hK K;refine zw (zk [0,3,5,13,14]) ?_;simp only [go_sem]
 repeat refine zq ?_
 refine zd ?_
 refine awp_uptoV (n:=34) before.length (fun i vs=>[(0,.r (brdP bs g cs)),(3,.r (.rp [ints before])),(5,.pt 5 (vs 5) 0),(13,.r (i64 (before.length : Int))),(14,.r (i64 (i : Int)))])
  (fun i vs=>[(5,.box [.os 11 (vs 11) 1 0 before.length]),(11,.arr 3 1 (arrN (rowS g bs before i)))]) (fun _=>True) 0 (zj [] ?_ ?_) (Nat.zero_le _) trivial ?_
 · try simp only [go_sem]
   try rfl
 · try simp only [go_sem]
   rw [rowS_zero]
   try simp
 · intro i vs hi _
   by_cases hin : i < before.length
   · repeat refine zq ?_
     refine zb fun K hK=>?_;simp only [go_sem,hin];(try simp (disch:=omega) only [zI]);repeat first | intro _ | refine ⟨by omega,?_⟩
     refine hK _ ?_;clear hK K;refine zw (zk [0,3,5,13,14,15]) ?_;simp only [go_sem]
     repeat refine zq ?_
     refine zc rfl (fun hc=>?_) (fun hc=>?_) <;> (try simp only [go_sem] at hc)
     refine zx ?_
     try simp only [go_sem]
     repeat refine zq ?_
     refine zd ?_
     repeat refine zq ?_
     refine zb fun K hK=>?_;simp only [go_sem];(try simp (disch:=omega) only [zI]);repeat first | intro _ | refine ⟨by omega,?_⟩
     refine hK _ ?_;clear hK K;refine zw (sub_frzP 6 6 [i64 (i : Int)] (by omega) rfl rfl) ?_;refine zw (zk [0,3,5,6,13,14]) ?_;simp only [go_sem]
     repeat refine zq ?_
     refine zb fun K hK=>?_;simp only [go_sem];(try simp (disch:=omega) only [zI])
     refine zh (hth (i : Int)) rfl (by simp only [go_sem,i64,ints]) (by simp only [go_sem,i64,ints]) (by first | exact .inl rfl | exact .inr rfl) ?_
     (try simp only [go_sem]);(try simp (disch:=omega) only [zI]);repeat first | intro _ | refine ⟨by omega,?_⟩
     refine hK _ ?_;clear hK K;refine zw (zk [0,3,5,6,13,14,19]) ?_;simp only [go_sem]
     have hB : ∀ b ∈ bs,bedOk b = true:=fun b h=>(hb b h).1
     have hmem:=fun x (hx : x ∈ throwsO g (i : Int) bs)=>throws_mem hB hx
     have htl:=throws_len bs g (i : Int)
     have hsn:=sumT_snoc before
     have hle:=sumT_le hM (by omega)
     have hset:=rowS_set g bs before i
     have hat:=rowS_at g bs before i hin
     have hLl:=rowS_len g bs before i
     rw [← hset]
     have hit:=throws1_ok bs g cs (i : Int) (by omega) (fun b h=>(hb b h).2)
     generalize hT : throwsO g (i : Int) bs = T at *
     generalize hL : rowS g bs before i = L at *
     repeat refine zq ?_
     refine zd ?_
     refine awp_rangeF hC (T.map thrR) hit [0,3,5,6,13,14,19] (by decide) (fun vs=>[(0,.r (brdP bs g cs)),(3,.r (.rp [ints before])),(5,.pt 5 (vs 5) 0),(6,.r (.rp [i64 (i : Int)])),(13,.r (i64 (before.length : Int))),(14,.r (i64 (i : Int))),(19,.r (.fn 106 [.rp [brdP bs g cs],.rp [i64 (i : Int)]]))])
      (fun j vs=>[(5,.box [.os 11 (vs 11) 1 0 before.length]),(11,.arr 3 1 (arrN (L.set i (sumT before (T.take j)))))]) (fun _=>True) (zj [] ?_ ?_) trivial (fun _=>rfl) (fun _=>rfl) (fun _ _=>rfl) (by simp) (fun e he=>by obtain ⟨x,_,rfl⟩:=List.mem_map.1 he; rfl) ?_ ?_
     · try simp only [go_sem]
       try rfl
     · try simp only [go_sem]
       have e0 : L.set i (sumT before []) = L:=hat
       try simp only [List.take_zero,e0]
     · intro j e vs us C' he _
       rw [List.getElem?_map] at he
       obtain ⟨x,hx,rfl⟩:=Option.map_eq_some_iff.1 he
       obtain ⟨m1,m2,m3,m4⟩:=hmem x (mem_of_opt hx)
       have hj:=(List.getElem?_eq_some_iff.1 hx).1
       repeat refine zq ?_
       refine zb fun K hK=>?_;simp only [go_sem];(try simp (disch:=omega) only [zI]);repeat first | intro _ | refine ⟨by omega,?_⟩
       refine hK _ ?_;clear hK K
       refine ⟨rfl,fun C'=>?_⟩
       refine zw (zk [0,3,5,6,8,13,14,19]) ?_;simp only [go_sem];rw [take_of_opt hx,hsn]
       have hv:=hle (T.take j)
       have htk : (T.take j).length ≤ T.length:=by rw [List.length_take]; omega
       obtain ⟨y,hy⟩:=opt_of_lt (l:=before) (i:=x.2.toNat) (by omega)
       have hyM:=hM y (mem_of_opt hy)
       have hgy : before.getD x.2.toNat 0 = y:=by rw [List.getD_eq_getElem?_getD,hy]; rfl
       rw [hgy]
       generalize sumT before (T.take j) = v at *
       have hvM : v ≤ 82000000000000:=by
        have h1 : (1000000000000 : Int) * ((T.take j).length : Int) ≤ 1000000000000 * 82:=Int.mul_le_mul_of_nonneg_left (by omega) (by omega)
        omega
       have w1 : IntKind.i64.wrap (v + y) = v + y:=by rw [zI] <;> omega
       have hiL : i < (L.set i v).length:=by rw [List.length_set]; omega
       have hgL : (L.set i v)[i]? = some v:=by rw [List.getElem?_set,if_pos rfl,if_pos (by omega)]
       have hss : (L.set i v).set i (v + y) = L.set i (v + y):=by simp
       obtain ⟨X,hX⟩ : ∃ X,X = L.set i v:=⟨_,rfl⟩
       have hXl : X.length = before.length:=by rw [hX,List.length_set]; exact hLl
       rw [← hX] at hgL hss ⊢
       rw [← hss]
       have hx2 : x.2 = ((x.2.toNat : Nat) : Int):=by omega
       have hx3 : x.2.toNat < before.length:=by omega
       rw [hx2]
       generalize x.2.toNat = q at *
       repeat refine zq ?_
       refine zd ?_
       repeat refine zq ?_
       refine awp_dreg3 [(5,some 5),(3,none),(6,none),(8,none)] [5] follows (by decide +kernel) (by kernel_rfl) (by simp only [keysOk,List.mem_cons,List.not_mem_nil,forall_eq_or_imp,Oc.keyOf,go_sem]; simp) (by intro k hk; simp only [List.mem_cons,List.not_mem_nil,or_false] at hk; first | (subst hk; exact ⟨_,rfl⟩) | (rcases hk with rfl | rfl <;> exact ⟨_,rfl⟩) | (rcases hk with rfl | rfl | rfl <;> exact ⟨_,rfl⟩)) fun K hK=>?_
       simp only [go_sem,hy,hx3,hgL,hXl,hin,w1,List.length_map];(try simp (disch:=omega) only [zI]);repeat first | intro _ | refine ⟨by omega,?_⟩
       refine hK _ ?_;clear hK K
       try simp only [go_sem]
       have hms : (arrN X).set i [RV.it IntKind.i64 (v + y)] = arrN (X.set i (v + y)):=by simp only [arrN,List.map_set]
       rw [hms]
       refine zj (F:=fun _=>[]) [] ?_ ?_
       · try simp only [go_sem]
       · try simp only [go_sem]
     · intro vs us _
       have hTl : (T.map thrR).length = T.length:=List.length_map _
       try simp only [go_sem]
       refine zw (sub_wake rfl) ?_
       try simp only [List.length_map,List.take_length]
       repeat refine zq ?_
       refine zb fun K hK=>?_;simp only [go_sem];(try simp (disch:=omega) only [zI]);repeat first | intro _ | refine ⟨by omega,?_⟩
       refine hK _ ?_;clear hK K
       try simp only [go_sem]
       refine ⟨by omega,zj [] ?_ ?_⟩
       · try simp only [go_sem]
       · try simp only [go_sem]
         try simp only [List.length_map,List.take_length]
   · have hie : i = before.length:=by omega
     subst hie
     rw [rowS_end]
     repeat refine zq ?_
     refine zb fun K hK=>?_;simp only [go_sem,Nat.lt_irrefl];(try simp (disch:=omega) only [zI]);repeat first | intro _ | refine ⟨by omega,?_⟩
     refine hK _ ?_;clear hK K;refine zw (zk [5,15]) ?_;simp only [go_sem]
     repeat refine zq ?_
     refine zc rfl (fun hc=>?_) (fun hc=>?_) <;> (try simp only [go_sem] at hc)
     refine zf ?_;simp only [go_sem]
     repeat refine zq ?_
     refine zb fun K hK=>?_;simp only [go_sem];(try simp (disch:=omega) only [zI]);repeat first | intro _ | refine ⟨by omega,?_⟩
     refine hK _ ?_;clear hK K;refine zw (zk [4]) ?_;simp only [go_sem];refine ze ?_;simp only [go_sem];exact ⟨11,vs 11,rfl,rfl⟩
end Go.Proofs.Ytlljkgiomkmjbaa.Du

namespace Go.Oc
open Go Go.RowKit
set_option linter.unusedVariables false
set_option linter.unusedSimpArgs false
def unl (listed : Array Bool) : Nat → Nat
 | 0=>0
 | m + 1=>unl listed m + if listed.getD m true then 0 else 1
theorem getD_setT {listed : Array Bool} {i j : Nat} : (listed.setIfInBounds i true).getD j true = if j = i then true else listed.getD j true:=by
 split
 · rename_i e
   subst e
   simp only [Array.getD_eq_getD_getElem?,Array.getElem?_setIfInBounds]
   split
   · split <;> simp_all
   · simp_all
 · rename_i e
   simp only [Array.getD_eq_getD_getElem?,Array.getElem?_setIfInBounds];rw [if_neg (fun h=>e h.symm)]
theorem unl_same {listed : Array Bool} {i : Nat} : ∀ m,m ≤ i → unl (listed.setIfInBounds i true) m = unl listed m
 | 0,_=>rfl
 | m + 1, h => by
   have e2 : m ≠ i:=by omega
   have e3:=unl_same (listed:=listed) (i:=i) m (by omega)
   simp only [unl,getD_setT,e3,if_neg e2]
theorem unl_set {listed : Array Bool} {i : Nat} (hi : listed.getD i true = false) : ∀ m,i < m → unl (listed.setIfInBounds i true) m + 1 = unl listed m
 | 0,h=>by omega
 | m + 1, h => by
   simp only [unl,getD_setT]
   by_cases e : i = m
   · subst e
     rw [unl_same _ (Nat.le_refl _)]
     simp [hi]
   · have:=unl_set hi m (by omega)
     have e2 : m ≠ i:=fun h=>e h.symm
     rw [if_neg e2]
     omega
theorem unl_zero {listed : Array Bool} : ∀ m,unl listed m = 0 → ∀ j,j < m → listed.getD j true = true
 | 0,_,j,h=>by omega
 | m + 1, h, j, hj => by
   simp only [unl] at h
   by_cases e : j = m
   · subst e
     by_cases hx : listed.getD j true = true
     · exact hx
     · simp [hx] at h
   · exact unl_zero m (by omega) j (by omega)
def stepAll (P : Program) (ops : Array Oper) (n : Nat) (F : (Nat → Bool) → (Nat → Nat) → List (Nat × AV)) (R : (Nat → Bool) → (Nat → Nat) → List (Nat × RowC)) : Nat → List Oper → Prop
 | _,[]=>True
 | k,o :: rest=>(∀ b vs,(∀ j e,j < ops.size → (deps ops j).contains e = true → b j = true → b e = true) → b k = false → (∀ e ∈ deps ops k,b e = true) →
  xop P false o (FitV n (F (upd b k true)) (R (upd b k true))) (st n (F b vs) vs (R b vs))) ∧ stepAll P ops n F R (k + 1) rest
theorem stepAll_get {P : Program} {ops : Array Oper} {n : Nat} {F : (Nat → Bool) → (Nat → Nat) → List (Nat × AV)} {R : (Nat → Bool) → (Nat → Nat) → List (Nat × RowC)} : ∀ {l : List Oper} {k i : Nat} {o : Oper},stepAll P ops n F R k l → l[i]? = some o →
 ∀ b vs, (∀ j e, j < ops.size → (deps ops j).contains e = true → b j = true → b e = true) → b (k + i) = false → (∀ e ∈ deps ops (k + i), b e = true) →
   xop P false o (FitV n (F (upd b (k + i) true)) (R (upd b (k + i) true))) (st n (F b vs) vs (R b vs))
 | [],_,_,_,_,h=>by simp at h
 | x :: l, k, 0, o, hs, h => by
   simp only [List.getElem?_cons_zero,Option.some.injEq] at h
   subst h
   exact hs.1
 | x :: l, k, i + 1, o, hs, h => by
   have:=stepAll_get (k:=k + 1) (i:=i) hs.2 (by simpa using h)
   rwa [show k + 1 + i = k + (i + 1) by omega] at this
def upOk (ops : Array Oper) : Bool:=(List.range ops.size).all fun j=>(deps ops j).all fun e=>decide (e < j)
section
variable {P : Program} {C : Ctx} {s : AS} {a : Act} {w : World} {ops : Array Oper}
theorem ready_nil {listed : Array Bool} (hu : upOk ops = true) (h : Region.ready .any ops listed = []) (hsz : listed.size = ops.size) : ∀ j,j < ops.size → listed.getD j true = true:=by
 intro j
 induction j using Nat.strongRecOn with
 | _ j ih =>
   intro hj
   by_cases hx : listed.getD j true = true
   · exact hx
   · exfalso
     have ho : ops[j]? = some ops[j]:=Array.getElem?_eq_getElem hj
     have hr : j ∈ Region.ready .any ops listed:=by
      refine mem_ready.2 ⟨by simpa using hx,ops[j],ho,fun e he hb=>?_⟩
      have hm : e.on ∈ deps ops j:=by unfold deps; rw [ho]; exact List.mem_map.2 ⟨e,List.mem_filter.2 ⟨by simpa using he,hb⟩,rfl⟩
      have hlt:=List.all_eq_true.1 (List.all_eq_true.1 hu j (by simpa using hj)) e.on hm
      simp only [decide_eq_true_eq] at hlt
      have:=ih e.on hlt (by omega)
      have h2 : e.on < listed.size:=by omega
      simpa [h2] using this
     rw [h] at hr
     cases hr
theorem inv_any {Q : AS → Prop} {Q' : Exit → Act → World → Prop} (hQ : ∀ s a w,Q s → SRel C s a w → Q' .normal a w) {n : Nat} {F : (Nat → Bool) → (Nat → Nat) → List (Nat × AV)} {R : (Nat → Bool) → (Nat → Nat) → List (Nat × RowC)}
 (hd : dstOk ops n = true) (hg : ops.all (fun o=>o.guard.isNone) = true) (hu : upOk ops = true) (hstep : stepAll P ops n F R 0 ops.toList)
 (hend : ∀ b vs,(∀ j,b j = true) → Q (st n (F b vs) vs (R b vs))) :
 ∀ (fuel : Nat) (vs : Nat → Nat) (listed : Array Bool) (a : Act) (w : World), listed.size = ops.size → down ops listed → unl listed ops.size ≤ fuel → SRel C (st n (F (fun j => listed.getD j true) vs) vs (R (fun j => listed.getD j true) vs)) a w →
   wpAnyIn (fnc C.rd) 0 P .any ops Q' fuel listed a w:=by
 have all : ∀ {listed : Array Bool},listed.size = ops.size → (∀ j,j < ops.size → listed.getD j true = true) → ∀ j,(fun j=>listed.getD j true) j = true:=fun {listed} hsz h j=>by
  by_cases hj : j < ops.size
  · exact h j hj
  · show listed.getD j true = true
    have : ¬ j < listed.size:=by omega
    simp [this]
 intro fuel
 induction fuel with
 | zero =>
   intro vs listed a w hsz hdn hf hs
   have h0:=unl_zero (listed:=listed) ops.size (by omega)
   refine ⟨List.eq_nil_iff_forall_not_mem.2 fun j hj=>?_,hQ _ _ _ (hend _ _ (all hsz h0)) hs⟩
   obtain ⟨h1,o,ho,_⟩:=mem_ready.1 hj
   have:=h0 j (Array.getElem?_eq_some_iff.1 ho).1
   rw [this] at h1
   cases h1
 | succ fuel ih =>
   intro vs listed a w hsz hdn hf hs
   refine ⟨fun h0=>hQ _ _ _ (hend _ _ (all hsz (ready_nil hu h0 hsz))) hs,fun i hi=>?_⟩
   obtain ⟨hi1,o,ho,hall⟩:=mem_ready.1 hi
   unfold wpOpIn
   rw [ho]
   simp only
   have hil : i < ops.size:=(Array.getElem?_eq_some_iff.1 ho).1
   have hgo : o.guard = none:=by
    have:=Array.all_eq_true_iff_forall_mem.1 hg o (Array.mem_of_getElem? ho)
    simpa using this
   obtain ⟨p,hp⟩:=hs
   rw [if_pos (wantA_sound hp (by simp [wantA,hgo]))]
   have hx:=stepAll_get (k:=0) (i:=i) hstep (by rw [Array.getElem?_toList]; exact ho) (fun j=>listed.getD j true) vs (fun j e hj he hb=>?_) (by rw [Nat.zero_add]; exact hi1) (fun e he=>?_)
   · rw [Nat.zero_add] at hx
     refine xop_sound hp hx (dstOk_get hd ho) (fun a' w' p' s' hs' hn hK=>?_) (dstOk_nd hd ho)
     obtain ⟨vs',hsub⟩:=hK
     have e : upd (fun j=>listed.getD j true) i true = fun j=>(listed.setIfInBounds i true).getD j true:=by
      funext j
      rw [getD_setT]
      rfl
     rw [e] at hsub
     exact ih vs' _ a' w' (by simpa using hsz) (down_set hdn hi) (by have:=unl_set hi1 ops.size hil; omega) (hsub C a' w' ⟨p',hs'⟩)
   · have hjs : j < listed.size:=by omega
     have hb' : listed.getD j true = true:=hb
     have h2:=hdn j (by simpa [hjs] using hb') e (by simpa using he)
     show listed.getD e true = true
     by_cases hes : e < listed.size
     · simpa [hes] using h2
     · simp [hes]
   · have h2:=ready_deps hi e (by simpa using he)
     show listed.getD e true = true
     by_cases hes : e < listed.size
     · simpa [hes] using h2
     · simp [hes]
end
theorem awp_inv {P : Program} {C : Ctx} {id : Nat} {l : List Oper} {n : Nat} {Q : Exit → AS → Prop} {s : AS} (F : (Nat → Bool) → (Nat → Nat) → List (Nat × AV)) (R : (Nat → Bool) → (Nat → Nat) → List (Nat × RowC)) (hm : P.follows .mixedOrders = true)
 (hd : dstOk l.toArray n = true) (hg : l.toArray.all (fun o=>o.guard.isNone) = true) (hu : upOk l.toArray = true) (h0 : FitV n (F fun j=>decide (l.length ≤ j)) (R fun j=>decide (l.length ≤ j)) s)
 (hstep : stepAll P l.toArray n F R 0 l) (hend : ∀ b vs,(∀ j,b j = true) → Q .normal (st n (F b vs) vs (R b vs))) : awp P C (.region id l.toArray true) Q s:=fun a w hs=>by
 obtain ⟨vs,hsub⟩:=h0
 obtain ⟨p,hp⟩:=hsub C a w hs
 have hs' : SR C p _ a { w with drawn:=w.drawn + 1 }:=hp.below (w':=w.drew) ((Below.refl _ _).drew) (fun _ h=>h) (fun _ h=>.inl h) hp.rb
 refine wpIn_region_any hm ?_
 have e : (fun j=>(Array.replicate l.toArray.size false).getD j true) = fun j=>decide (l.length ≤ j):=by
  funext j
  by_cases h : j < l.length
  · have : ¬ l.length ≤ j:=by omega
    simp [h,this]
  · have : l.length ≤ j:=by omega
    simp [h,this]
 refine inv_any (Q:=fun s=>Q .normal s) (n:=n) (F:=F) (R:=R) (fun s a w hq hs=>⟨s,hs,hq⟩) hd hg hu (by simpa using hstep) hend _ vs _ _ _ (by simp) (fun j hj=>?_) ?_ ?_
 · exfalso
   simp only [Array.getD_eq_getD_getElem?,Array.getElem?_replicate] at hj
   split at hj <;> simp at hj
 · have : ∀ m,unl (Array.replicate l.toArray.size false) m ≤ m:=by
    intro m
    induction m with
    | zero=>exact Nat.le_refl _
    | succ m ih=>simp only [unl]; split <;> omega
   exact this _
 · rw [e]
   exact ⟨p,hs'⟩
def allB (b : Nat → Bool) (v : Bool) : List Nat → Prop
 | []=>True
 | e :: es=>b e = v ∧ allB b v es
def chU (ops : Array Oper) (n : Nat) : List Nat → List Nat → Bool
 | _,[]=>true
 | seen,e :: es=>((deps ops n).contains e || seen.any fun j=>decide (j < ops.size) && (deps ops j).contains e) && chU ops n (e :: seen) es
def chD (ops : Array Oper) (n : Nat) : List Nat → List Nat → Bool
 | _,[]=>true
 | seen,e :: es=>(decide (e < ops.size) && ((deps ops e).contains n || seen.any fun j=>(deps ops e).contains j)) && chD ops n (e :: seen) es
theorem upT0 {ops : Array Oper} {b : Nat → Bool} {n : Nat} (hdn : ∀ j e,j < ops.size → (deps ops j).contains e = true → b j = true → b e = true) (hde : ∀ e ∈ deps ops n,b e = true) : ∀ (es seen : List Nat),(∀ j ∈ seen,b j = true) → chU ops n seen es = true → allB b true es
 | [],_,_,_=>trivial
 | e :: es, seen, hs, h => by
   simp only [chU,Bool.and_eq_true,Bool.or_eq_true,List.any_eq_true,decide_eq_true_eq] at h
   have he : b e = true:=by
    rcases h.1 with h1 | ⟨j,hj,h1,h2⟩
    · exact hde e (by simpa using h1)
    · exact hdn j e h1 h2 (hs j hj)
   refine ⟨he,upT0 hdn hde es (e :: seen) (fun j hj=>?_) h.2⟩
   rcases List.mem_cons.1 hj with rfl | hj
   · exact he
   · exact hs j hj
theorem upT {ops : Array Oper} {b : Nat → Bool} {n : Nat} (hdn : ∀ j e,j < ops.size → (deps ops j).contains e = true → b j = true → b e = true) (hde : ∀ e ∈ deps ops n,b e = true) (es : List Nat) (h : chU ops n [] es = true) : allB b true es:=upT0 hdn hde es [] (by simp) h
theorem dnT0 {ops : Array Oper} {b : Nat → Bool} {n : Nat} (hdn : ∀ j e,j < ops.size → (deps ops j).contains e = true → b j = true → b e = true) (hbk : b n = false) : ∀ (es seen : List Nat),(∀ j ∈ seen,b j = false) → chD ops n seen es = true → allB b false es
 | [],_,_,_=>trivial
 | e :: es, seen, hs, h => by
   simp only [chD,Bool.and_eq_true,Bool.or_eq_true,List.any_eq_true,decide_eq_true_eq] at h
   have he : b e = false:=by
    cases hb : b e
    · rfl
    · rcases h.1.2 with h1 | ⟨j,hj,h2⟩
      · rw [hdn e n h.1.1 h1 hb] at hbk; cases hbk
      · have:=hs j hj
        rw [hdn e j h.1.1 h2 hb] at this; cases this
   refine ⟨he,dnT0 hdn hbk es (e :: seen) (fun j hj=>?_) h.2⟩
   rcases List.mem_cons.1 hj with rfl | hj
   · exact he
   · exact hs j hj
theorem dnT {ops : Array Oper} {b : Nat → Bool} {n : Nat} (hdn : ∀ j e,j < ops.size → (deps ops j).contains e = true → b j = true → b e = true) (hbk : b n = false) (es : List Nat) (h : chD ops n [] es = true) : allB b false es:=dnT0 hdn hbk es [] (by simp) h
end Go.Oc

namespace Go.Proofs.Ytlljkgiomkmjbaa.Du
open Go Go.Oc
set_option linter.unusedSimpArgs false
set_option linter.unusedVariables false
set_option maxRecDepth 8000
set_option maxHeartbeats 4000000
abbrev mkL (bs : List Int) (g : Int) (cs : List (List Int)) : List (Nat × RowC):=[(1000,.box [.os 1001 0 1 0 bs.length,.r (i64 g),.os 1002 0 1 0 cs.length]),(1001,.arr 162 1 (arrN bs)),(1002,.arr 41 1 (cs.map fun r=>[ints r]))]
theorem last1_ok (bs : List Int) (g : Int) (cs : List (List Int)) (l : List Int) (hl : cs[cs.length - 1]? = some l) (h1 : 1 ≤ cs.length ∧ cs.length ≤ 100) :
 MCalls Try.prog 105 (mkL bs g cs) (mkL bs g cs) [.pt 1000 0 0] (.r (ints l)):=by
 have w1 : IntKind.i64.wrap ((cs.length : Int) - 1) = (cs.length : Int) - 1:=by rw [zI] <;> omega
 have hx : cs[((cs.length : Int) - 1).toNat]? = some l:=by rw [show ((cs.length : Int) - 1).toNat = cs.length - 1 by omega]; exact hl
 refine mcalls_st (n:=15) (rs:=[.r (ints l)]) _ _ [.tmp 2] Try.func105 rfl (by kernel_rfl) Try.ntmps105 rfl (by simp) rfl rfl fun C=>?_
 repeat refine zq ?_
 refine zb fun K hK=>?_;simp only [go_sem];(try simp (disch:=omega) only [zI]);repeat first | intro _ | refine ⟨by omega,?_⟩
 refine hK _ ?_;clear hK K;refine zw (zk [0]) ?_;simp only [go_sem]
 repeat refine zq ?_
 refine awp_dreg3 [(0,some 1000)] [1000] follows (by decide +kernel) (by kernel_rfl) (by simp only [keysOk,List.mem_cons,List.not_mem_nil,forall_eq_or_imp,Oc.keyOf,go_sem]; simp) (by intro k hk; simp only [List.mem_cons,List.not_mem_nil,or_false] at hk; first | (subst hk; exact ⟨_,rfl⟩) | (rcases hk with rfl | rfl <;> exact ⟨_,rfl⟩) | (rcases hk with rfl | rfl | rfl <;> exact ⟨_,rfl⟩)) fun K hK=>?_
 simp only [go_sem,w1,hx,List.length_map];(try simp (disch:=omega) only [zI]);repeat first | intro _ | refine ⟨by omega,?_⟩
 repeat first | intro _ | refine ⟨by omega,?_⟩
 refine hK _ ?_;clear hK K;refine zw (zk [2]) ?_;simp only [go_sem];refine ze ?_;simp only [go_sem]
def wonO (m : Nat) : List Int:=1 :: List.replicate m 0
def rowN (g : Int) (bs : List Int) (m : Nat) : Nat → List Int
 | 0=>wonO m
 | k + 1=>rowO g bs (rowN g bs m k)
def cntO (g : Int) (bs : List Int) (m k : Nat) : List (List Int):=(List.range (k + 1)).map (rowN g bs m)
theorem rowN_len (g : Int) (bs : List Int) (m : Nat) : ∀ k,(rowN g bs m k).length = m + 1
 | 0=>by simp [rowN,wonO]
 | k + 1=>by simp [rowN,rowO,rowN_len g bs m k]
theorem cnt_len (g : Int) (bs : List Int) (m k : Nat) : (cntO g bs m k).length = k + 1:=by simp [cntO]
theorem cnt_snoc (g : Int) (bs : List Int) (m k : Nat) : cntO g bs m (k + 1) = cntO g bs m k ++ [rowN g bs m (k + 1)]:=by
 unfold cntO
 rw [List.range_succ,List.map_append]; rfl
theorem cnt_last (g : Int) (bs : List Int) (m k : Nat) : (cntO g bs m k)[(cntO g bs m k).length - 1]? = some (rowN g bs m k):=by
 rw [cnt_len]
 simp [cntO]
theorem rowN_le (g : Int) (bs : List Int) (hl : bs.length ≤ 82) (m : Nat) : ∀ k,∀ x ∈ rowN g bs m k,0 ≤ x ∧ x ≤ (82 ^ k : Nat)
 | 0, x, hx => by
   unfold rowN wonO at hx
   rw [List.mem_cons] at hx
   rcases hx with rfl | hx
   · simp
   · rw [List.eq_of_mem_replicate hx]; simp
 | k + 1, x, hx => by
   unfold rowN rowO at hx
   obtain ⟨s,_,rfl⟩:=List.mem_map.1 hx
   have h:=sumT_le (M:=((82 ^ k : Nat) : Int)) (rowN_le g bs hl m k) (Int.natCast_nonneg _) (throwsO g s bs)
   have hlen:=throws_len bs g s
   rw [Nat.pow_succ]
   generalize 82 ^ k = P at *
   have h2 : (P : Int) * ((throwsO g s bs).length : Int) ≤ (P : Int) * 82:=Int.mul_le_mul_of_nonneg_left (by omega) (by omega)
   refine ⟨h.1,?_⟩
   push_cast
   omega
theorem rowN_le6 (g : Int) (bs : List Int) (hl : bs.length ≤ 82) (m : Nat) {k : Nat} (hk : k ≤ 6) : ∀ x ∈ rowN g bs m k,0 ≤ x ∧ x ≤ 1000000000000:=fun x hx=>by
 have h:=rowN_le g bs hl m k x hx
 have h2 : 82 ^ k ≤ 82 ^ 6:=Nat.pow_le_pow_right (by omega) hk
 have h3 : (82 : Nat) ^ 6 = 304006671424:=by decide
 omega
def vY (b : Nat → Bool) (j : Nat) (v : AV) : AV:=if b j then v else .r .un
def mkF (dn k : Nat) (la nw : List Int) (b : Nat → Bool) (vs : Nat → Nat) : List (Nat × AV) :=
 [(9,.pt 15 (vs 15) 0),(49,.r (i64 (dn : Int))),(50,.r (i64 (k : Int))),
  (52,vY b 0 (.pt 15 (vs 15) 0)),
  (53,vY b 1 (.pt 15 (vs 15) 0)),
  (54,vY b 2 (.pt 15 (vs 15) 0)),
  (55,vY b 3 (.pt 15 (vs 15) 2)),
  (56,vY b 4 (bif b 10 then .r .un else .os 316 (vs 316) 1 0 (k + 1))),
  (57,vY b 5 (.pt 15 (vs 15) 0)),
  (58,vY b 6 (.pt 15 (vs 15) 0)),
  (59,vY b 7 (.r (ints la))),
  (60,vY b 8 (.r (ints nw))),
  (61,vY b 9 (.r (.sl 1 [[ints nw]]))),
  (62,vY b 10 (.os 316 (vs 316) 1 0 (k + 1 + 1))),
  (63,vY b 11 (.pt 15 (vs 15) 0)),
  (64,vY b 12 (.pt 15 (vs 15) 2))]
def mkR (bs : List Int) (g : Int) (k : Nat) (cs : List (List Int)) (nw : List Int) (b : Nat → Bool) (vs : Nat → Nat) : List (Nat × RowC) :=
 [(15,.box [.os 315 (vs 315) 1 0 bs.length,.r (i64 g),bif b 13 then .os 316 (vs 316) 1 0 (k + 1 + 1) else (bif b 10 then .os 316 (vs 316 - 1) 1 0 (k + 1) else .os 316 (vs 316) 1 0 (k + 1))]),(315,.arr 162 1 (arrN bs)),(316,.arr 41 1 (bif b 10 then (cs.map fun r=>[ints r]) ++ [[ints nw]] else cs.map fun r=>[ints r]))]
theorem fitV_subY {n : Nat} {F : (Nat → Nat) → List (Nat × AV)} {R : (Nat → Nat) → List (Nat × RowC)} {s s' : AS} (h : Sub s s') (hf : FitV n F R s') : FitV n F R s:=by
 obtain ⟨vs,hs⟩:=hf
 exact ⟨vs,fun C a w hw=>hs C a w (h C a w hw)⟩
theorem board_ok (bs : List Int) (g : Int) (dn m : Nat) (hb : ∀ b ∈ bs,bedOk b = true ∧ 0 ≤ b ∧ b ≤ 499) (hbl : bs.length ≤ 82) (hd : dn ≤ 6) (hm : m ≤ 1000) :
 ACalls Try.prog 56 [ints bs,i64 g,i64 (dn : Int),i64 (m : Int)] (brdP bs g (cntO g bs m dn)):=by
 have wm : IntKind.i64.wrap ((m : Int) + 1) = (m : Int) + 1:=by rw [zI] <;> omega
 refine acalls_st (rs:=[brdP bs g (cntO g bs m dn)]) [.tmp 8] Try.func56 rfl (by kernel_rfl) Try.ntmps56 rfl (by simp) rfl fun C vs=>?_
 repeat refine zq ?_
 refine zb fun K hK=>?_;simp only [go_sem];(try simp (disch:=omega) only [zI]);repeat first | intro _ | refine ⟨by omega,?_⟩
 refine hK _ ?_;clear hK K;refine zw (zk [0,1,2,3]) ?_;simp only [go_sem]
 repeat refine zq ?_
 refine zb fun K hK=>?_;simp only [go_sem];(try simp (disch:=omega) only [zI]);repeat first | intro _ | refine ⟨by omega,?_⟩
 refine hK _ ?_;clear hK K;refine zw (sub_ownB 15 0 315 162 1 (by omega) (by omega) rfl (by simp only [go_sem,List.getElem?_cons_succ,List.getElem?_cons_zero])) ?_;refine zw (sub_ownB 15 2 316 41 1 (by omega) (by omega) rfl (by simp only [go_sem,List.getElem?_cons_succ,List.getElem?_cons_zero,List.set_cons_zero])) ?_;refine zw (zk [0,2,3,9]) ?_;simp only [go_sem]
 repeat refine zq ?_
 refine zb fun K hK=>?_;simp only [go_sem,List.length_map];(try simp (disch:=omega) only [zI]);repeat first | intro _ | refine ⟨by omega,?_⟩
 refine hK _ ?_;clear hK K;refine zw (zk [2,3,9,16,17,18]) ?_;simp only [go_sem]
 repeat refine zq ?_
 refine zd ?_
 refine awp_uptoV (n:=67) bs.length (fun i vs=>[(2,.r (i64 (dn : Int))),(3,.r (i64 (m : Int))),(9,.pt 15 (vs 15) 0),(16,.r (ints bs)),(17,.r (i64 (bs.length : Int))),(18,.r (i64 (i : Int)))])
  (fun i vs=>[(15,.box [.os 315 (vs 315) 1 0 i,.r (i64 g),.os 316 (vs 316) 1 0 0]),(315,.arr 162 1 (arrN (bs.take i))),(316,.arr 41 1 [])]) (fun _=>True) 0 (zj [] ?_ ?_) (Nat.zero_le _) trivial ?_
 · try simp only [go_sem]
   try rfl
 · try simp only [go_sem]
   try rfl
 · intro i vs hi _
   by_cases hin : i < bs.length
   · obtain ⟨x,hx⟩:=opt_of_lt hin
     have hlt : (bs.take i).length = i:=by rw [List.length_take]; omega
     rw [take_of_opt hx]
     repeat refine zq ?_
     refine zb fun K hK=>?_;simp only [go_sem,hin];(try simp (disch:=omega) only [zI]);repeat first | intro _ | refine ⟨by omega,?_⟩
     refine hK _ ?_;clear hK K;refine zw (zk [2,3,9,16,17,18,19]) ?_;simp only [go_sem]
     repeat refine zq ?_
     refine zc rfl (fun hc=>?_) (fun hc=>?_) <;> (try simp only [go_sem] at hc)
     refine zx ?_
     try simp only [go_sem]
     repeat refine zq ?_
     refine zd ?_
     repeat refine zq ?_
     refine zb fun K hK=>?_;simp only [go_sem,hx,hin,List.length_map];(try simp (disch:=omega) only [zI]);repeat first | intro _ | refine ⟨by omega,?_⟩
     refine hK _ ?_;clear hK K;refine zw (zk [2,3,9,11,16,17,18]) ?_;simp only [go_sem]
     repeat refine zq ?_
     refine zb fun K hK=>?_;simp only [go_sem,hlt,List.length_map];(try simp (disch:=omega) only [zI]);repeat first | intro _ | refine ⟨by omega,?_⟩
     refine hK _ ?_;clear hK K;refine zw (zk [2,3,9,16,17,18]) ?_;simp only [go_sem]
     repeat refine zq ?_
     refine zb fun K hK=>?_;simp only [go_sem];(try simp (disch:=omega) only [zI]);repeat first | intro _ | refine ⟨by omega,?_⟩
     refine hK _ ?_;clear hK K
     try simp only [go_sem]
     refine ⟨by omega,zj [] ?_ ?_⟩
     · try simp only [go_sem]
     · try simp only [go_sem]
       try simp
   · have hie : i = bs.length:=by omega
     subst hie
     repeat refine zq ?_
     refine zb fun K hK=>?_;simp only [go_sem,Nat.lt_irrefl];(try simp (disch:=omega) only [zI]);repeat first | intro _ | refine ⟨by omega,?_⟩
     refine hK _ ?_;clear hK K;refine zw (zk [2,3,9,19]) ?_;simp only [go_sem]
     repeat refine zq ?_
     refine zc rfl (fun hc=>?_) (fun hc=>?_) <;> (try simp only [go_sem] at hc)
     refine zf ?_;simp only [go_sem];rw [List.take_length]
     repeat refine zq ?_
     refine zb fun K hK=>?_;simp only [go_sem,wm];(try simp (disch:=omega) only [zI]);repeat first | intro _ | refine ⟨by omega,?_⟩
     repeat first | intro _ | refine ⟨by omega,?_⟩
     refine hK _ ?_;clear hK K;refine zw (zk [2,9,12]) ?_;simp only [go_sem]
     repeat refine zq ?_
     refine zb fun K hK=>?_;simp only [go_sem,List.length_replicate];(try simp (disch:=omega) only [zI]);repeat first | intro _ | refine ⟨by omega,?_⟩
     repeat first | intro _ | refine ⟨by omega,?_⟩
     refine hK _ ?_;clear hK K
     have hwon : [RV.it IntKind.i64 1] :: List.replicate m [RV.it IntKind.i64 0] = arrN (wonO m):=by simp [wonO]
     refine zw (sub_frz (ty:=3) (sz:=1) (off:=0) (m:=m + 1) (es:=arrN (wonO m)) 12 36 (by omega) rfl (by simp only [go_sem]; rw [hwon]) (by simp [wonO])) ?_
     have tk1 : List.take (m + 1) (arrN (wonO m)) = arrN (wonO m):=List.take_of_length_le (by simp [wonO])
     simp only [go_sem,List.drop_zero,tk1];refine zw (zk [2,9,12]) ?_;simp only [go_sem]
     repeat refine zq ?_
     refine zb fun K hK=>?_;simp only [go_sem];(try simp (disch:=omega) only [zI]);repeat first | intro _ | refine ⟨by omega,?_⟩
     refine hK _ ?_;clear hK K;refine zw (zk [2,9]) ?_;simp only [go_sem]
     repeat refine zq ?_
     refine zb fun K hK=>?_;simp only [go_sem];(try simp (disch:=omega) only [zI]);repeat first | intro _ | refine ⟨by omega,?_⟩
     refine hK _ ?_;clear hK K;refine zw (zk [9,49,50]) ?_;simp only [go_sem]
     repeat refine zq ?_
     refine zd ?_
     refine awp_uptoV (n:=67) dn (fun k vs=>[(9,.pt 15 (vs 15) 0),(49,.r (i64 (dn : Int))),(50,.r (i64 (k : Int)))])
      (fun k vs=>[(15,.box [.os 315 (vs 315) 1 0 bs.length,.r (i64 g),.os 316 (vs 316) 1 0 (k + 1)]),(315,.arr 162 1 (arrN bs)),(316,.arr 41 1 ((cntO g bs m k).map fun r=>[ints r]))]) (fun _=>True) 0 (zj [] ?_ ?_) (Nat.zero_le _) trivial ?_
     · try simp only [go_sem]
       try rfl
     · try simp only [go_sem]
       try rfl
     · intro k vs hk _
       by_cases hkn : k < dn
       · have hcl:=cnt_len g bs m k
         have hcla:=cnt_last g bs m k
         have hll:=rowN_len g bs m k
         have hnl : (rowN g bs m (k + 1)).length = m + 1:=rowN_len g bs m (k + 1)
         have hla:=last1_ok bs g (cntO g bs m k) (rowN g bs m k) hcla (by omega)
         have hro:=row_ok bs g (cntO g bs m k) (rowN g bs m k) hb (by omega) hbl (rowN_le6 g bs hbl m (by omega))
         have hnx : rowO g bs (rowN g bs m k) = rowN g bs m (k + 1):=rfl
         rw [hnx] at hro
         rw [cnt_snoc]
         generalize hcs : cntO g bs m k = cs at *
         generalize rowN g bs m k = la at *
         generalize rowN g bs m (k + 1) = nw at *
         simp only [mkL,hcl] at hla
         have htc : List.take (k + 1) (cs.map fun r=>[ints r]) = cs.map fun r=>[ints r]:=List.take_of_length_le (by simp [hcl])
         have htk : List.take (m + 1) (arrN nw) = arrN nw:=List.take_of_length_le (by simp [hnl])
         repeat refine zq ?_
         refine zb fun K hK=>?_;simp only [go_sem,hkn];(try simp (disch:=omega) only [zI]);repeat first | intro _ | refine ⟨by omega,?_⟩
         refine hK _ ?_;clear hK K;refine zw (zk [9,49,50,51]) ?_;simp only [go_sem]
         repeat refine zq ?_
         refine zc rfl (fun hc=>?_) (fun hc=>?_) <;> (try simp only [go_sem] at hc)
         refine zx ?_
         try simp only [go_sem]
         repeat refine zq ?_
         refine zd ?_
         refine awp_inv (n:=67) (mkF dn k la nw) (mkR bs g k cs nw) follows (by kernel_rfl) (by kernel_rfl) (by decide +kernel) (zj [] ?_ ?_) ?_ ?_
         · simp only [go_sem,mkF,vY,if_true,if_false,Bool.false_eq_true,cond_false]
         · simp only [go_sem,mkR,cond_false,List.cons_append,List.nil_append]
         · refine ⟨fun b vs hdn hbk hde=>?_,fun b vs hdn hbk hde=>?_,fun b vs hdn hbk hde=>?_,fun b vs hdn hbk hde=>?_,fun b vs hdn hbk hde=>?_,fun b vs hdn hbk hde=>?_,fun b vs hdn hbk hde=>?_,fun b vs hdn hbk hde=>?_,fun b vs hdn hbk hde=>?_,fun b vs hdn hbk hde=>?_,fun b vs hdn hbk hde=>?_,fun b vs hdn hbk hde=>?_,fun b vs hdn hbk hde=>?_,fun b vs hdn hbk hde=>?_,trivial⟩
           · skip
             have G:=dnT hdn hbk [11,12,13] (by decide +kernel)
             simp only [allB,and_true] at G
             cases g4 : b 4 <;> cases g8 : b 8 <;> cases g10 : b 10
             all_goals (simp only [go_sem,mkF,mkR,upd,vY,cond_true,cond_false,if_true,Bool.false_eq_true,if_false,hbk,G,g4,g8,g10,hcl,hnl,hll,htc,List.length_map,Nat.add_sub_cancel,List.length_append,List.length_cons,List.length_nil,Nat.zero_add])
             all_goals (refine zj [] ?_ ?_ <;> (simp only [go_sem,mkF,mkR,upd,vY,cond_true,cond_false,if_true,Bool.false_eq_true,if_false,hbk,G,g4,g8,g10,hcl,hnl,hll,htc,List.length_map,Nat.add_sub_cancel,List.length_append,List.length_cons,List.length_nil,Nat.zero_add]))
           · skip
             have G:=dnT hdn hbk [2,11,12,13,3,4,10] (by decide +kernel)
             simp only [allB,and_true] at G
             cases g8 : b 8
             all_goals (simp only [go_sem,mkF,mkR,upd,vY,cond_true,cond_false,if_true,Bool.false_eq_true,if_false,hbk,G,g8,hcl,hnl,hll,htc,List.length_map,Nat.add_sub_cancel,List.length_append,List.length_cons,List.length_nil,Nat.zero_add])
             all_goals (refine zj [] ?_ ?_ <;> (simp only [go_sem,mkF,mkR,upd,vY,cond_true,cond_false,if_true,Bool.false_eq_true,if_false,hbk,G,g8,hcl,hnl,hll,htc,List.length_map,Nat.add_sub_cancel,List.length_append,List.length_cons,List.length_nil,Nat.zero_add]))
           · skip
             have H:=upT hdn hde [1] (by decide +kernel)
             have G:=dnT hdn hbk [3,11,12,13,4,10] (by decide +kernel)
             simp only [allB,and_true] at H G
             cases g8 : b 8
             all_goals (simp only [go_sem,mkF,mkR,upd,vY,cond_true,cond_false,if_true,Bool.false_eq_true,if_false,hbk,H,G,g8,hcl,hnl,hll,htc,List.length_map,Nat.add_sub_cancel,List.length_append,List.length_cons,List.length_nil,Nat.zero_add])
             all_goals (refine zj [] ?_ ?_ <;> (simp only [go_sem,mkF,mkR,upd,vY,cond_true,cond_false,if_true,Bool.false_eq_true,if_false,hbk,H,G,g8,hcl,hnl,hll,htc,List.length_map,Nat.add_sub_cancel,List.length_append,List.length_cons,List.length_nil,Nat.zero_add]))
           · skip
             have H:=upT hdn hde [2,1] (by decide +kernel)
             have G:=dnT hdn hbk [4,11,12,13,10] (by decide +kernel)
             simp only [allB,and_true] at H G
             cases g8 : b 8
             all_goals (simp only [go_sem,mkF,mkR,upd,vY,cond_true,cond_false,if_true,Bool.false_eq_true,if_false,hbk,H,G,g8,hcl,hnl,hll,htc,List.length_map,Nat.add_sub_cancel,List.length_append,List.length_cons,List.length_nil,Nat.zero_add])
             all_goals (refine zj [] ?_ ?_ <;> (simp only [go_sem,mkF,mkR,upd,vY,cond_true,cond_false,if_true,Bool.false_eq_true,if_false,hbk,H,G,g8,hcl,hnl,hll,htc,List.length_map,Nat.add_sub_cancel,List.length_append,List.length_cons,List.length_nil,Nat.zero_add]))
           · skip
             have H:=upT hdn hde [3,2,1] (by decide +kernel)
             have G:=dnT hdn hbk [10,11,12,13] (by decide +kernel)
             simp only [allB,and_true] at H G
             cases g8 : b 8
             all_goals (simp only [go_sem,mkF,mkR,upd,vY,cond_true,cond_false,if_true,Bool.false_eq_true,if_false,hbk,H,G,g8,hcl,hnl,hll,htc,List.length_map,Nat.add_sub_cancel,List.length_append,List.length_cons,List.length_nil,Nat.zero_add])
             all_goals (refine zj [] ?_ ?_ <;> (simp only [go_sem,mkF,mkR,upd,vY,cond_true,cond_false,if_true,Bool.false_eq_true,if_false,hbk,H,G,g8,hcl,hnl,hll,htc,List.length_map,Nat.add_sub_cancel,List.length_append,List.length_cons,List.length_nil,Nat.zero_add]))
           · skip
             have G:=dnT hdn hbk [8,11,12,13,9,10] (by decide +kernel)
             simp only [allB,and_true] at G
             cases g4 : b 4
             all_goals (simp only [go_sem,mkF,mkR,upd,vY,cond_true,cond_false,if_true,Bool.false_eq_true,if_false,hbk,G,g4,hcl,hnl,hll,htc,List.length_map,Nat.add_sub_cancel,List.length_append,List.length_cons,List.length_nil,Nat.zero_add])
             all_goals (refine zj [] ?_ ?_ <;> (simp only [go_sem,mkF,mkR,upd,vY,cond_true,cond_false,if_true,Bool.false_eq_true,if_false,hbk,G,g4,hcl,hnl,hll,htc,List.length_map,Nat.add_sub_cancel,List.length_append,List.length_cons,List.length_nil,Nat.zero_add]))
           · skip
             have G:=dnT hdn hbk [7,11,12,13,8,9,10] (by decide +kernel)
             simp only [allB,and_true] at G
             cases g4 : b 4
             all_goals (simp only [go_sem,mkF,mkR,upd,vY,cond_true,cond_false,if_true,Bool.false_eq_true,if_false,hbk,G,g4,hcl,hnl,hll,htc,List.length_map,Nat.add_sub_cancel,List.length_append,List.length_cons,List.length_nil,Nat.zero_add])
             all_goals (refine zj [] ?_ ?_ <;> (simp only [go_sem,mkF,mkR,upd,vY,cond_true,cond_false,if_true,Bool.false_eq_true,if_false,hbk,G,g4,hcl,hnl,hll,htc,List.length_map,Nat.add_sub_cancel,List.length_append,List.length_cons,List.length_nil,Nat.zero_add]))
           · skip
             have H:=upT hdn hde [6] (by decide +kernel)
             have G:=dnT hdn hbk [8,11,12,13,9,10] (by decide +kernel)
             simp only [allB,and_true] at H G
             cases g4 : b 4
             all_goals (simp only [go_sem,mkF,mkR,upd,vY,cond_true,cond_false,if_true,Bool.false_eq_true,if_false,hbk,H,G,g4,hcl,hnl,hll,htc,List.length_map,Nat.add_sub_cancel,List.length_append,List.length_cons,List.length_nil,Nat.zero_add])
             all_goals (refine xcall_mut hla [(1000,15),(1001,315),(1002,316)] rfl (by simp only [go_sem,i64,ints]) (by simp only [go_sem,i64,ints,hcl,List.length_map]; try simp) (by rfl) (by rfl) ?_)
             all_goals (simp only [go_sem,mkF,mkR,vY,cond_true,cond_false,if_true,Bool.false_eq_true,if_false,hbk,H,G,hcl,hnl,hll,htc,List.length_map,Nat.add_sub_cancel,List.length_append,List.length_cons,List.length_nil,Nat.zero_add])
             all_goals (refine zj [] ?_ ?_ <;> (simp only [go_sem,mkF,mkR,upd,vY,cond_true,cond_false,if_true,Bool.false_eq_true,if_false,hbk,H,G,g4,hcl,hnl,hll,htc,List.length_map,Nat.add_sub_cancel,List.length_append,List.length_cons,List.length_nil,Nat.zero_add]))
           · skip
             have H:=upT hdn hde [5,7,7,6] (by decide +kernel)
             have G:=dnT hdn hbk [9,10,11,12,13] (by decide +kernel)
             simp only [allB,and_true] at H G
             cases g4 : b 4
             all_goals (simp only [go_sem,mkF,mkR,upd,vY,cond_true,cond_false,if_true,Bool.false_eq_true,if_false,hbk,H,G,g4,hcl,hnl,hll,htc,List.length_map,Nat.add_sub_cancel,List.length_append,List.length_cons,List.length_nil,Nat.zero_add])
             all_goals (refine xcall_own hro rfl (by simp only [go_sem,i64,ints,hcl,hnl,hll,htc,List.length_map,Nat.add_sub_cancel,List.length_append,List.length_cons,List.length_nil,Nat.zero_add]) (by simp only [go_sem,i64,ints,brdP,brdC,tabR,hcl,hnl,hll,htc,List.length_map,Nat.add_sub_cancel,List.length_append,List.length_cons,List.length_nil,Nat.zero_add]) (by decide) (by intro h; first | (cases h; done) | rfl) ?_)
             all_goals simp only [go_sem,mkF,mkR,vY,cond_true,cond_false,if_true,Bool.false_eq_true,if_false,hbk,H,G,hcl,hnl,hll,htc,List.length_map,Nat.add_sub_cancel,List.length_append,List.length_cons,List.length_nil,Nat.zero_add]
             all_goals refine fitV_subY (sub_frz (ty:=3) (sz:=1) (off:=0) (m:=m + 1) (es:=arrN nw) 60 60 (by omega) rfl (by rfl) (by simp [hnl,hll])) ?_
             all_goals simp only [go_sem,List.drop_zero,htk]
             all_goals (refine zj [] ?_ ?_ <;> (simp only [go_sem,mkF,mkR,upd,vY,cond_true,cond_false,if_true,Bool.false_eq_true,if_false,hbk,H,G,g4,hcl,hnl,hll,htc,List.length_map,Nat.add_sub_cancel,List.length_append,List.length_cons,List.length_nil,Nat.zero_add]))
           · skip
             have H:=upT hdn hde [8,5,7,6] (by decide +kernel)
             have G:=dnT hdn hbk [10,11,12,13] (by decide +kernel)
             simp only [allB,and_true] at H G
             cases g4 : b 4
             all_goals (simp only [go_sem,mkF,mkR,upd,vY,cond_true,cond_false,if_true,Bool.false_eq_true,if_false,hbk,H,G,g4,hcl,hnl,hll,htc,List.length_map,Nat.add_sub_cancel,List.length_append,List.length_cons,List.length_nil,Nat.zero_add])
             all_goals (refine zj [] ?_ ?_ <;> (simp only [go_sem,mkF,mkR,upd,vY,cond_true,cond_false,if_true,Bool.false_eq_true,if_false,hbk,H,G,g4,hcl,hnl,hll,htc,List.length_map,Nat.add_sub_cancel,List.length_append,List.length_cons,List.length_nil,Nat.zero_add]))
           · skip
             have H:=upT hdn hde [4,8,9,3,5,7,2,6,1] (by decide +kernel)
             have G:=dnT hdn hbk [11,12,13] (by decide +kernel)
             simp only [allB,and_true] at H G
             (simp only [go_sem,mkF,mkR,upd,vY,cond_true,cond_false,if_true,Bool.false_eq_true,if_false,hbk,H,G,hcl,hnl,hll,htc,List.length_map,Nat.add_sub_cancel,List.length_append,List.length_cons,List.length_nil,Nat.zero_add])
             all_goals (try refine ⟨⟨by omega,by omega⟩,?_⟩)
             all_goals refine fitV_subY (zk [9,49,50,52,53,54,55,57,58,59,60,61,62,63,64]) ?_
             all_goals simp only [go_sem]
             all_goals (refine zj [] ?_ ?_ <;> (simp only [go_sem,mkF,mkR,upd,vY,cond_true,cond_false,if_true,Bool.false_eq_true,if_false,hbk,H,G,hcl,hnl,hll,htc,List.length_map,Nat.add_sub_cancel,List.length_append,List.length_cons,List.length_nil,Nat.zero_add]))
           · skip
             have H:=upT hdn hde [0,0,1,2,3,4,5,6,7,8,9,10] (by decide +kernel)
             have G:=dnT hdn hbk [12,13] (by decide +kernel)
             simp only [allB,and_true] at H G
             (simp only [go_sem,mkF,mkR,upd,vY,cond_true,cond_false,if_true,Bool.false_eq_true,if_false,hbk,H,G,hcl,hnl,hll,htc,List.length_map,Nat.add_sub_cancel,List.length_append,List.length_cons,List.length_nil,Nat.zero_add])
             all_goals (refine zj [] ?_ ?_ <;> (simp only [go_sem,mkF,mkR,upd,vY,cond_true,cond_false,if_true,Bool.false_eq_true,if_false,hbk,H,G,hcl,hnl,hll,htc,List.length_map,Nat.add_sub_cancel,List.length_append,List.length_cons,List.length_nil,Nat.zero_add]))
           · skip
             have H:=upT hdn hde [0,1,2,3,4,5,6,7,8,9,10,11] (by decide +kernel)
             have G:=dnT hdn hbk [13] (by decide +kernel)
             simp only [allB,and_true] at H G
             (simp only [go_sem,mkF,mkR,upd,vY,cond_true,cond_false,if_true,Bool.false_eq_true,if_false,hbk,H,G,hcl,hnl,hll,htc,List.length_map,Nat.add_sub_cancel,List.length_append,List.length_cons,List.length_nil,Nat.zero_add])
             all_goals (refine zj [] ?_ ?_ <;> (simp only [go_sem,mkF,mkR,upd,vY,cond_true,cond_false,if_true,Bool.false_eq_true,if_false,hbk,H,G,hcl,hnl,hll,htc,List.length_map,Nat.add_sub_cancel,List.length_append,List.length_cons,List.length_nil,Nat.zero_add]))
           · skip
             have H:=upT hdn hde [0,1,2,3,4,5,6,7,8,9,10,10,10,12,11] (by decide +kernel)
             simp only [allB,and_true] at H
             (simp only [go_sem,mkF,mkR,upd,vY,cond_true,cond_false,if_true,Bool.false_eq_true,if_false,hbk,H,hcl,hnl,hll,htc,List.length_map,Nat.add_sub_cancel,List.length_append,List.length_cons,List.length_nil,Nat.zero_add])
             all_goals (refine zj [] ?_ ?_ <;> (simp only [go_sem,mkF,mkR,upd,vY,cond_true,cond_false,if_true,Bool.false_eq_true,if_false,hbk,H,hcl,hnl,hll,htc,List.length_map,Nat.add_sub_cancel,List.length_append,List.length_cons,List.length_nil,Nat.zero_add]))
         intro b vs hb
         simp only [go_sem,mkF,mkR,vY,hb,if_true,cond_true,List.cons_append,List.nil_append];refine zw (zk [9,49,50]) ?_;simp only [go_sem]
         repeat refine zq ?_
         refine zb fun K hK=>?_;simp only [go_sem];(try simp (disch:=omega) only [zI]);repeat first | intro _ | refine ⟨by omega,?_⟩
         refine hK _ ?_;clear hK K
         try simp only [go_sem]
         refine ⟨by omega,zj [] ?_ ?_⟩
         · try simp only [go_sem]
         · try simp only [go_sem]
           try simp
       · have hke : k = dn:=by omega
         subst hke
         have hcl:=cnt_len g bs m k
         generalize hcs : cntO g bs m k = cs at *
         repeat refine zq ?_
         refine zb fun K hK=>?_;simp only [go_sem,Nat.lt_irrefl];(try simp (disch:=omega) only [zI]);repeat first | intro _ | refine ⟨by omega,?_⟩
         refine hK _ ?_;clear hK K;refine zw (zk [9,51]) ?_;simp only [go_sem]
         repeat refine zq ?_
         refine zc rfl (fun hc=>?_) (fun hc=>?_) <;> (try simp only [go_sem] at hc)
         refine zf ?_;simp only [go_sem];refine zw (sub_frzB 15 0 315 (ty:=162) (sz:=1) (off:=0) (m:=bs.length) (es:=arrN bs) (by omega) (by omega) rfl (by simp only [go_sem,List.getElem?_cons_succ,List.getElem?_cons_zero]) (by rfl) (by simp)) ?_
         have tk1 : List.take bs.length (arrN bs) = arrN bs:=List.take_of_length_le (by simp)
         simp only [go_sem,List.drop_zero,tk1,List.set_cons_succ,List.set_cons_zero];refine zw (sub_frzB 15 2 316 (ty:=41) (sz:=1) (off:=0) (m:=k + 1) (es:=cs.map fun r=>[ints r]) (by omega) (by omega) rfl (by simp only [go_sem,List.getElem?_cons_succ,List.getElem?_cons_zero]) (by rfl) (by simp [hcl])) ?_
         have tk2 : List.take (k + 1) (cs.map fun r=>[ints r]) = cs.map fun r=>[ints r]:=List.take_of_length_le (by simp [hcl])
         simp only [go_sem,List.drop_zero,tk2,List.set_cons_succ,List.set_cons_zero];refine zw (sub_frzP 9 15 (brdC bs g cs) (by omega) rfl rfl) ?_;refine zw (zk [9]) ?_;simp only [go_sem]
         repeat refine zq ?_
         refine zb fun K hK=>?_;simp only [go_sem];(try simp (disch:=omega) only [zI]);repeat first | intro _ | refine ⟨by omega,?_⟩
         refine hK _ ?_;clear hK K;refine zw (zk [8]) ?_;simp only [go_sem];refine ze ?_;simp only [go_sem];exact rv_le _
end Go.Proofs.Ytlljkgiomkmjbaa.Du
