/- Part 7 of the texts of this claim. -/
import Derived.Test.YtlljkgiomkmjbaaVC6
import Derived.Test.YtlljkgiomkmjbaaVC5
namespace Go.Proofs.Ytlljkgiomkmjbaa.Du
open Go Go.Oc
set_option linter.unusedSimpArgs false
set_option linter.unusedVariables false
set_option maxRecDepth 8000
def nextV (r : Ru) (most : Bool) (T : List (List Int)) (k st : Nat) (val : Nat → Int) (last : Bool) (left : Nat) (b : Int) : Int :=
 if decide (0 < scoreOf b) && (decide ((left : Int) - scoreOf b = 0) && opensD r.out b) then 1000000
 else if decide (0 < scoreOf b) && decide ((left : Int) - scoreOf b < lowestR r) then afterD r most T k st
 else if last then afterD r most T k ((left : Int) - scoreOf b).toNat
 else val ((left : Int) - scoreOf b).toNat
def maxL (l : List Int) : Int:=l.foldl max (l.headD 0)
def chW (f : Int → Int) (l : List Bd) : List Bd:=l.map fun c=>⟨f c.b,c.lo,c.hi⟩
def meansV (r : Ru) (most : Bool) (f : Int → Int) : List Int:=r.aims.map fun a=>meanD most r.d (chW f a.beds)
def valV (r : Ru) (most : Bool) (T : List (List Int)) (k st : Nat) : Nat → Nat → Int
 | 0,_=>0
 | n + 1,left=>maxL (meansV r most (nextV r most T k st (valV r most T k st n) (decide (n = 0)) left))
def memoV (r : Ru) (most : Bool) (T : List (List Int)) (k st : Nat) (m : List (RV × RV)) : Prop :=
 ∀ e ∈ m,∃ n left : Nat,e = (.ag [i64 (left : Int),i64 (n : Int)],i64 (valV r most T k st n left))
theorem memo_find {r : Ru} {most : Bool} {T : List (List Int)} {k st n left : Nat} : ∀ {m : List (RV × RV)} {i : Nat},memoV r most T k st m →
 findK (.ag [i64 (left : Int),i64 (n : Int)]) m i = some none ∨ ∃ j,findK (.ag [i64 (left : Int),i64 (n : Int)]) m i = some (some (j,i64 (valV r most T k st n left)))
 | [],i,_=>.inl rfl
 | e :: m, i, h => by
   obtain ⟨n',left',rfl⟩:=h e (by simp)
   have ih:=memo_find (n:=n) (left:=left) (m:=m) (i:=i + 1) fun x hx=>h x (by simp [hx])
   by_cases he : left = left' ∧ n = n'
   · obtain ⟨rfl,rfl⟩:=he
     exact .inr ⟨i,by simp [findK,sameK,cmpL,i64]⟩
   · have hf : sameK (.ag [i64 (left : Int),i64 (n : Int)]) (.ag [i64 (left' : Int),i64 (n' : Int)]) = some false:=by
      simp only [sameK,cmpL,i64,if_true,Option.some.injEq,Bool.and_true,Bool.and_eq_false_iff,beq_eq_false_iff_ne]
      omega
     simp only [findK,hf];exact ih
theorem memo_set {r : Ru} {most : Bool} {T : List (List Int)} {k st n left : Nat} {m : List (RV × RV)} (h : memoV r most T k st m) (i : Nat) : memoV r most T k st (m.set i (.ag [i64 (left : Int),i64 (n : Int)],i64 (valV r most T k st n left))):=fun e he=>by
 rcases List.mem_or_eq_of_mem_set he with he | rfl
 · exact h e he
 · exact ⟨n,left,rfl⟩
theorem memo_app {r : Ru} {most : Bool} {T : List (List Int)} {k st n left : Nat} {m : List (RV × RV)} (h : memoV r most T k st m) : memoV r most T k st (m ++ [(.ag [i64 (left : Int),i64 (n : Int)],i64 (valV r most T k st n left))]):=fun e he=>by
 rcases List.mem_append.1 he with he | he
 · exact h e he
 · rw [List.mem_singleton] at he; exact ⟨n,left,he⟩
abbrev visL (r : Ru) (most : Bool) (T : List (List Int)) (k st : Nat) : List (Nat × RowC):=[(1000,.box (visC r most T (k : Int) (st : Int) 1001 0)),(1001,.mem (memoV r most T k st))]
structure VisG (r : Ru) (T : List (List Int)) (k st : Nat) : Prop where
 kk : k < r.ends.length
 h10 : r.ends.length ≤ 10
 ends : ∀ x ∈ r.ends,endOk x = true
 st40 : (st : Int) ≤ r.start
 s40 : r.start ≤ 40
 tab : ∀ left : Nat,(left : Int) ≤ r.start → ∃ row v,k + 1 < r.ends.length → T[k + 1]? = some row ∧ row[left]? = some v ∧ 0 ≤ v ∧ v ≤ 1000000
theorem VisG.after {r : Ru} {T : List (List Int)} {k st : Nat} (h : VisG r T k st) (most : Bool) {left : Nat} (hl : (left : Int) ≤ r.start) : ACalls Try.prog 45 [sideP r most T,i64 k,i64 left] (i64 (afterD r most T k left)):=by
 obtain ⟨row,v,hv⟩:=h.tab left hl
 exact after_ok r most T k left row v h.kk h.h10 h.ends hv
theorem next_ok (r : Ru) (most : Bool) (T : List (List Int)) (k st n left : Nat) (b : Int) (hG : VisG r T k st) (hl1 : 1 ≤ left) (hl : (left : Int) ≤ r.start) (hn : n ≤ 100) (b0 : 0 ≤ b) (b1 : b ≤ 499)
 (hval : n ≠ 0 → ∀ left' : Nat,1 ≤ left' → (left' : Int) ≤ r.start → MCalls Try.prog 180 (visL r most T k st) (visL r most T k st) [.pt 1000 0 0,.r (.ag [i64 (left' : Int),i64 (n : Int)])] (.r (i64 (valV r most T k st n left')))) :
 MCalls Try.prog 120 (visL r most T k st) (visL r most T k st) [.pt 1000 0 0,.r (.ag [i64 (left : Int),i64 ((n : Int) + 1)]),.r (i64 b)] (.r (i64 (nextV r most T k st (valV r most T k st n) (decide (n = 0)) left b))):=by
 have h40:=hG.s40
 have hq:=tdiv100 (b:=b) ⟨by omega,by omega⟩
 have hm:=score_mul b0 b1
 obtain ⟨s0,s1⟩:=score_le b0 b1
 obtain ⟨x,hx⟩ : ∃ x,x = scoreOf b:=⟨_,rfl⟩
 have hdn : IntKind.i64.wrap ((n : Int) + 1 - 1) = n:=by rw [zI] <;> omega
 have hlx : IntKind.i64.wrap ((left : Int) - scoreOf b) = left - scoreOf b:=by rw [zI] <;> omega
 have hop:=opens_ok r b b0 b1
 have hlo : ACalls Try.prog 119 [ruV r] (i64 (lowestR r)):=dlowest_ok r
 refine mcalls_st (n:=88) (rs:=[.r (i64 (nextV r most T k st (valV r most T k st n) (decide (n = 0)) left b))]) _ _ [.tmp 6] Try.func120 rfl (by kernel_rfl) Try.ntmps120 rfl (by simp) rfl rfl fun C=>?_
 repeat refine zq ?_
 refine zb fun K hK=>?_;simp only [go_sem];(try simp (disch:=omega) only [zI]);repeat first | intro _ | refine ⟨by omega,?_⟩
 refine hK _ ?_;clear hK K;refine zw (zk [0,2,4]) ?_;simp only [go_sem]
 repeat refine zq ?_
 refine zb fun K hK=>?_;simp only [go_sem,hq,hm];(try simp (disch:=omega) only [zI]);repeat first | intro _ | refine ⟨by omega,?_⟩
 refine hK _ ?_;clear hK K;refine zw (zk [0,2,4,7]) ?_;simp only [go_sem]
 repeat refine zq ?_
 refine zb fun K hK=>?_;simp only [go_sem,hlx];(try simp (disch:=omega) only [zI]);repeat first | intro _ | refine ⟨by omega,?_⟩
 refine hK _ ?_;clear hK K;refine zw (zk [0,2,4,7]) ?_;simp only [go_sem]
 repeat refine zq ?_
 refine zb fun K hK=>?_;simp only [go_sem,hdn];(try simp (disch:=omega) only [zI]);repeat first | intro _ | refine ⟨by omega,?_⟩
 refine hK _ ?_;clear hK K;refine zw (zk [0,2,4,7]) ?_;simp only [go_sem]
 rw [← hx] at hlx ⊢
 repeat refine zq ?_
 refine zd ?_
 have hst:=hG.after most hG.st40
 have hv : nextV r most T k st (valV r most T k st n) (decide (n = 0)) left b = if decide (0 < x) && (decide ((left : Int) - x = 0) && opensD r.out b) then 1000000
  else if decide (0 < x) && decide ((left : Int) - x < lowestR r) then afterD r most T k st else if n = 0 then afterD r most T k ((left : Int) - x).toNat else valV r most T k st n ((left : Int) - x).toNat:=by
  unfold nextV; rw [← hx]; simp only [decide_eq_true_eq]
 by_cases c1 : 0 < x
 · have d1 : decide (0 < x) = true:=by simpa using c1
   by_cases c2 : (left : Int) - x = 0
   · have d2 : ((left : Int) - x == 0) = true:=by simpa using c2
     cases c3 : opensD r.out b
     · have c4 : (left : Int) - x < lowestR r:=by unfold lowestR; split <;> omega
       have d4 : decide ((left : Int) - x < lowestR r) = true:=by simpa using c4
       rw [c3] at hop
       repeat refine zq ?_
       refine zb fun K hK=>?_;simp only [go_sem,d1,d2];(try simp (disch:=omega) only [zI])
       refine zh (hop) rfl (by simp only [go_sem,i64,ints,d1,d2]) (by simp only [go_sem,i64,ints,d1,d2]) (by first | exact .inl rfl | exact .inr rfl) ?_
       (try simp only [go_sem,d1,d2]);(try simp (disch:=omega) only [zI]);repeat first | intro _ | refine ⟨by omega,?_⟩
       refine hK _ ?_;clear hK K;refine zw (zk [0,4,7,22]) ?_;simp only [go_sem]
       repeat refine zq ?_
       refine zc rfl (fun hc=>?_) (fun hc=>?_) <;> (try simp only [go_sem] at hc)
       repeat refine zq ?_
       refine zg follows (by decide +kernel) (by kernel_rfl) fun K hK=>?_;simp only [go_sem,d1,d4];(try simp (disch:=omega) only [zI])
       refine zh (hlo) rfl (by simp only [go_sem,i64,ints,d1,d4]) (by simp only [go_sem,i64,ints,d1,d4]) (by first | exact .inl rfl | exact .inr rfl) ?_
       (try simp only [go_sem,d1,d4]);(try simp (disch:=omega) only [zI]);repeat first | intro _ | refine ⟨by omega,?_⟩
       refine hK _ ?_;clear hK K;refine zw (zk [0,4,41]) ?_;simp only [go_sem]
       repeat refine zq ?_
       refine zc rfl (fun hc=>?_) (fun hc=>?_) <;> (try simp only [go_sem] at hc)
       repeat refine zq ?_
       refine zg follows (by decide +kernel) (by kernel_rfl) fun K hK=>?_;simp only [go_sem];(try simp (disch:=omega) only [zI])
       refine zh (hst) rfl (by simp only [go_sem,i64,ints]) (by simp only [go_sem,i64,ints]) (by first | exact .inl rfl | exact .inr rfl) ?_
       (try simp only [go_sem]);(try simp (disch:=omega) only [zI]);repeat first | intro _ | refine ⟨by omega,?_⟩
       refine hK _ ?_;clear hK K;refine zw (zk [6]) ?_;simp only [go_sem];refine ze ?_;simp only [go_sem]
       rw [hv]; simp [c1,c3,c4]
     · rw [c3] at hop
       repeat refine zq ?_
       refine zb fun K hK=>?_;simp only [go_sem,d1,d2];(try simp (disch:=omega) only [zI])
       refine zh (hop) rfl (by simp only [go_sem,i64,ints,d1,d2]) (by simp only [go_sem,i64,ints,d1,d2]) (by first | exact .inl rfl | exact .inr rfl) ?_
       (try simp only [go_sem,d1,d2]);(try simp (disch:=omega) only [zI]);repeat first | intro _ | refine ⟨by omega,?_⟩
       refine hK _ ?_;clear hK K;refine zw (zk [0,4,7,22]) ?_;simp only [go_sem]
       repeat refine zq ?_
       refine zc rfl (fun hc=>?_) (fun hc=>?_) <;> (try simp only [go_sem] at hc)
       repeat refine zq ?_
       refine zb fun K hK=>?_;simp only [go_sem];(try simp (disch:=omega) only [zI]);repeat first | intro _ | refine ⟨by omega,?_⟩
       refine hK _ ?_;clear hK K;refine zw (zk [6]) ?_;simp only [go_sem];refine ze ?_;simp only [go_sem]
       rw [hv]; simp [c1,c2,c3]
   · have d2 : ((left : Int) - x == 0) = false:=by simpa using c2
     repeat refine zq ?_
     refine zb fun K hK=>?_;simp only [go_sem,d1,d2];(try simp (disch:=omega) only [zI]);repeat first | intro _ | refine ⟨by omega,?_⟩
     refine hK _ ?_;clear hK K;refine zw (zk [0,4,7,22]) ?_;simp only [go_sem]
     repeat refine zq ?_
     refine zc rfl (fun hc=>?_) (fun hc=>?_) <;> (try simp only [go_sem] at hc)
     by_cases c4 : (left : Int) - x < lowestR r
     · have d4 : decide ((left : Int) - x < lowestR r) = true:=by simpa using c4
       repeat refine zq ?_
       refine zg follows (by decide +kernel) (by kernel_rfl) fun K hK=>?_;simp only [go_sem,d1,d4];(try simp (disch:=omega) only [zI])
       refine zh (hlo) rfl (by simp only [go_sem,i64,ints,d1,d4]) (by simp only [go_sem,i64,ints,d1,d4]) (by first | exact .inl rfl | exact .inr rfl) ?_
       (try simp only [go_sem,d1,d4]);(try simp (disch:=omega) only [zI]);repeat first | intro _ | refine ⟨by omega,?_⟩
       refine hK _ ?_;clear hK K;refine zw (zk [0,4,41]) ?_;simp only [go_sem]
       repeat refine zq ?_
       refine zc rfl (fun hc=>?_) (fun hc=>?_) <;> (try simp only [go_sem] at hc)
       repeat refine zq ?_
       refine zg follows (by decide +kernel) (by kernel_rfl) fun K hK=>?_;simp only [go_sem];(try simp (disch:=omega) only [zI])
       refine zh (hst) rfl (by simp only [go_sem,i64,ints]) (by simp only [go_sem,i64,ints]) (by first | exact .inl rfl | exact .inr rfl) ?_
       (try simp only [go_sem]);(try simp (disch:=omega) only [zI]);repeat first | intro _ | refine ⟨by omega,?_⟩
       refine hK _ ?_;clear hK K;refine zw (zk [6]) ?_;simp only [go_sem];refine ze ?_;simp only [go_sem]
       rw [hv]; simp [c1,c2,c4]
     · have d4 : decide ((left : Int) - x < lowestR r) = false:=by simpa using c4
       have hl1' : 1 ≤ lowestR r:=by unfold lowestR; split <;> omega
       obtain ⟨y,hy⟩ : ∃ y : Nat,(left : Int) - x = (y : Int):=⟨((left : Int) - x).toNat,by omega⟩
       have hyn : ((left : Int) - x).toNat = y:=by omega
       have haf:=hG.after most (left:=y) (by omega)
       rw [hy] at c2 c4
       repeat refine zq ?_
       refine zg follows (by decide +kernel) (by kernel_rfl) fun K hK=>?_;simp only [go_sem,d1,d4];(try simp (disch:=omega) only [zI])
       refine zh (hlo) rfl (by simp only [go_sem,i64,ints,d1,d4]) (by simp only [go_sem,i64,ints,d1,d4]) (by first | exact .inl rfl | exact .inr rfl) ?_
       (try simp only [go_sem,d1,d4]);(try simp (disch:=omega) only [zI]);repeat first | intro _ | refine ⟨by omega,?_⟩
       refine hK _ ?_;clear hK K;refine zw (zk [0,4,41]) ?_;simp only [go_sem]
       repeat refine zq ?_
       refine zc rfl (fun hc=>?_) (fun hc=>?_) <;> (try simp only [go_sem] at hc)
       by_cases c5 : n = 0
       · have d5 : ((n : Int) == 0) = true:=by simpa using c5
         repeat refine zq ?_
         refine zb fun K hK=>?_;simp only [go_sem,d5];(try simp (disch:=omega) only [zI]);repeat first | intro _ | refine ⟨by omega,?_⟩
         refine hK _ ?_;clear hK K;refine zw (zk [0,4,70]) ?_;simp only [go_sem]
         repeat refine zq ?_
         refine zc rfl (fun hc=>?_) (fun hc=>?_) <;> (try simp only [go_sem] at hc)
         repeat refine zq ?_
         refine zg follows (by decide +kernel) (by kernel_rfl) fun K hK=>?_;simp only [go_sem,hy];(try simp (disch:=omega) only [zI])
         refine zh (haf) rfl (by simp only [go_sem,i64,ints]) (by simp only [go_sem,i64,ints]) (by first | exact .inl rfl | exact .inr rfl) ?_
         (try simp only [go_sem]);(try simp (disch:=omega) only [zI]);repeat first | intro _ | refine ⟨by omega,?_⟩
         refine hK _ ?_;clear hK K;refine zw (zk [6]) ?_;simp only [go_sem];refine ze ?_;simp only [go_sem]
         have c2' : ¬ y = 0:=by omega
         rw [hv,hyn]; simp [c1,c2,c2',c4,c5,hy]
       · have d5 : ((n : Int) == 0) = false:=by simpa using c5
         have hvl:=hval c5 y (by omega) (by omega)
         repeat refine zq ?_
         refine zb fun K hK=>?_;simp only [go_sem,d5];(try simp (disch:=omega) only [zI]);repeat first | intro _ | refine ⟨by omega,?_⟩
         refine hK _ ?_;clear hK K;refine zw (zk [0,4,70]) ?_;simp only [go_sem]
         repeat refine zq ?_
         refine zc rfl (fun hc=>?_) (fun hc=>?_) <;> (try simp only [go_sem] at hc)
         refine zx ?_
         try simp only [go_sem]
         refine zw (sub_frzP 4 4 [i64 ((left : Int) - x),i64 (n : Int)] (by omega) rfl rfl) ?_;refine zw (zk [0,4]) ?_;simp only [go_sem]
         repeat refine zq ?_
         refine zb fun K hK=>?_;simp only [go_sem,hy];(try simp (disch:=omega) only [zI])
         refine xcall_mut (hvl) [(1000,1000),(1001,1001)] rfl (by simp only [go_sem,i64,ints]) (by simp only [go_sem,i64,ints]) (by rfl) (by rfl) ?_
         (try simp only [go_sem]);(try simp (disch:=omega) only [zI]);repeat first | intro _ | refine ⟨by omega,?_⟩
         refine hK _ ?_;clear hK K;refine zw (zk [6]) ?_;simp only [go_sem];refine ze ?_;simp only [go_sem]
         have c2' : ¬ y = 0:=by omega
         rw [hv,hyn]; simp [c1,c2,c2',c4,c5,hy]
 · have d1 : decide (0 < x) = false:=by simpa using c1
   have hx0 : x = 0:=by omega
   repeat refine zq ?_
   refine zb fun K hK=>?_;simp only [go_sem,d1];(try simp (disch:=omega) only [zI]);repeat first | intro _ | refine ⟨by omega,?_⟩
   refine hK _ ?_;clear hK K;refine zw (zk [0,4,7,22]) ?_;simp only [go_sem]
   repeat refine zq ?_
   refine zc rfl (fun hc=>?_) (fun hc=>?_) <;> (try simp only [go_sem] at hc)
   repeat refine zq ?_
   refine zg follows (by decide +kernel) (by kernel_rfl) fun K hK=>?_;simp only [go_sem,d1];(try simp (disch:=omega) only [zI]);repeat first | intro _ | refine ⟨by omega,?_⟩
   refine hK _ ?_;clear hK K;refine zw (zk [0,4,41]) ?_;simp only [go_sem]
   have haf:=hG.after most hl
   have hx1 : ((left : Int) - x).toNat = left:=by omega
   subst hx0
   simp only [Int.sub_zero] at hx1 ⊢
   repeat refine zq ?_
   refine zc rfl (fun hc=>?_) (fun hc=>?_) <;> (try simp only [go_sem] at hc)
   by_cases c5 : n = 0
   · have d5 : ((n : Int) == 0) = true:=by simpa using c5
     repeat refine zq ?_
     refine zb fun K hK=>?_;simp only [go_sem,d5];(try simp (disch:=omega) only [zI]);repeat first | intro _ | refine ⟨by omega,?_⟩
     refine hK _ ?_;clear hK K;refine zw (zk [0,4,70]) ?_;simp only [go_sem]
     repeat refine zq ?_
     refine zc rfl (fun hc=>?_) (fun hc=>?_) <;> (try simp only [go_sem] at hc)
     repeat refine zq ?_
     refine zg follows (by decide +kernel) (by kernel_rfl) fun K hK=>?_;simp only [go_sem];(try simp (disch:=omega) only [zI])
     refine zh (haf) rfl (by simp only [go_sem,i64,ints]) (by simp only [go_sem,i64,ints]) (by first | exact .inl rfl | exact .inr rfl) ?_
     (try simp only [go_sem]);(try simp (disch:=omega) only [zI]);repeat first | intro _ | refine ⟨by omega,?_⟩
     refine hK _ ?_;clear hK K;refine zw (zk [6]) ?_;simp only [go_sem];refine ze ?_;simp only [go_sem]
     rw [hv]; simp [c1,c5]
   · have d5 : ((n : Int) == 0) = false:=by simpa using c5
     have hvl:=hval c5 left (by omega) (by omega)
     repeat refine zq ?_
     refine zb fun K hK=>?_;simp only [go_sem,d5];(try simp (disch:=omega) only [zI]);repeat first | intro _ | refine ⟨by omega,?_⟩
     refine hK _ ?_;clear hK K;refine zw (zk [0,4,70]) ?_;simp only [go_sem]
     repeat refine zq ?_
     refine zc rfl (fun hc=>?_) (fun hc=>?_) <;> (try simp only [go_sem] at hc)
     refine zx ?_
     try simp only [go_sem]
     refine zw (sub_frzP 4 4 [i64 (left : Int),i64 (n : Int)] (by omega) rfl rfl) ?_;refine zw (zk [0,4]) ?_;simp only [go_sem]
     repeat refine zq ?_
     refine zb fun K hK=>?_;simp only [go_sem];(try simp (disch:=omega) only [zI])
     refine xcall_mut (hvl) [(1000,1000),(1001,1001)] rfl (by simp only [go_sem,i64,ints]) (by simp only [go_sem,i64,ints]) (by rfl) (by rfl) ?_
     (try simp only [go_sem]);(try simp (disch:=omega) only [zI]);repeat first | intro _ | refine ⟨by omega,?_⟩
     refine hK _ ?_;clear hK K;refine zw (zk [6]) ?_;simp only [go_sem];refine ze ?_;simp only [go_sem]
     rw [hv]; simp [c1,c5]
theorem max_ok (l : List Int) (h : l ≠ []) (hl : l.length ≤ 1000000) : ACalls Try.prog 219 [ints l] (i64 (maxL l)):=by
 have hp : 0 < l.length:=List.length_pos_iff.2 h
 have d0 : decide ((l.length : Int) < 1) = false:=by simp; omega
 obtain ⟨x0,hx0⟩:=opt_of_lt hp
 have hhd : l.headD 0 = x0:=by cases l with | nil=>exact absurd rfl h | cons a l=>simpa using hx0
 have hs : ∀ i v,l[i]? = some v → (l.take (i + 1)).foldl max x0 = max ((l.take i).foldl max x0) v:=fun i v hv=>by
  rw [List.take_add_one,hv]; simp
 refine acalls_st (rs:=[i64 (maxL l)]) [.tmp 2] Try.func219 rfl (by kernel_rfl) Try.ntmps219 rfl (by simp) rfl fun C vs=>?_
 repeat refine zq ?_
 refine zb fun K hK=>?_;simp only [go_sem];(try simp (disch:=omega) only [zI]);repeat first | intro _ | refine ⟨by omega,?_⟩
 refine hK _ ?_;clear hK K;refine zw (zk [0]) ?_;simp only [go_sem]
 repeat refine zq ?_
 refine zb fun K hK=>?_;simp only [go_sem,d0];(try simp (disch:=omega) only [zI]);repeat first | intro _ | refine ⟨by omega,?_⟩
 refine hK _ ?_;clear hK K;refine zw (zk [0,7]) ?_;simp only [go_sem]
 repeat refine zq ?_
 refine zc rfl (fun hc=>?_) (fun hc=>?_) <;> (try simp only [go_sem] at hc)
 refine zx ?_
 try simp only [go_sem]
 repeat refine zq ?_
 refine zb fun K hK=>?_;simp only [go_sem,hx0];(try simp (disch:=omega) only [zI]);repeat first | intro _ | refine ⟨by omega,?_⟩
 refine hK _ ?_;clear hK K;refine zw (zk [0,3]) ?_;simp only [go_sem]
 repeat refine zq ?_
 refine zb fun K hK=>?_;simp only [go_sem];(try simp (disch:=omega) only [zI]);repeat first | intro _ | refine ⟨by omega,?_⟩
 refine hK _ ?_;clear hK K;refine zw (zk [0,3,4]) ?_;simp only [go_sem]
 repeat refine zq ?_
 refine zd ?_
 refine awp_upto (n:=25) l.length (fun i vs=>[(0,.r (ints l)),(3,.r (i64 ((l.take i).foldl max x0))),(4,.r (i64 i))])
  (fun i=>[]) (fun _=>True) 1 (fit_of [] ?_ ?_) (by omega) trivial ?_
 · try simp only [go_sem]
   rw [show (1 : Nat) = 0 + 1 from rfl,hs 0 x0 hx0]; simp
 · try simp only [go_sem]
 · intro i vs hi _
   repeat refine zq ?_
   refine zb fun K hK=>?_;simp only [go_sem];(try simp (disch:=omega) only [zI]);repeat first | intro _ | refine ⟨by omega,?_⟩
   refine hK _ ?_;clear hK K;refine zw (zk [0,3,4,15]) ?_;simp only [go_sem]
   repeat refine zq ?_
   refine zc rfl (fun hc=>?_) (fun hc=>?_) <;> (try simp only [go_sem] at hc)
   · have hci : i < l.length:=by omega
     obtain ⟨v,hv⟩:=opt_of_lt hci
     refine zx ?_
     try simp only [go_sem]
     repeat refine zq ?_
     refine zd ?_
     repeat refine zq ?_
     refine zb fun K hK=>?_;simp only [go_sem,hv];(try simp (disch:=omega) only [zI]);repeat first | intro _ | refine ⟨by omega,?_⟩
     refine hK _ ?_;clear hK K;refine zw (zk [0,3,4]) ?_;simp only [go_sem]
     repeat refine zq ?_
     refine zb fun K hK=>?_;simp only [go_sem];(try simp (disch:=omega) only [zI]);repeat first | intro _ | refine ⟨by omega,?_⟩
     refine hK _ ?_;clear hK K
     try simp only [go_sem]
     refine ⟨by omega,fit_of [] ?_ ?_⟩
     · try simp only [go_sem]
       rw [hs i v hv]
     · try simp only [go_sem]
   · have hil : i = l.length:=by omega
     refine zf ?_;simp only [go_sem]
     repeat refine zq ?_
     refine zb fun K hK=>?_;simp only [go_sem];(try simp (disch:=omega) only [zI]);repeat first | intro _ | refine ⟨by omega,?_⟩
     refine hK _ ?_;clear hK K;refine zw (zk [2]) ?_;simp only [go_sem];refine ze ?_;simp only [go_sem];rw [maxL,hhd,hil,List.take_length]
theorem value_ok (r : Ru) (most : Bool) (T : List (List Int)) (k st n left : Nat) (hn : n ≤ 100) (hl : left ≤ 40) (hne : r.aims ≠ []) (hle : r.aims.length ≤ 1000)
 (hme : MCalls Try.prog 69 (visL r most T k st) (visL r most T k st) [.pt 1000 0 0,.r (.ag [i64 (left : Int),i64 ((n + 1 : Nat) : Int)])] (.r (ints (meansV r most (nextV r most T k st (valV r most T k st n) (decide (n = 0)) left))))) :
 MCalls Try.prog 180 (visL r most T k st) (visL r most T k st) [.pt 1000 0 0,.r (.ag [i64 (left : Int),i64 ((n + 1 : Nat) : Int)])] (.r (i64 (valV r most T k st (n + 1) left))):=by
 have hmx:=max_ok (meansV r most (nextV r most T k st (valV r most T k st n) (decide (n = 0)) left)) (by simp [meansV,hne]) (by simp [meansV]; omega)
 have hval : maxL (meansV r most (nextV r most T k st (valV r most T k st n) (decide (n = 0)) left)) = valV r most T k st (n + 1) left:=rfl
 rw [hval] at hmx
 refine mcalls_st (n:=29) (rs:=[.r (i64 (valV r most T k st (n + 1) left))]) _ _ [.tmp 4] Try.func180 rfl (by kernel_rfl) Try.ntmps180 rfl (by simp) rfl rfl fun C=>?_
 repeat refine zq ?_
 refine zb fun K hK=>?_;simp only [go_sem];(try simp (disch:=omega) only [zI]);repeat first | intro _ | refine ⟨by omega,?_⟩
 refine hK _ ?_;clear hK K;refine zw (sub_frzP 3 3 [i64 (left : Int),i64 ((n + 1 : Nat) : Int)] (by omega) rfl rfl) ?_;refine zw (zk [0,3]) ?_;simp only [go_sem]
 repeat refine zq ?_
 refine awp_openM 1001 (by rfl) fun m hm=>?_
 try simp only [go_sem]
 have ecast : (((n + 1 : Nat)) : Int) = (n : Int) + 1:=by omega
 rcases memo_find (n:=n + 1) (left:=left) (i:=0) hm with hf | ⟨j,hf⟩
 · rw [ecast] at hf
   repeat refine zq ?_
   refine zg follows (by decide +kernel) (by kernel_rfl) fun K hK=>?_;simp only [go_sem,hf,Bool.and_self,eq_self,true_and];(try simp (disch:=omega) only [zI]);repeat first | intro _ | refine ⟨by omega,?_⟩
   refine hK _ ?_;clear hK K;refine zw (sub_shutM (memoV r most T k st) 1001 (by rfl) hm) ?_;refine zw (zk [0,3,5,6]) ?_;simp only [go_sem]
   repeat refine zq ?_
   refine zb fun K hK=>?_;simp only [go_sem];(try simp (disch:=omega) only [zI]);repeat first | intro _ | refine ⟨by omega,?_⟩
   refine hK _ ?_;clear hK K;refine zw (zk [0,3,5,17]) ?_;simp only [go_sem]
   repeat refine zq ?_
   refine zc rfl (fun hc=>?_) (fun hc=>?_) <;> (try simp only [go_sem] at hc)
   repeat refine zq ?_
   refine zb fun K hK=>?_;simp only [go_sem];(try simp (disch:=omega) only [zI])
   refine xcall_mut (hme) [(1000,1000),(1001,1001)] rfl (by simp only [go_sem,i64,ints]) (by simp only [go_sem,i64,ints]) (by rfl) (by rfl) ?_
   (try simp only [go_sem]);(try simp (disch:=omega) only [zI])
   refine zh (hmx) rfl (by simp only [go_sem,i64,ints]) (by simp only [go_sem,i64,ints]) (by first | exact .inl rfl | exact .inr rfl) ?_
   (try simp only [go_sem]);(try simp (disch:=omega) only [zI]);repeat first | intro _ | refine ⟨by omega,?_⟩
   refine hK _ ?_;clear hK K;refine zw (zk [0,3,5]) ?_;simp only [go_sem]
   repeat refine zq ?_
   refine awp_openM 1001 (by rfl) fun m' hm'=>?_
   try simp only [go_sem]
   rcases memo_find (n:=n + 1) (left:=left) (i:=0) hm' with hf' | ⟨j,hf'⟩
   · rw [ecast] at hf'
     repeat refine zq ?_
     refine awp_dreg2 [(0,some 1000),(3,none),(5,none)] follows (by decide +kernel) (by kernel_rfl) (by simp only [keysOk,List.mem_cons,List.not_mem_nil,forall_eq_or_imp,Oc.keyOf,go_sem]; simp) fun K hK=>?_
     simp only [go_sem,hf',Bool.and_self,eq_self,true_and];(try simp (disch:=omega) only [zI]);repeat first | intro _ | refine ⟨by omega,?_⟩
     refine hK _ ?_;clear hK K;refine zw (sub_shutM (memoV r most T k st) 1001 (by rfl) (by have h:=memo_app (n:=n + 1) (left:=left) hm'; rw [ecast] at h; exact h)) ?_;refine zw (zk [5]) ?_;simp only [go_sem]
     repeat refine zq ?_
     refine zb fun K hK=>?_;simp only [go_sem];(try simp (disch:=omega) only [zI]);repeat first | intro _ | refine ⟨by omega,?_⟩
     refine hK _ ?_;clear hK K;refine zw (zk [4]) ?_;simp only [go_sem];refine ze ?_;simp only [go_sem]
   · rw [ecast] at hf'
     repeat refine zq ?_
     refine awp_dreg2 [(0,some 1000),(3,none),(5,none)] follows (by decide +kernel) (by kernel_rfl) (by simp only [keysOk,List.mem_cons,List.not_mem_nil,forall_eq_or_imp,Oc.keyOf,go_sem]; simp) fun K hK=>?_
     simp only [go_sem,hf',Bool.and_self,eq_self,true_and];(try simp (disch:=omega) only [zI]);repeat first | intro _ | refine ⟨by omega,?_⟩
     refine hK _ ?_;clear hK K;refine zw (sub_shutM (memoV r most T k st) 1001 (by rfl) (by have h:=memo_set (n:=n + 1) (left:=left) hm' j; rw [ecast] at h; exact h)) ?_;refine zw (zk [5]) ?_;simp only [go_sem]
     repeat refine zq ?_
     refine zb fun K hK=>?_;simp only [go_sem];(try simp (disch:=omega) only [zI]);repeat first | intro _ | refine ⟨by omega,?_⟩
     refine hK _ ?_;clear hK K;refine zw (zk [4]) ?_;simp only [go_sem];refine ze ?_;simp only [go_sem]
 · rw [ecast] at hf
   repeat refine zq ?_
   refine zg follows (by decide +kernel) (by kernel_rfl) fun K hK=>?_;simp only [go_sem,hf,Bool.and_self,eq_self,true_and];(try simp (disch:=omega) only [zI]);repeat first | intro _ | refine ⟨by omega,?_⟩
   refine hK _ ?_;clear hK K;refine zw (sub_shutM (memoV r most T k st) 1001 (by rfl) hm) ?_;refine zw (zk [0,3,5,6]) ?_;simp only [go_sem]
   repeat refine zq ?_
   refine zb fun K hK=>?_;simp only [go_sem];(try simp (disch:=omega) only [zI]);repeat first | intro _ | refine ⟨by omega,?_⟩
   refine hK _ ?_;clear hK K;refine zw (zk [0,3,5,17]) ?_;simp only [go_sem]
   repeat refine zq ?_
   refine zc rfl (fun hc=>?_) (fun hc=>?_) <;> (try simp only [go_sem] at hc)
   refine zx ?_
   try simp only [go_sem]
   repeat refine zq ?_
   refine zb fun K hK=>?_;simp only [go_sem];(try simp (disch:=omega) only [zI]);repeat first | intro _ | refine ⟨by omega,?_⟩
   refine hK _ ?_;clear hK K;refine zw (zk [4]) ?_;simp only [go_sem];refine ze ?_;simp only [go_sem]
theorem means_ok (r : Ru) (most : Bool) (T : List (List Int)) (k st n left : Nat) (f : Int → Int) (hn : n ≤ 100) (hl : left ≤ 40) (hle : r.aims.length ≤ 1000)
 (hch : ∀ a ∈ r.aims,ChG r.d (chW f a.beds)) (hbd : ∀ a ∈ r.aims,∀ c ∈ a.beds,0 ≤ c.b ∧ c.b ≤ 499)
 (hnx : ∀ b,0 ≤ b → b ≤ 499 → MCalls Try.prog 120 (visL r most T k st) (visL r most T k st) [.pt 1000 0 0,.r (.ag [i64 (left : Int),i64 ((n : Int) + 1)]),.r (i64 b)] (.r (i64 (f b)))) :
 MCalls Try.prog 69 (visL r most T k st) (visL r most T k st) [.pt 1000 0 0,.r (.ag [i64 (left : Int),i64 ((n : Int) + 1)])] (.r (ints (meansV r most f))):=by
 refine mcalls_st (n:=55) (rs:=[.r (ints (meansV r most f))]) _ _ [.tmp 4] Try.func69 rfl (by kernel_rfl) Try.ntmps69 rfl (by simp) rfl rfl fun C=>?_
 repeat refine zq ?_
 refine zb fun K hK=>?_;simp only [go_sem];(try simp (disch:=omega) only [zI]);repeat first | intro _ | refine ⟨by omega,?_⟩
 refine hK _ ?_;clear hK K;refine zw (sub_frzP 3 3 [i64 (left : Int),i64 ((n : Int) + 1)] (by omega) rfl rfl) ?_;refine zw (zk [0,3,4]) ?_;simp only [go_sem]
 repeat refine zq ?_
 refine zb fun K hK=>?_;simp only [go_sem];(try simp (disch:=omega) only [zI]);repeat first | intro _ | refine ⟨by omega,?_⟩
 refine hK _ ?_;clear hK K;refine zw (zk [0,3,4,19,20,21]) ?_;simp only [go_sem];refine zw (sub_own 4 52 3 1 (by omega) rfl) ?_
 try simp only [go_sem]
 repeat refine zq ?_
 refine zd ?_
 refine awp_upto0 (n:=55) r.aims.length (fun i vs=>[(0,.pt 1000 0 0),(3,.r (.rp [i64 (left : Int),i64 ((n : Int) + 1)])),(4,.os 52 (vs 52) 1 0 i),(19,.r (aimsR r.aims)),(20,.r (i64 r.aims.length)),(21,.r (i64 i))])
  (fun i=>[(52,.arr 3 1 (((meansV r most f).take i).map fun x=>[i64 x])),(1000,.box (visC r most T (k : Int) (st : Int) 1001 0)),(1001,.mem (memoV r most T k st))]) (fun _=>True) 0 (fit0_of [] (by repeat (first | exact lent_zero | refine lent_upd (by omega) ?_)) ?_ ?_) (by omega) trivial ?_
 · try simp only [go_sem]
 · try simp only [go_sem]
 · intro i vs hv hi _
   have hv0:=hv 1000 (by omega)
   have hv1:=hv 1001 (by omega)
   repeat refine zq ?_
   refine zb fun K hK=>?_;simp only [go_sem];(try simp (disch:=omega) only [zI]);repeat first | intro _ | refine ⟨by omega,?_⟩
   refine hK _ ?_;clear hK K;refine zw (zk [0,3,4,19,20,21,22]) ?_;simp only [go_sem]
   repeat refine zq ?_
   refine zc rfl (fun hc=>?_) (fun hc=>?_) <;> (try simp only [go_sem] at hc)
   · have hci:=hc
     obtain ⟨a,ha⟩:=opt_of_lt hc
     have haM:=mem_of_opt ha
     have hca:=hch a haM
     have hl19:=hca.len
     have hlen : (chW f a.beds).length = a.beds.length:=by simp [chW]
     rw [hlen] at hl19
     refine zx ?_
     try simp only [go_sem]
     repeat refine zq ?_
     refine zd ?_
     repeat refine zq ?_
     refine zb fun K hK=>?_;simp only [go_sem,ha,hci,aimR];(try simp (disch:=omega) only [zI]);repeat first | intro _ | refine ⟨by omega,?_⟩
     refine hK _ ?_;clear hK K;refine zw (sub_frzP 6 6 [i64 a.at_,bedsR a.beds] (by omega) (by try simp only [go_sem]) (by try simp only [go_sem])) ?_;refine zw (zk [0,3,4,6,19,20,21]) ?_;simp only [go_sem]
     repeat refine zq ?_
     refine zb fun K hK=>?_;simp only [go_sem];(try simp (disch:=omega) only [zI]);repeat first | intro _ | refine ⟨by omega,?_⟩
     refine hK _ ?_;clear hK K;refine zw (zk [0,3,4,6,7,19,20,21]) ?_;simp only [go_sem];refine zw (sub_own 7 42 285 3 (by omega) rfl) ?_
     try simp only [go_sem]
     repeat refine zq ?_
     refine zb fun K hK=>?_;simp only [go_sem];(try simp (disch:=omega) only [zI]);repeat first | intro _ | refine ⟨by omega,?_⟩
     refine hK _ ?_;clear hK K;refine zw (zk [0,3,4,7,19,20,21,26,27,28]) ?_;simp only [go_sem]
     repeat refine zq ?_
     refine zd ?_
     refine awp_upto0 (n:=55) a.beds.length (fun j vs=>[(0,.pt 1000 0 0),(3,.r (.rp [i64 (left : Int),i64 ((n : Int) + 1)])),(4,.os 52 (vs 52) 1 0 i),(7,.os 42 (vs 42) 3 0 j),(19,.r (aimsR r.aims)),(20,.r (i64 r.aims.length)),(21,.r (i64 i)),(26,.r (bedsR a.beds)),(27,.r (i64 a.beds.length)),(28,.r (i64 j))])
      (fun j=>[(42,.arr 285 3 (idx ((chW f a.beds).take j))),(52,.arr 3 1 (((meansV r most f).take i).map fun x=>[i64 x])),(1000,.box (visC r most T (k : Int) (st : Int) 1001 0)),(1001,.mem (memoV r most T k st))]) (fun _=>True) 0 (fit0_of [] (by repeat (first | exact hv | exact lent_zero | refine lent_upd (by omega) ?_)) ?_ ?_) (by omega) trivial ?_
     · try simp only [go_sem]
     · try simp only [go_sem]
     · intro j vs2 hv2 hj _
       have hv0:=hv2 1000 (by omega)
       have hv1:=hv2 1001 (by omega)
       repeat refine zq ?_
       refine zb fun K hK=>?_;simp only [go_sem];(try simp (disch:=omega) only [zI]);repeat first | intro _ | refine ⟨by omega,?_⟩
       refine hK _ ?_;clear hK K;refine zw (zk [0,3,4,7,19,20,21,26,27,28,29]) ?_;simp only [go_sem]
       repeat refine zq ?_
       refine zc rfl (fun hc=>?_) (fun hc=>?_) <;> (try simp only [go_sem] at hc)
       · have hcj:=hc
         obtain ⟨c,hc1⟩:=opt_of_lt hc
         have hbc:=hbd a haM c (mem_of_opt hc1)
         have hnc:=hnx c.b hbc.1 hbc.2
         have htk : (chW f a.beds).take (j + 1) = (chW f a.beds).take j ++ [⟨f c.b,c.lo,c.hi⟩]:=take_of_opt (by simp [chW,hc1])
         have hlj : ((chW f a.beds).take j).length = j:=by rw [List.length_take,hlen]; omega
         refine zx ?_
         try simp only [go_sem]
         repeat refine zq ?_
         refine zd ?_
         repeat refine zq ?_
         refine zb fun K hK=>?_;simp only [go_sem,hc1,hcj,bedR];(try simp (disch:=omega) only [zI]);repeat first | intro _ | refine ⟨by omega,?_⟩
         refine hK _ ?_;clear hK K;refine zw (sub_frzP 9 9 [i64 c.b,i64 c.lo,i64 c.hi] (by omega) (by try simp only [go_sem]) (by try simp only [go_sem])) ?_;simp only [go_sem,bedR];refine zw (zk [0,3,4,7,9,19,20,21,26,27,28]) ?_;simp only [go_sem]
         repeat refine zq ?_
         refine zg follows (by decide +kernel) (by kernel_rfl) fun K hK=>?_;simp only [go_sem,hlj];(try simp (disch:=omega) only [zI])
         refine xcall_keep hnc [(1000,1000),(1001,1001)] rfl (by simp only [go_sem,i64,ints,hv0,hv1]) (by simp only [go_sem,i64,ints,hv0,hv1]) (by rfl) (by rfl) ?_ ?_ ?_
         · intro x hx
           simp only [List.mem_cons,List.not_mem_nil,or_false] at hx
           rcases hx with rfl | rfl
           · try simp only [go_sem]
             simp [hv0,hv1]
           · try simp only [go_sem]
         · intro x hx
           simp only [List.mem_cons,List.not_mem_nil,or_false] at hx
           rcases hx with rfl | rfl
           · left
             simp [AV.nrL,AV.nr,AS.ver,Oc.st,hv0,upd]
           · right
             refine ⟨(1000,1000),by simp,visC r most T (k : Int) (st : Int) 1001 0,?_,by try simp only [go_sem],?_⟩
             · simp [AV.nrL,AV.nr,AS.ver,Oc.st,hv0,upd]
             · simp [AV.nrL,AV.nr,AS.ver,Oc.st,hv1,upd]
         simp only [go_sem,hlj];repeat first | intro _ | refine ⟨by omega,?_⟩
         refine hK _ ?_;clear hK K;refine zw (zk [0,3,4,7,19,20,21,26,27,28]) ?_;simp only [go_sem]
         repeat refine zq ?_
         refine zb fun K hK=>?_;simp only [go_sem];(try simp (disch:=omega) only [zI]);repeat first | intro _ | refine ⟨by omega,?_⟩
         refine hK _ ?_;clear hK K
         try simp only [go_sem]
         refine ⟨by omega,fit0_of [] (by repeat (first | exact hv2 | refine lent_upd (by omega) ?_)) ?_ ?_⟩
         · try simp only [go_sem]
         · try simp only [go_sem]
           rw [htk]
           simp [bedR]
       · have hjl : j = a.beds.length:=by omega
         subst hjl
         have e1 : (chW f a.beds).take a.beds.length = chW f a.beds:=by rw [← hlen,List.take_length]
         rw [e1]
         have hmn:=mean_ok r most T (chW f a.beds) hca
         rw [hlen] at hmn
         have htm : (meansV r most f).take (i + 1) = (meansV r most f).take i ++ [meanD most r.d (chW f a.beds)]:=take_of_opt (by simp [meansV,ha])
         have hli : ((meansV r most f).take i).length = i:=by rw [List.length_take]; simp [meansV]; omega
         refine zf ?_;simp only [go_sem]
         repeat refine zq ?_
         refine zb fun K hK=>?_;simp only [go_sem,hli,hlen];(try simp (disch:=omega) only [zI])
         refine ⟨hv0.symm,hv0.symm,hv0.symm,?_⟩
         refine xcall_mut (hmn) [(1000,42)] rfl (by simp only [go_sem,i64,ints,hli,hlen]) (by simp only [go_sem,i64,ints,hli,hlen]) (by rfl) (by rfl) ?_
         (try simp only [go_sem,hli,hlen]);(try simp (disch:=omega) only [zI]);repeat first | intro _ | refine ⟨by omega,?_⟩
         refine hK _ ?_;clear hK K;refine zw (zk [0,3,4,19,20,21]) ?_;simp only [go_sem]
         repeat refine zq ?_
         refine zb fun K hK=>?_;simp only [go_sem];(try simp (disch:=omega) only [zI]);repeat first | intro _ | refine ⟨by omega,?_⟩
         refine hK _ ?_;clear hK K
         try simp only [go_sem]
         refine ⟨by omega,fit0_of [42] (by repeat (first | exact hv2 | refine lent_upd (by omega) ?_)) ?_ ?_⟩
         · try simp only [go_sem]
         · try simp only [go_sem]
           rw [htm]
           simp
   · have hil : i = r.aims.length:=by omega
     have e1 : (meansV r most f).take i = meansV r most f:=List.take_of_length_le (by simp [meansV]; omega)
     rw [e1]
     have hml : (meansV r most f).length = i:=by simp [meansV,hil]
     refine zf ?_;simp only [go_sem]
     repeat refine zq ?_
     refine zb fun K hK=>?_;simp only [go_sem];(try simp (disch:=omega) only [zI]);repeat first | intro _ | refine ⟨by omega,?_⟩
     refine hK _ ?_;clear hK K;refine zw (zk [4]) ?_;simp only [go_sem];refine zw (sub_frz (ty:=3) (sz:=1) (off:=0) (m:=i) (es:=(meansV r most f).map fun x=>[i64 x]) 4 52 (by omega) (by try simp only [go_sem]) (by try simp only [go_sem]) (by simp [hml])) ?_
     have e2 : (((meansV r most f).map fun x=>[i64 x]).drop 0).take i = (meansV r most f).map fun x=>[i64 x]:=by
      rw [List.drop_zero,List.take_of_length_le (by simp [hml])]
     rw [e2]
     refine zw (zk [4]) ?_;simp only [go_sem];refine ze ?_;simp only [go_sem]
structure AimsG (r : Ru) : Prop where
 ne : r.aims ≠ []
 len : r.aims.length ≤ 1000
 den0 : 1 ≤ r.d
 den1 : r.d ≤ 3000
 beds : ∀ a ∈ r.aims,a.beds.length ≤ 19 ∧ loS a.beds ≤ r.d ∧ ∀ c ∈ a.beds,(0 ≤ c.b ∧ c.b ≤ 499) ∧ 0 ≤ c.lo ∧ c.lo ≤ c.hi ∧ c.hi ≤ 3000
theorem loS_chW (f : Int → Int) (l : List Bd) : loS (chW f l) = loS l:=by simp [loS,chW,Function.comp_def]
theorem AimsG.ch {r : Ru} (h : AimsG r) {f : Int → Int} (hf : ∀ b,0 ≤ b → b ≤ 499 → 0 ≤ f b ∧ f b ≤ 1000000) : ∀ a ∈ r.aims,ChG r.d (chW f a.beds):=fun a ha=>by
 obtain ⟨h1,h2,h3⟩:=h.beds a ha
 refine ⟨by simpa [chW] using h1,h.den0,h.den1,by rw [loS_chW]; exact h2,fun c hc=>?_⟩
 obtain ⟨x,hx,rfl⟩:=List.mem_map.1 hc
 obtain ⟨g1,g2⟩:=h3 x hx
 exact ⟨hf _ g1.1 g1.2,g2⟩
theorem fillG_le {den : Int} : ∀ (l : List Bd) (x : Int × Int),(∀ c ∈ l,(0 ≤ c.b ∧ c.b ≤ 1000000) ∧ c.lo ≤ c.hi) → 0 ≤ x.1 → 0 ≤ x.2 → x.2 ≤ 1000000 * (den - x.1) → 0 ≤ (fillG l x).2 ∧ (fillG l x).2 ≤ 1000000 * den
 | [],x,_,h1,h2,h3=>by simp only [fillG]; omega
 | c :: l, x, h, h1, h2, h3 => by
   obtain ⟨⟨b0,b1⟩,g⟩:=h c (by simp)
   simp only [fillG]
   generalize hm : min x.1 (c.hi - c.lo) = m
   have m0 : 0 ≤ m:=by omega
   have m1 : m ≤ x.1:=by omega
   have p0:=Int.mul_nonneg m0 b0
   have p1 : m * c.b ≤ m * 1000000:=Int.mul_le_mul_of_nonneg_left b1 m0
   exact fillG_le l _ (fun y hy=>h y (by simp [hy])) (by simp only; omega) (by simp only; omega) (by simp only; omega)
theorem loV_lo {l : List Bd} (h : ∀ c ∈ l,(0 ≤ c.b ∧ c.b ≤ 1000000) ∧ 0 ≤ c.lo) : 0 ≤ loV l ∧ loV l ≤ 1000000 * loS l:=by
 induction l with
 | nil=>simp [loV,loS]
 | cons c l ih =>
   obtain ⟨h1,h2⟩:=ih fun x hx=>h x (by simp [hx])
   obtain ⟨⟨b0,b1⟩,g0⟩:=h c (by simp)
   have m0:=Int.mul_nonneg g0 b0
   have m1 : c.lo * c.b ≤ c.lo * 1000000:=Int.mul_le_mul_of_nonneg_left b1 g0
   simp only [loV,loS,List.map_cons,List.sum_cons] at h1 h2 ⊢
   omega
theorem meanD_le {most : Bool} {den : Int} {l : List Bd} (h : ChG den l) : 0 ≤ meanD most den l ∧ meanD most den l ≤ 1000000:=by
 have hp:=sortN_perm (ltD most) l
 have hS : ∀ c ∈ sortN (ltD most) l,(0 ≤ c.b ∧ c.b ≤ 1000000) ∧ 0 ≤ c.lo ∧ c.lo ≤ c.hi ∧ c.hi ≤ 3000:=fun c hc=>h.each c (hp.mem_iff.1 hc)
 have hlo : loS (sortN (ltD most) l) = loS l:=perm_sum hp
 have hlow:=h.low
 obtain ⟨v0,v1⟩:=loV_lo (l:=sortN (ltD most) l) fun c hc=>⟨(hS c hc).1,(hS c hc).2.1⟩
 unfold meanD
 obtain ⟨f0,f1⟩:=fillG_le (den:=den) (sortN (ltD most) l) (den - loS (sortN (ltD most) l),loV (sortN (ltD most) l)) (fun c hc=>⟨(hS c hc).1,(hS c hc).2.2.1⟩) (by simp only; omega) (by simp only; omega) (by simp only; omega)
 exact overD_le f0 h.den0 f1
theorem foldl_max_le {l : List Int} {m : Int} : ∀ {x : Int},(0 ≤ x ∧ x ≤ m) → (∀ y ∈ l,0 ≤ y ∧ y ≤ m) → 0 ≤ l.foldl max x ∧ l.foldl max x ≤ m:=by
 induction l with
 | nil=>intro x h _; exact h
 | cons y l ih =>
   intro x h hl
   have:=hl y (by simp)
   exact ih (x:=max x y) (by omega) fun z hz=>hl z (by simp [hz])
theorem maxL_le {l : List Int} {m : Int} (h : l ≠ []) (hl : ∀ y ∈ l,0 ≤ y ∧ y ≤ m) : 0 ≤ maxL l ∧ maxL l ≤ m:=by
 unfold maxL
 refine foldl_max_le ?_ hl
 cases l with
 | nil=>exact absurd rfl h
 | cons x l=>exact hl x (by simp)
theorem after_le {r : Ru} {T : List (List Int)} {k st : Nat} (h : VisG r T k st) (most : Bool) {left : Nat} (hl : (left : Int) ≤ r.start) : 0 ≤ afterD r most T k left ∧ afterD r most T k left ≤ 1000000:=by
 unfold afterD
 split
 · omega
 · rename_i hk
   obtain ⟨row,v,hv⟩:=h.tab left hl
   obtain ⟨t1,t2,t3,t4⟩:=hv (by have:=h.kk; omega)
   obtain ⟨e,hek⟩:=opt_of_lt h.kk
   obtain ⟨g1,g2,g3⟩:=endOk_le (h.ends e (mem_of_opt hek))
   have e1 : ((T.getD (k + 1) []).getD left 0) = v:=by simp [List.getD_eq_getElem?_getD,t1,t2]
   have e2 : r.ends.getD k (0,0) = e:=by simp [List.getD_eq_getElem?_getD,hek]
   rw [e1,e2]
   have q : 0 ≤ endsD most e ∧ endsD most e ≤ 1000000:=by unfold endsD; split <;> omega
   exact overD_le (Int.mul_nonneg t3 (by omega)) (by omega) (Int.mul_le_mul t4 (by omega) (by omega) (by omega))
theorem nextV_le {r : Ru} {most : Bool} {T : List (List Int)} {k st left : Nat} {val : Nat → Int} {last : Bool} {b : Int} (h : VisG r T k st) (hl : (left : Int) ≤ r.start) (b0 : 0 ≤ b) (b1 : b ≤ 499) (hv : last = false → ∀ x : Nat,(x : Int) ≤ r.start → 0 ≤ val x ∧ val x ≤ 1000000) :
 0 ≤ nextV r most T k st val last left b ∧ nextV r most T k st val last left b ≤ 1000000:=by
 obtain ⟨s0,s1⟩:=score_le b0 b1
 unfold nextV
 split
 · omega
 · split
   · exact after_le h most h.st40
   · split
     · exact after_le h most (by omega)
     · rename_i hn
       exact hv (by simpa using hn) _ (by omega)
theorem valV_le {r : Ru} {most : Bool} {T : List (List Int)} {k st : Nat} (h : VisG r T k st) (ha : AimsG r) : ∀ n left : Nat,(left : Int) ≤ r.start → 0 ≤ valV r most T k st n left ∧ valV r most T k st n left ≤ 1000000
 | 0,_,_=>by simp only [valV]; omega
 | n + 1, left, hl => by
   simp only [valV]
   refine maxL_le (by simpa [meansV] using ha.ne) fun y hy=>?_
   obtain ⟨a,haM,rfl⟩:=List.mem_map.1 hy
   exact meanD_le (ha.ch (fun b b0 b1=>nextV_le h hl b0 b1 fun _ x hx=>valV_le h ha n x hx) a haM)
theorem vis_ok {r : Ru} (most : Bool) {T : List (List Int)} {k st : Nat} (h : VisG r T k st) (ha : AimsG r) : ∀ n left : Nat,n ≤ 100 → 1 ≤ left → (left : Int) ≤ r.start →
 MCalls Try.prog 180 (visL r most T k st) (visL r most T k st) [.pt 1000 0 0,.r (.ag [i64 (left : Int),i64 ((n + 1 : Nat) : Int)])] (.r (i64 (valV r most T k st (n + 1) left)))
 | n, left, hn, hl1, hl => by
   have h40:=h.s40
   have hl40 : left ≤ 40:=by omega
   refine value_ok r most T k st n left hn hl40 ha.ne ha.len ?_
   have e : (((n + 1 : Nat)) : Int) = (n : Int) + 1:=by omega
   rw [e]
   refine means_ok r most T k st n left _ hn hl40 ha.len (ha.ch fun b b0 b1=>nextV_le h hl b0 b1 fun _ x hx=>valV_le h ha n x hx) (fun a haM c hc=>((ha.beds a haM).2.2 c hc).1) fun b b0 b1=>?_
   refine next_ok r most T k st n left b h hl1 hl hn b0 b1 fun hn0 left' h1 h2=>?_
   match n,hn0 with
   | m + 1,_=>exact vis_ok most h ha m left' (by omega) h1 h2
theorem relV_of_map {w : World} {p : Plan} {ver : Nat → Nat} : ∀ {xs : List RV} {vs : List Value},AV.relV w p ver (xs.map .r) vs → RV.relV w p.R xs vs
 | [],_,h=>by simp only [List.map_nil,AV.relV] at h; simp only [RV.relV]; exact h
 | x :: xs, _, h => by
   simp only [List.map_cons,AV.relV,AV.rel] at h
   obtain ⟨u,us,e,h1,h2⟩:=h
   simp only [RV.relV];exact ⟨u,us,e,h1,relV_of_map h2⟩
theorem mcalls_ag {P : Program} {f : FuncId} {L L' : List (Nat × RowC)} {a : AV} {xs : List RV} {r : AV} (h : MCalls P f L L' [a,.r (.ag xs)] r) : MCalls P f L L' [a,.ag (xs.map .r)] r :=
 ⟨h.1,fun w p vs hp h1 h2 h3 h4 h5 h6=>h.2 w p vs hp h1 h2 h3 h4 h5 (by
  simp only [AV.relV] at h6 ⊢
  obtain ⟨u,us,e,g1,u2,us2,e2,g2,g3⟩:=h6
  refine ⟨u,us,e,g1,u2,us2,e2,?_,g3⟩
  simp only [AV.rel] at g2
  simp only [AV.rel,RV.rel]
  obtain ⟨vs,q1,q2,q3⟩:=g2
  exact ⟨vs,q1,q2,relV_of_map q3⟩)⟩
theorem whole_ok {r : Ru} (most : Bool) {T : List (List Int)} {k st : Nat} (h : VisG r T k st) (ha : AimsG r) (h1 : 1 ≤ st) : ACalls Try.prog 159 [sideP r most T,i64 (k : Int),i64 (st : Int)] (i64 (valV r most T k st 3 st)):=by
 have hnew:=newVisit_ok r most T (k : Int) (st : Int)
 have hval:=vis_ok most h ha 2 st (by omega) h1 h.st40
 refine acalls_st (rs:=[i64 (valV r most T k st 3 st)]) [.tmp 6] Try.func159 rfl (by kernel_rfl) Try.ntmps159 rfl (by simp) rfl fun C vs=>?_
 repeat refine zq ?_
 refine zb fun K hK=>?_;simp only [go_sem];(try simp (disch:=omega) only [zI]);repeat first | intro _ | refine ⟨by omega,?_⟩
 refine hK _ ?_;clear hK K;refine zw (zk [0,1,2]) ?_;simp only [go_sem]
 repeat refine zq ?_
 refine awp_long ?_
 refine sops_take 4 (by kernel_rfl) fun K hK=>?_
 simp only [go_sem,List.take_succ_cons,List.take_zero,List.drop_succ_cons,List.drop_zero,List.append_eq,List.cons_append,List.nil_append];(try simp (disch:=omega) only [zI])
 refine xcall_new hnew [(12,30),(10,31)] rfl (by rfl) (by rfl) (by rfl) (by rfl) (by rfl) ?_
 simp only [go_sem,idK,backA,backC,backL,pinOf,lendKey];repeat first | intro _ | refine ⟨by omega,?_⟩
 refine hK _ rfl ?_
 clear hK K
 refine sops_sub (sub_shutM (memoV r most T k st) 31 (by rfl) (fun e he=>by cases he)) ?_
 try simp only [go_sem]
 refine sops_end (by kernel_rfl) fun K hK=>?_
 simp only [go_sem,List.drop_succ_cons,List.drop_zero,List.append_eq,List.cons_append,List.nil_append];(try simp (disch:=omega) only [zI])
 refine xcall_mut (mcalls_ag hval) [(1000,30),(1001,31)] rfl (by simp only [go_sem,i64,ints]) (by simp only [go_sem,i64,ints]) (by rfl) (by rfl) ?_
 (try simp only [go_sem]);(try simp (disch:=omega) only [zI]);repeat first | intro _ | refine ⟨by omega,?_⟩
 refine hK _ ?_;clear hK K;refine zw (zk [6]) ?_;simp only [go_sem];refine ze ?_;simp only [go_sem]
def rowV (r : Ru) (most : Bool) (T : List (List Int)) (k : Nat) : List Int:=(List.range (r.start.toNat + 1)).map fun x : Nat=>if (x : Int) < lowestR r then 0 else valV r most T k x 3 x
def tabI (r : Ru) (most : Bool) : Nat → List (List Int)
 | 0=>List.replicate r.ends.length []
 | i + 1=>(tabI r most i).set (r.ends.length - 1 - i) (rowV r most (tabI r most i) (r.ends.length - 1 - i))
theorem tabI_len (r : Ru) (most : Bool) : ∀ i,(tabI r most i).length = r.ends.length
 | 0=>by simp [tabI]
 | i + 1=>by simp only [tabI,List.length_set]; exact tabI_len r most i
structure RuG (r : Ru) : Prop where
 aims : AimsG r
 e1 : 1 ≤ r.ends.length
 h10 : r.ends.length ≤ 10
 ends : ∀ x ∈ r.ends,endOk x = true
 s2 : 2 ≤ r.start
 s40 : r.start ≤ 40
theorem rowV_get (r : Ru) (most : Bool) (T : List (List Int)) (k left : Nat) (h : (left : Int) ≤ r.start) : (rowV r most T k)[left]? = some (if (left : Int) < lowestR r then 0 else valV r most T k left 3 left):=by
 unfold rowV
 rw [List.getElem?_map,List.getElem?_range (by omega)]
 rfl
theorem vis_at {r : Ru} (h : RuG r) (most : Bool) : ∀ i,i < r.ends.length → ∀ st : Nat,(st : Int) ≤ r.start → VisG r (tabI r most i) (r.ends.length - 1 - i) st
 | i, hi, st, hst => by
   refine ⟨by omega,h.h10,h.ends,hst,h.s40,fun left hl=>?_⟩
   cases i with
   | zero=>exact ⟨[],0,fun hk=>by omega⟩
   | succ i =>
     refine ⟨rowV r most (tabI r most i) (r.ends.length - 1 - i),_,fun hk=>⟨?_,rowV_get _ _ _ _ _ hl,?_⟩⟩
     · rw [show r.ends.length - 1 - (i + 1) + 1 = r.ends.length - 1 - i by omega]
       simp only [tabI]
       rw [List.getElem?_set_self (by rw [tabI_len]; omega)]
     · split
       · omega
       · have:=valV_le (most:=most) (vis_at h most i (by omega) left hl) h.aims 3 left hl
         exact this
theorem rowV_ne (r : Ru) (most : Bool) (T : List (List Int)) (k : Nat) : rowV r most T k ≠ []:=by simp [rowV]
theorem tabI_get (r : Ru) (most : Bool) : ∀ i,i ≤ r.ends.length → ∀ j,r.ends.length - i ≤ j → j < r.ends.length → (tabI r most i)[j]? = some (rowV r most (tabI r most (r.ends.length - 1 - j)) j)
 | 0,_,j,h1,h2=>by omega
 | i + 1, hi, j, h1, h2 => by
   simp only [tabI]
   by_cases e : j = r.ends.length - 1 - i
   · subst e
     rw [List.getElem?_set_self (by rw [tabI_len]; omega),show r.ends.length - 1 - (r.ends.length - 1 - i) = i by omega]
   · rw [List.getElem?_set_ne (by omega)]
     exact tabI_get r most i (by omega) j (by omega) h2
theorem tab_ne (r : Ru) (most : Bool) : ∀ row ∈ tabI r most r.ends.length,row ≠ []:=fun row hr=>by
 obtain ⟨j,hj⟩:=List.getElem?_of_mem hr
 have hl:=(List.getElem?_eq_some_iff.1 hj).1
 rw [tabI_len] at hl
 rw [tabI_get r most _ (Nat.le_refl _) j (by omega) hl] at hj
 injection hj with hj
 rw [← hj]
 exact rowV_ne _ _ _ _
abbrev sideA (r : Ru) (most : Bool) (t : AV) : List AV:=[.r (i64 r.d),.r (aimsR r.aims),.r (i64 r.start),.r (i64 r.out),.r (spansR r.ends),.r (.bo most),t]
def cellT (l : List Int) : RV:=if l = [] then .ns else ints l
theorem acalls_weak {P : Program} {f : FuncId} {xs ys : List RV} {r : RV} (h : ACalls P f ys r) (hs : ∀ (w : World) (R : Nat → Prop) vs,RV.relV w R xs vs → RV.relV w R ys vs) : ACalls P f xs r :=
 ⟨h.1,fun w R vs h1 h2=>h.2 w R vs h1 (hs w R _ h2)⟩
theorem cellT_rel {w : World} {R : Nat → Prop} {l : List Int} {v : Value} (h : (cellT l).rel w R v) : (ints l).rel w R v:=by
 unfold cellT at h
 split at h
 · rename_i e
   subst e
   simp only [RV.rel] at h ⊢
   obtain ⟨A,e⟩:=h
   exact ⟨A,0,e,by simp,Nat.zero_le _,fun hn=>absurd rfl hn⟩
 · exact h
theorem cellsT_rel {w : World} {R : Nat → Prop} : ∀ (T : List (List Int)) (ad : Addr) (j : Nat),RV.relE w R 1 (T.map fun row=>[cellT row]) ad j → RV.relE w R 1 (T.map fun row=>[ints row]) ad j
 | [],_,_,h=>h
 | l :: T, ad, j, h => by
   simp only [List.map_cons,RV.relE,RV.relC] at h ⊢
   obtain ⟨_,⟨⟨u,h1,h2,h3⟩,_⟩,h4⟩:=h
   exact ⟨rfl,⟨⟨u,h1,h2,cellT_rel h3⟩,trivial⟩,cellsT_rel T ad (j + 1) h4⟩
theorem tabT_rel {w : World} {R : Nat → Prop} {T : List (List Int)} {v : Value} (h : (RV.sl 1 (T.map fun row=>[cellT row])).rel w R v) : (tabR T).rel w R v:=by
 simp only [RV.rel,List.length_map] at h ⊢
 obtain ⟨A,c,h1,h2,h3,h4⟩:=h
 refine ⟨A,c,h1,h2,h3,fun hn=>?_⟩
 obtain ⟨ad,g1,g2,g3⟩:=h4 (by cases T <;> simp_all)
 exact ⟨ad,g1,g2,cellsT_rel _ _ _ g3⟩
theorem whole_ns {r : Ru} {most : Bool} {T : List (List Int)} {x y v : RV} (h : ACalls Try.prog 159 [sideP r most T,x,y] v) :
 ACalls Try.prog 159 [.rp [i64 r.d,aimsR r.aims,i64 r.start,i64 r.out,spansR r.ends,.bo most,.sl 1 (T.map fun row=>[cellT row])],x,y] v:=acalls_weak h fun w R vs hv=>by
 simp only [RV.relV] at hv ⊢
 obtain ⟨u,us,e1,hu,h3⟩:=hv
 refine ⟨u,us,e1,?_,h3⟩
 simp only [RV.rel] at hu ⊢
 obtain ⟨ad,e2,h1,h2⟩:=hu
 refine ⟨ad,e2,h1,?_⟩
 simp only [RV.relC] at h2 ⊢
 obtain ⟨c1,c2,c3,c4,c5,c6,⟨u7,c7,c8,c9⟩,_⟩:=h2
 exact ⟨c1,c2,c3,c4,c5,c6,⟨u7,c7,c8,tabT_rel c9⟩,trivial⟩
def rowP (r : Ru) (most : Bool) (T : List (List Int)) (k j : Nat) : List Int:=(List.range (r.start.toNat + 1)).map fun x : Nat=>if (x : Int) < lowestR r then 0 else if x < j then valV r most T k x 3 x else 0
theorem rowP_zero (r : Ru) (most : Bool) (T : List (List Int)) (k : Nat) : rowP r most T k (lowestR r).toNat = List.replicate (r.start.toNat + 1) 0:=by
 refine List.ext_getElem (by simp [rowP]) fun x h1 h2=>?_
 simp only [rowP,List.getElem_map,List.getElem_range,List.getElem_replicate]
 split
 · rfl
 · rw [if_neg (by omega)]
theorem rowP_end (r : Ru) (most : Bool) (T : List (List Int)) (k : Nat) : rowP r most T k (r.start.toNat + 1) = rowV r most T k:=by
 refine List.ext_getElem (by simp [rowP,rowV]) fun x h1 h2=>?_
 simp only [rowP,rowV,List.getElem_map,List.getElem_range]
 simp only [rowP,List.length_map,List.length_range] at h1
 rw [if_pos h1]
theorem rowP_set (r : Ru) (most : Bool) (T : List (List Int)) (k j : Nat) (hj : lowestR r ≤ j) (hs : (j : Int) ≤ r.start) : (rowP r most T k j).set j (valV r most T k j 3 j) = rowP r most T k (j + 1):=by
 refine List.ext_getElem (by simp [rowP]) fun x h1 h2=>?_
 simp only [rowP,List.getElem_set,List.getElem_map,List.getElem_range]
 by_cases e : j = x
 · subst e
   rw [if_pos rfl,if_neg (by omega),if_pos (by omega)]
 · rw [if_neg e]
   split
   · rfl
   · by_cases e2 : x < j
     · rw [if_pos e2,if_pos (by omega)]
     · rw [if_neg e2,if_neg (by omega)]
theorem rowP_len (r : Ru) (most : Bool) (T : List (List Int)) (k j : Nat) : (rowP r most T k j).length = r.start.toNat + 1:=by simp [rowP]
theorem fill_ok {r : Ru} (h : RuG r) (most : Bool) :
 MCalls Try.prog 89 [(1000,.box (sideA r most (.r .ns)))] [(1000,.box (sideA r most (.r (tabR (tabI r most r.ends.length)))))] [.pt 1000 0 0] (.tu []):=by
 have h10:=h.h10
 refine mcalls_st (n:=72) (rs:=[]) _ _ [] Try.func89 rfl (by kernel_rfl) Try.ntmps89 rfl (by simp) rfl rfl fun C=>?_
 repeat refine zq ?_
 refine zb fun K hK=>?_;simp only [go_sem];(try simp (disch:=omega) only [zI]);repeat first | intro _ | refine ⟨by omega,?_⟩
 repeat first | intro _ | refine ⟨by omega,?_⟩
 refine hK _ ?_;clear hK K;refine zw (zk [0]) ?_;simp only [go_sem]
 repeat refine zq ?_
 refine zb fun K hK=>?_;simp only [go_sem];(try simp (disch:=omega) only [zI]);repeat first | intro _ | refine ⟨by omega,?_⟩
 refine hK _ ?_;clear hK K;refine zw (zk [0,23,24]) ?_;simp only [go_sem]
 repeat refine zq ?_
 refine zd ?_
 refine awp_uptoV (n:=72) r.ends.length (fun i vs=>[(0,.pt 1000 (vs 1000) 0),(23,.r (i64 r.ends.length)),(24,.r (i64 i))])
  (fun i vs=>[(14,.arr 41 1 ((tabI r most i).map fun row=>[cellT row])),(1000,.box (sideA r most (.os 14 (vs 14) 1 0 r.ends.length)))]) (fun _=>True) 0 (zj [] ?_ ?_) (Nat.zero_le _) trivial ?_
 · try simp only [go_sem]
 · try simp only [go_sem]
   simp [tabI,cellT]
 · intro i vs hi _
   repeat refine zq ?_
   refine zb fun K hK=>?_;simp only [go_sem];(try simp (disch:=omega) only [zI]);repeat first | intro _ | refine ⟨by omega,?_⟩
   refine hK _ ?_;clear hK K;refine zw (zk [0,23,24,25]) ?_;simp only [go_sem]
   repeat refine zq ?_
   refine zc rfl (fun hc=>?_) (fun hc=>?_) <;> (try simp only [go_sem] at hc)
   · have hci:=hc
     have hla:=last_ok r (by omega)
     have hlo:=dlowest_ok r
     have hk : IntKind.i64.wrap ((r.ends.length : Int) - 1 - i) = ((r.ends.length - 1 - i : Nat) : Int):=by rw [zI] <;> omega
     refine zx ?_
     try simp only [go_sem]
     repeat refine zq ?_
     refine zd ?_
     repeat refine zq ?_
     refine zb fun K hK=>?_;simp only [go_sem];(try simp (disch:=omega) only [zI]);repeat first | intro _ | refine ⟨by omega,?_⟩
     refine hK _ ?_;clear hK K;refine zw (zk [0,2,23,24]) ?_;simp only [go_sem]
     repeat refine zq ?_
     refine zb fun K hK=>?_;simp only [go_sem,hk];(try simp (disch:=omega) only [zI])
     refine zh (hla) rfl (by simp only [go_sem,i64,ints,hk]) (by simp only [go_sem,i64,ints,hk]) (by first | exact .inl rfl | exact .inr rfl) ?_
     (try simp only [go_sem,hk]);(try simp (disch:=omega) only [zI]);repeat first | intro _ | refine ⟨by omega,?_⟩
     refine hK _ ?_;clear hK K;refine zw (zk [0,3,23,24]) ?_;simp only [go_sem]
     have hs2:=h.s2
     have hs40:=h.s40
     have hw1 : IntKind.i64.wrap (r.start + 1) = r.start + 1:=by rw [zI] <;> omega
     repeat refine zq ?_
     refine zb fun K hK=>?_;simp only [go_sem,hw1];(try simp (disch:=omega) only [zI])
     refine ⟨by omega,?_⟩
     repeat first | intro _ | refine ⟨by omega,?_⟩
     refine hK _ ?_;clear hK K;refine zw (zk [0,3,4,23,24]) ?_;simp only [go_sem]
     repeat refine zq ?_
     refine zb fun K hK=>?_;simp only [go_sem];(try simp (disch:=omega) only [zI])
     refine zh (hlo) rfl (by simp only [go_sem,i64,ints]) (by simp only [go_sem,i64,ints]) (by first | exact .inl rfl | exact .inr rfl) ?_
     (try simp only [go_sem]);(try simp (disch:=omega) only [zI]);repeat first | intro _ | refine ⟨by omega,?_⟩
     refine hK _ ?_;clear hK K;refine zw (zk [0,3,4,5,23,24]) ?_;simp only [go_sem]
     repeat refine zq ?_
     refine zd ?_
     generalize hT : tabI r most i = T
     have hTl : T.length = r.ends.length:=by rw [← hT]; exact tabI_len r most i
     have hvis : ∀ st : Nat,(st : Int) ≤ r.start → VisG r T (r.ends.length - 1 - i) st:=fun st hst=>by rw [← hT]; exact vis_at h most i hci st hst
     generalize hkk : r.ends.length - 1 - i = k at *
     have hst1 : (r.start + 1).toNat = r.start.toNat + 1:=by omega
     have hlow : lowestR r = 1 ∨ lowestR r = 2:=by unfold lowestR; split <;> simp
     refine awp_uptoV (n:=72) (r.start.toNat + 1) (fun j vs=>[(0,.pt 1000 (vs 1000) 0),(3,.r (i64 (k : Int))),(4,.os 41 (vs 41) 1 0 (r.start.toNat + 1)),(5,.r (i64 (j : Int))),(23,.r (i64 r.ends.length)),(24,.r (i64 i))])
      (fun j vs=>[(14,.arr 41 1 (T.map fun row=>[cellT row])),(41,.arr 3 1 ((rowP r most T k j).map fun v=>[i64 v])),(1000,.box (sideA r most (.os 14 (vs 14) 1 0 r.ends.length)))]) (fun j=>lowestR r ≤ j) (lowestR r).toNat (zj [] ?_ ?_) (by omega) (by omega) ?_
     · simp only [go_sem,hk,hw1,hst1]
       omega
     · simp only [go_sem,hw1,hst1];rw [rowP_zero]
       simp only [List.map_replicate,List.replicate_succ,List.map_cons]
     · intro j vs hj hjl
       have hpl:=rowP_len r most T k j
       repeat refine zq ?_
       refine zb fun K hK=>?_;simp only [go_sem];(try simp (disch:=omega) only [zI]);repeat first | intro _ | refine ⟨by omega,?_⟩
       refine hK _ ?_;clear hK K;refine zw (zk [0,3,4,5,23,24,54]) ?_;simp only [go_sem]
       repeat refine zq ?_
       refine zc rfl (fun hc=>?_) (fun hc=>?_) <;> (try simp only [go_sem] at hc)
       · have hcj : (j : Int) ≤ r.start:=by omega
         obtain ⟨w0,hw0⟩:=opt_of_lt (show j < (rowP r most T k j).length by rw [hpl]; omega)
         have htk : List.take r.ends.length (T.map fun row=>[cellT row]) = T.map fun row=>[cellT row]:=List.take_of_length_le (by simp [hTl])
         have hw:=whole_ns (whole_ok most (hvis j hcj) h.aims (by omega))
         refine zx ?_
         try simp only [go_sem]
         repeat refine zq ?_
         refine zd ?_
         repeat refine zq ?_
         refine zb fun K hK=>?_;simp only [go_sem,hTl,htk,hpl];(try simp (disch:=omega) only [zI])
         refine zh (hw) rfl (by simp only [go_sem,i64,ints,hTl,htk,hpl]) (by simp only [go_sem,i64,ints,hTl,htk,hpl]) (by first | exact .inl rfl | exact .inr rfl) ?_
         (try simp only [go_sem,hTl,htk,hpl]);(try simp (disch:=omega) only [zI]);repeat first | intro _ | refine ⟨by omega,?_⟩
         refine hK _ ?_;clear hK K;refine zw (zk [0,3,4,5,23,24]) ?_;simp only [go_sem]
         repeat refine zq ?_
         refine zb fun K hK=>?_;simp only [go_sem];(try simp (disch:=omega) only [zI]);repeat first | intro _ | refine ⟨by omega,?_⟩
         refine hK _ ?_;clear hK K
         try simp only [go_sem]
         refine ⟨by omega,by omega,zj [] ?_ ?_⟩
         · try simp only [go_sem]
         · simp only [go_sem,hw0];rw [← rowP_set r most T k j hjl hcj,List.map_set]
       · have hje : j = r.start.toNat + 1:=by omega
         subst hje
         rw [rowP_end] at hpl ⊢
         refine zf ?_;simp only [go_sem];refine zw (sub_frz (ty:=3) (sz:=1) (off:=0) (m:=r.start.toNat + 1) (es:=(rowV r most T k).map fun v=>[i64 v]) 4 41 (by omega) (by try simp only [go_sem]) (by try simp only [go_sem]) (by simp [hpl])) ?_
         have e2 : (((rowV r most T k).map fun v=>[i64 v]).drop 0).take (r.start.toNat + 1) = (rowV r most T k).map fun v=>[i64 v]:=by
          rw [List.drop_zero,List.take_of_length_le (by simp [hpl])]
         rw [e2]
         refine zw (zk [0,3,4,23,24]) ?_;simp only [go_sem]
         have hkT : k < T.length:=by omega
         have hkr : k < r.ends.length:=by omega
         obtain ⟨w0,hw0⟩:=opt_of_lt hkT
         repeat refine zq ?_
         refine zb fun K hK=>?_;simp only [go_sem,hkT,hkr,hw0];(try simp (disch:=omega) only [zI]);repeat first | intro _ | refine ⟨by omega,?_⟩
         refine hK _ ?_;clear hK K;refine zw (zk [0,23,24]) ?_;simp only [go_sem]
         repeat refine zq ?_
         refine zb fun K hK=>?_;simp only [go_sem];(try simp (disch:=omega) only [zI]);repeat first | intro _ | refine ⟨by omega,?_⟩
         refine hK _ ?_;clear hK K
         try simp only [go_sem]
         refine ⟨by omega,zj [] ?_ ?_⟩
         · try simp only [go_sem]
         · try simp only [go_sem]
           have e3 : tabI r most (i + 1) = T.set k (rowV r most T k):=by simp only [tabI,hT,hkk]
           rw [e3,List.map_set]
           simp only [cellT,if_neg (rowV_ne r most T k)]
           done
   · have hil : i = r.ends.length:=by omega
     subst hil
     refine zf ?_;simp only [go_sem]
     try simp only [go_sem]
     refine ⟨by rw [tabI_len]; exact Nat.le_refl _,?_⟩
     rw [List.take_of_length_le (by rw [List.length_map,tabI_len]; exact Nat.le_refl _)]
     have : (tabI r most r.ends.length).map (fun row=>[cellT row]) = (tabI r most r.ends.length).map fun row=>[ints row] :=
      List.map_congr_left fun row hr=>by rw [cellT,if_neg (tab_ne r most row hr)]
     rw [this]
end Go.Proofs.Ytlljkgiomkmjbaa.Du

namespace Go.Oc
open Go Go.RowKit
set_option linter.unusedVariables false
set_option linter.unusedSimpArgs false
def sLitBox (P : Program) (s : AS) (d : Nat) (t : TypeId) (len : Nat) (parts : List (Nat × AV)) : Res :=
 match tyq P t with
 | some ⟨.slice e esz _ ez, _, _, _⟩ =>
   if len = 0 then .bad else
   match lay s.ver (fun i=>some (i * esz,esz)) ((List.replicate len ez).flatten.map .r) parts with
   | some cs=>⟨0 < esz ∧ len * esz ≤ 16777216 ∧ d < 1000,True,⟨.os d ((s.rows d).ver + 1) esz 0 len,[(d,⟨(s.rows d).ver + 1,.ara e esz cs⟩)]⟩⟩
   | none=>.bad
 | _=>.bad
section
variable {P : Program} {C : Ctx} {p : Plan} {s : AS} {a : Act} {w : World} {o : Oper}
theorem relV_map_r {ver : Nat → Nat} : ∀ {xs : List RV} {vs : List Value},RV.relV w p.R xs vs → AV.relV w p ver (xs.map .r) vs
 | [],vs,h=>by simp only [RV.relV] at h; simp only [List.map_nil,AV.relV]; exact h
 | x :: xs, vs, h => by
   simp only [RV.relV] at h
   obtain ⟨u,us,e,h1,h2⟩:=h
   simp only [List.map_cons,AV.relV,AV.rel];exact ⟨u,us,e,h1,relV_map_r h2⟩
variable {Q : Exit → AS → Prop} {ops : Array Oper}
end
theorem sub_freezePB (s : AS) (kb i k v : Nat) {cells : List AV} {rs : List RV} (hk0 : k < 1000) (hne : kb ≠ k) (hbox : (s.rows kb).c = .box cells) (hi : cells[i]? = some (.pt k v 0)) (hv : v = s.ver k)
 (hc : (s.rows k).c = .box (rs.map .r)) :
 Sub s { s with rows:=upd (upd s.rows k ⟨(s.rows k).ver + 1,.dead⟩) kb ⟨(s.rows kb).ver,.box (cells.set i (.r (.rp rs)))⟩ }:=fun C a w ⟨p,hp⟩=>by
 have h1:=hp.reRow (w':=w) k hk0 .dead rfl none 1 (by simp [maxLen]) rfl rfl rfl (Nat.le_refl _) (fun _ _ _=>rfl) (fun _ h=>by cases h) (fun p' ver' _ hβ hγ _=>by simp only [rowRel]; exact ⟨hβ,hγ⟩)
 have hr:=hp.rw kb
 rw [hbox] at hr
 simp only [rowRel] at hr
 obtain ⟨b,cs,t,g1,g2,g3,g4⟩:=hr
 obtain ⟨u,hu,hval⟩:=AV.relV_get g3 hi
 have hq:=hp.rw k
 rw [hc] at hq
 simp only [rowRel] at hq
 obtain ⟨bk,ck,tk,k1,k2,k3,k4⟩:=hq
 simp only [AV.rel] at hval
 obtain ⟨bk',e1,e2⟩:=hval.2 hv
 rw [k1] at e1
 injection e1 with e1
 subst e1
 obtain ⟨q1,_,q2⟩:=hp.bl k bk k1
 have h2:=h1.publish (b:=bk) q1 (q2.imp id fun h=>h.resolve_left (fun h=>by omega)) (fun j hj=>by
  have hj' : upd p.β k none j = some bk:=hj
  by_cases e : j = k
  · subst e; rw [upd_same] at hj'; cases hj'
  · rw [upd_other _ _ e] at hj'; exact e (hp.ij j k bk hj' k1)) (hp.ex.publish k1)
 have hr2:=h2.rw kb
 rw [show (upd s.rows k ⟨(s.rows k).ver + 1,.dead⟩ kb).c = .box cells by rw [upd_other _ _ hne]; exact hbox] at hr2
 simp only [rowRel] at hr2
 obtain ⟨b',cs',t',f1,f2,f3,f4⟩:=hr2
 have eb : b' = b:=by
  rw [show (upd p.β k none) kb = p.β kb from upd_other _ _ hne,g1] at f1
  injection f1 with e; exact e.symm
 subst eb
 rw [g2] at f2
 injection f2 with e
 injection e with e1 e2' e3
 subst e1
 have:=h2.setRow (w':=w) kb (.box (cells.set i (.r (.rp rs))))
  (by rw [show (upd s.rows k ⟨(s.rows k).ver + 1,.dead⟩ kb).c = .box cells by rw [upd_other _ _ hne]; exact hbox]; rfl) (fun _ _ _ _ h=>by cases h) f1 rfl rfl rfl rfl (fun _ _=>rfl) (fun _=>by
   simp only [rowRel]
   refine ⟨b',cs,t',f1,by rw [g2,e2'],relV_set f3 (fun u' hu'=>?_),f4⟩
   rw [hu] at hu'
   injection hu' with e
   subst e
   simp only [AV.rel,RV.rel]
   refine ⟨_,e2,.inr rfl,?_⟩
   exact relC_plain (fun _ h=>.inl h) k2 k4 _ _ _ (fun i u h=>by simpa using h) k3)
 rw [show (upd s.rows k ⟨(s.rows k).ver + 1,.dead⟩ kb).ver = (s.rows kb).ver by rw [upd_other _ _ hne]] at this
 exact ⟨_,this⟩
section
variable {n : Nat} {l : List (Nat × AV)} {vs : Nat → Nat} {cs : List (Nat × RowC)}
theorem sub_frzPB (kb i k : Nat) (rs : List RV) {cells : List AV} (hk0 : k < 1000) (hne : kb ≠ k) (hb : lookc cs kb = .box cells) (hi : cells[i]? = some (.pt k (vs k) 0)) (hc : lookc cs k = .box (rs.map .r)) :
 Sub (st n l vs cs) (st n l (upd vs k (vs k + 1)) (insc (delc cs k) kb (.box (cells.set i (.r (.rp rs)))))):=by
 have:=sub_freezePB (st n l vs cs) kb i k (vs k) hk0 hne hb hi rfl hc
 have e : ({ st n l vs cs with rows:=upd (upd (st n l vs cs).rows k ⟨((st n l vs cs).rows k).ver + 1,.dead⟩) kb ⟨((st n l vs cs).rows kb).ver,.box (cells.set i (.r (.rp rs)))⟩ } : AS)
  = st n l (upd vs k (vs k + 1)) (insc (delc cs k) kb (.box (cells.set i (.r (.rp rs))))):=by
  simp only [st,AS.mk.injEq,true_and]
  funext j
  rw [lookc_insc,lookc_delc]
  unfold upd
  split
  · rename_i e; subst e; rw [if_neg hne]
  · split <;> rfl
 rwa [e] at this
end
end Go.Oc

namespace Go.Proofs.Ytlljkgiomkmjbaa.Du
open Go Go.Oc
set_option linter.unusedSimpArgs false
set_option linter.unusedVariables false
set_option maxRecDepth 8000
mutual
theorem rv_le : ∀ x : RV,RV.le x x
 | .sl _ _=>by simp only [RV.le]; exact .inl trivial
 | .ag xs=>by simp only [RV.le]; exact rv_leL xs
 | .fn _ xs=>by simp only [RV.le]; exact ⟨trivial,rv_leL xs⟩
 | .rp xs=>by simp only [RV.le]; exact rv_leL xs
 | .un | .bo _ | .it _ _ | .ns | .np | .nf | .tu _ | .st _ | .ud | .yl _ | .sx _ _ | .vl _ | .bf _ _=>by simp only [RV.le]
theorem rv_leL : ∀ xs : List RV,RV.leL xs xs
 | []=>by simp only [RV.leL]
 | x :: xs=>by simp only [RV.leL]; exact ⟨rv_le x,rv_leL xs⟩
end
theorem seq_beds : ∀ {p : Option Int} {l : List Bd},seqOk p l = true → ∀ x ∈ l,x.b = 0 ∨ bedOk x.b = true
 | _,[],_,x,hx=>by cases hx
 | p, y :: l, h, x, hx => by
   simp only [seqOk,Bool.and_eq_true,Bool.or_eq_true,decide_eq_true_eq] at h
   rcases List.mem_cons.1 hx with rfl | hx
   · exact h.1.1
   · exact seq_beds h.2 x hx
theorem bedOk_le {b : Int} (h : bedOk b = true) : 0 ≤ b ∧ b ≤ 499:=by
 simp only [bedOk,Bool.or_eq_true,Bool.and_eq_true,decide_eq_true_eq] at h
 omega
theorem ruG_of {r : Ru} (h : ruE r = 0) : RuG r ∧ 1 ≤ r.ends.length ∧ 0 ≤ r.out ∧ r.out ≤ 2:=by
 unfold ruE at h
 split at h
 · rename_i hc; exact absurd h hc
 · rename_i hc
   have hc : checkV r.d r.aims = 0:=by simpa using hc
   split at h
   · rename_i hb
     simp only [Bool.and_eq_true,decide_eq_true_eq] at hb
     obtain ⟨⟨⟨⟨⟨⟨⟨s2,s40⟩,o0⟩,o2⟩,e1⟩,e10⟩,he⟩,hl⟩:=hb
     unfold checkV at hc
     split at hc
     · cases hc
     · rename_i g1
       split at hc
       · cases hc
       · rename_i g2
         split at hc
         · rename_i g3
           simp only [Bool.or_eq_true,decide_eq_true_eq,List.any_eq_true,not_or,not_exists,not_and] at g1
           simp only [Bool.or_eq_true,Bool.not_eq_true',Bool.and_eq_false_iff,decide_eq_false_iff_not,not_or,Decidable.not_not,List.isEmpty_iff] at g2
           refine ⟨⟨⟨g2.1,by omega,by omega,by omega,fun a ha=>?_⟩,e1,e10,fun x hx=>List.all_eq_true.1 he x hx,s2,s40⟩,e1,o0,o2⟩
           have ha1:=List.all_eq_true.1 g3 a ha
           have ha2:=g1.2 a ha
           simp only [aimOk,Bool.and_eq_true,decide_eq_true_eq] at ha1
           obtain ⟨⟨⟨⟨q1,q2⟩,q3⟩,q4⟩,q5⟩:=ha1
           refine ⟨by omega,q4,fun c hc=>?_⟩
           have hb:=seq_beds q2 c hc
           have hch:=List.all_eq_true.1 q3 c hc
           simp only [Bool.and_eq_true,decide_eq_true_eq] at hch
           refine ⟨?_,hch.1.1,hch.1.2,by omega⟩
           rcases hb with hb | hb
           · omega
           · exact bedOk_le hb
         · cases hc
   · cases h
def tabF (r : Ru) (most : Bool) : List (List Int):=tabI r most r.ends.length
abbrev sidesV (r : Ru) : RV:=if ruE r = 0 then .ag [sideP r false (tabF r false),sideP r true (tabF r true)] else .ag [.np,.np]
theorem sides_ok (r : Ru) (hw : WfR r) : ACalls Try.prog 42 [ruV r] (.tu [sidesV r,i64 (ruE r)]):=by
 have hch:=dcheck_ok r hw
 refine acalls_st (rs:=[sidesV r,i64 (ruE r)]) [.cell 2 129,.tmp 3] Try.func42 rfl (by kernel_rfl) Try.ntmps42 rfl (by simp) rfl fun C vs=>?_
 repeat refine zq ?_
 refine zb fun K hK=>?_;simp only [go_sem];(try simp (disch:=omega) only [zI]);repeat first | intro _ | refine ⟨by omega,?_⟩
 refine hK _ ?_;clear hK K;refine zw (sub_frzP 1 1 (ruC r) (by omega) rfl rfl) ?_;refine zw (zk [1,2]) ?_;simp only [go_sem]
 repeat refine zq ?_
 refine zb fun K hK=>?_;simp only [go_sem];(try simp (disch:=omega) only [zI])
 refine zh (hch) rfl (by simp only [go_sem,i64,ints]) (by simp only [go_sem,i64,ints]) (by first | exact .inl rfl | exact .inr rfl) ?_
 (try simp only [go_sem]);(try simp (disch:=omega) only [zI]);repeat first | intro _ | refine ⟨by omega,?_⟩
 refine hK _ ?_;clear hK K;refine zw (zk [1,2,4]) ?_;simp only [go_sem]
 by_cases h0 : ruE r = 0
 rotate_left
 · have c : (ruE r != 0) = true:=by simpa using h0
   repeat refine zq ?_
   refine zb fun K hK=>?_;simp only [go_sem,c];(try simp (disch:=omega) only [zI]);repeat first | intro _ | refine ⟨by omega,?_⟩
   refine hK _ ?_;clear hK K;refine zw (zk [1,2,4,9]) ?_;simp only [go_sem]
   repeat refine zq ?_
   refine zc rfl (fun hc=>?_) (fun hc=>?_) <;> (try simp only [go_sem] at hc)
   repeat refine zq ?_
   refine zb fun K hK=>?_;simp only [go_sem];(try simp (disch:=omega) only [zI]);repeat first | intro _ | refine ⟨by omega,?_⟩
   refine hK _ ?_;clear hK K;refine zw (zk [2,3]) ?_;simp only [go_sem];refine ze ?_;simp only [go_sem];simp only [sidesV,if_neg h0];exact rv_le _
 obtain ⟨hG,_⟩:=ruG_of h0
 rw [h0]
 repeat refine zq ?_
 refine zb fun K hK=>?_;simp only [go_sem,bne_self_eq_false];(try simp (disch:=omega) only [zI]);repeat first | intro _ | refine ⟨by omega,?_⟩
 refine hK _ ?_;clear hK K;refine zw (zk [1,2,4,9]) ?_;simp only [go_sem]
 repeat refine zq ?_
 refine zc rfl (fun hc=>?_) (fun hc=>?_) <;> (try simp only [go_sem] at hc)
 refine zx ?_
 try simp only [go_sem]
 repeat refine zq ?_
 refine zb fun K hK=>?_;simp only [go_sem];(try simp (disch:=omega) only [zI]);repeat first | intro _ | refine ⟨by omega,?_⟩
 refine hK _ ?_;clear hK K;refine zw (zk [1,2,12]) ?_;simp only [go_sem]
 repeat refine zq ?_
 refine zd ?_
 refine awp_uptoV (n:=29) 2 (fun i vs=>[(1,.r (.rp (ruC r))),(2,.pt 2 (vs 2) 0),(12,.r (i64 (i : Int)))])
  (fun i vs=>[(2,.box [if 0 < i then .r (sideP r false (tabF r false)) else .r .np,if 1 < i then .r (sideP r true (tabF r true)) else .r .np])]) (fun _=>True) 0 (zj [] ?_ ?_) (Nat.zero_le _) trivial ?_
 · try simp only [go_sem]
 · try simp only [go_sem]
 · intro i vs hi _
   have hf0:=fill_ok hG false
   have hf1:=fill_ok hG true
   have e01 : ((0 : Int) == 1) = false:=rfl
   have e11 : ((1 : Int) == 1) = true:=rfl
   have h012 : i = 0 ∨ i = 1 ∨ i = 2:=by omega
   rcases h012 with rfl | rfl | rfl
   · repeat refine zq ?_
     refine zb fun K hK=>?_;simp only [go_sem];(try simp (disch:=omega) only [zI]);repeat first | intro _ | refine ⟨by omega,?_⟩
     refine hK _ ?_;clear hK K;refine zw (zk [1,2,12,13]) ?_;simp only [go_sem]
     repeat refine zq ?_
     refine zc rfl (fun hc=>?_) (fun hc=>?_) <;> (try simp only [go_sem] at hc)
     refine zx ?_
     try simp only [go_sem]
     repeat refine zq ?_
     refine zd ?_
     repeat refine zq ?_
     refine zb fun K hK=>?_;simp only [go_sem];(try simp (disch:=omega) only [zI]);repeat first | intro _ | refine ⟨by omega,?_⟩
     refine hK _ ?_;clear hK K;refine zw (zk [1,2,5,12]) ?_;simp only [go_sem]
     repeat refine zq ?_
     refine zb fun K hK=>?_;simp only [go_sem,e01,e11];(try simp (disch:=omega) only [zI]);repeat first | intro _ | refine ⟨by omega,?_⟩
     refine hK _ ?_;clear hK K;refine zw (zk [1,2,5,12]) ?_;simp only [go_sem]
     repeat refine zq ?_
     refine zb fun K hK=>?_;simp only [go_sem];(try simp (disch:=omega) only [zI])
     refine xcall_mut (hf0) [(1000,21)] rfl (by simp only [go_sem,i64,ints]) (by simp only [go_sem,i64,ints]) (by rfl) (by rfl) ?_
     (try simp only [go_sem]);(try simp (disch:=omega) only [zI]);repeat first | intro _ | refine ⟨by omega,?_⟩
     refine hK _ ?_;clear hK K;refine zw (sub_frzPB 2 0 21 (sideC r false (tabF r false)) (by omega) (by omega) rfl rfl rfl) ?_;refine zw (zk [1,2,12]) ?_;simp only [go_sem]
     repeat refine zq ?_
     refine zb fun K hK=>?_;simp only [go_sem];(try simp (disch:=omega) only [zI]);repeat first | intro _ | refine ⟨by omega,?_⟩
     refine hK _ ?_;clear hK K
     try simp only [go_sem]
     refine zj [] ?_ ?_
     · try simp only [go_sem]
     · try simp only [go_sem]
   · repeat refine zq ?_
     refine zb fun K hK=>?_;simp only [go_sem];(try simp (disch:=omega) only [zI]);repeat first | intro _ | refine ⟨by omega,?_⟩
     refine hK _ ?_;clear hK K;refine zw (zk [1,2,12,13]) ?_;simp only [go_sem]
     repeat refine zq ?_
     refine zc rfl (fun hc=>?_) (fun hc=>?_) <;> (try simp only [go_sem] at hc)
     refine zx ?_
     try simp only [go_sem]
     repeat refine zq ?_
     refine zd ?_
     repeat refine zq ?_
     refine zb fun K hK=>?_;simp only [go_sem];(try simp (disch:=omega) only [zI]);repeat first | intro _ | refine ⟨by omega,?_⟩
     refine hK _ ?_;clear hK K;refine zw (zk [1,2,5,12]) ?_;simp only [go_sem]
     repeat refine zq ?_
     refine zb fun K hK=>?_;simp only [go_sem,e01,e11];(try simp (disch:=omega) only [zI]);repeat first | intro _ | refine ⟨by omega,?_⟩
     refine hK _ ?_;clear hK K;refine zw (zk [1,2,5,12]) ?_;simp only [go_sem]
     repeat refine zq ?_
     refine zb fun K hK=>?_;simp only [go_sem];(try simp (disch:=omega) only [zI])
     refine xcall_mut (hf1) [(1000,21)] rfl (by simp only [go_sem,i64,ints]) (by simp only [go_sem,i64,ints]) (by rfl) (by rfl) ?_
     (try simp only [go_sem]);(try simp (disch:=omega) only [zI]);repeat first | intro _ | refine ⟨by omega,?_⟩
     refine hK _ ?_;clear hK K;refine zw (sub_frzPB 2 1 21 (sideC r true (tabF r true)) (by omega) (by omega) rfl rfl rfl) ?_;refine zw (zk [1,2,12]) ?_;simp only [go_sem]
     repeat refine zq ?_
     refine zb fun K hK=>?_;simp only [go_sem];(try simp (disch:=omega) only [zI]);repeat first | intro _ | refine ⟨by omega,?_⟩
     refine hK _ ?_;clear hK K
     try simp only [go_sem]
     refine zj [] ?_ ?_
     · try simp only [go_sem]
     · try simp only [go_sem]
   · repeat refine zq ?_
     refine zb fun K hK=>?_;simp only [go_sem];(try simp (disch:=omega) only [zI]);repeat first | intro _ | refine ⟨by omega,?_⟩
     refine hK _ ?_;clear hK K;refine zw (zk [1,2,12,13]) ?_;simp only [go_sem]
     repeat refine zq ?_
     refine zc rfl (fun hc=>?_) (fun hc=>?_) <;> (try simp only [go_sem] at hc)
     refine zf ?_;simp only [go_sem]
     repeat refine zq ?_
     refine zb fun K hK=>?_;simp only [go_sem];(try simp (disch:=omega) only [zI]);repeat first | intro _ | refine ⟨by omega,?_⟩
     refine hK _ ?_;clear hK K;refine zw (zk [2,3]) ?_;simp only [go_sem];refine ze ?_;simp only [go_sem];simp only [sidesV,if_pos h0];exact rv_le _
abbrev tabsV (r : Ru) (most : Bool) : RV:=if ruE r = 0 then tabR (tabF r most) else .ns
theorem table_ok (r : Ru) (hw : WfR r) : ACalls Try.prog 34 [ruV r] (.tu [tabsV r false,tabsV r true,i64 (ruE r)]):=by
 have hs:=sides_ok r hw
 refine acalls_st (rs:=[tabsV r false,tabsV r true,i64 (ruE r)]) [.tmp 2,.tmp 3,.tmp 4] Try.func34 rfl (by kernel_rfl) Try.ntmps34 rfl (by simp) rfl fun C vs=>?_
 repeat refine zq ?_
 refine zb fun K hK=>?_;simp only [go_sem];(try simp (disch:=omega) only [zI]);repeat first | intro _ | refine ⟨by omega,?_⟩
 refine hK _ ?_;clear hK K;refine zw (sub_frzP 1 1 (ruC r) (by omega) rfl rfl) ?_;refine zw (zk [1]) ?_;simp only [go_sem]
 by_cases h0 : ruE r = 0
 · have e1 : sidesV r = .ag [sideP r false (tabF r false),sideP r true (tabF r true)]:=if_pos h0
   rw [e1,h0] at hs
   repeat refine zq ?_
   refine zb fun K hK=>?_;simp only [go_sem];(try simp (disch:=omega) only [zI])
   refine zh (hs) rfl (by simp only [go_sem,i64,ints]) (by simp only [go_sem,i64,ints]) (by first | exact .inl rfl | exact .inr rfl) ?_
   (try simp only [go_sem]);(try simp (disch:=omega) only [zI]);repeat first | intro _ | refine ⟨by omega,?_⟩
   refine hK _ ?_;clear hK K;refine zw (zk [4,5]) ?_;simp only [go_sem]
   repeat refine zq ?_
   refine zb fun K hK=>?_;simp only [go_sem,bne_self_eq_false];(try simp (disch:=omega) only [zI]);repeat first | intro _ | refine ⟨by omega,?_⟩
   refine hK _ ?_;clear hK K;refine zw (zk [4,5,12]) ?_;simp only [go_sem]
   repeat refine zq ?_
   refine zc rfl (fun hc=>?_) (fun hc=>?_) <;> (try simp only [go_sem] at hc)
   refine zx ?_
   try simp only [go_sem]
   repeat refine zq ?_
   refine zg follows (by decide +kernel) (by kernel_rfl) fun K hK=>?_;simp only [go_sem];(try simp (disch:=omega) only [zI]);repeat first | intro _ | refine ⟨by omega,?_⟩
   refine hK _ ?_;clear hK K;refine zw (zk [2,3,4]) ?_;simp only [go_sem];refine ze ?_;simp only [go_sem];simp only [tabsV,if_pos h0];exact ⟨rv_le _,rv_le _,h0.symm⟩
 · have e1 : sidesV r = .ag [.np,.np]:=if_neg h0
   have c : (ruE r != 0) = true:=by simpa using h0
   rw [e1] at hs
   repeat refine zq ?_
   refine zb fun K hK=>?_;simp only [go_sem];(try simp (disch:=omega) only [zI])
   refine zh (hs) rfl (by simp only [go_sem,i64,ints]) (by simp only [go_sem,i64,ints]) (by first | exact .inl rfl | exact .inr rfl) ?_
   (try simp only [go_sem]);(try simp (disch:=omega) only [zI]);repeat first | intro _ | refine ⟨by omega,?_⟩
   refine hK _ ?_;clear hK K;refine zw (zk [4,5]) ?_;simp only [go_sem]
   repeat refine zq ?_
   refine zb fun K hK=>?_;simp only [go_sem,c];(try simp (disch:=omega) only [zI]);repeat first | intro _ | refine ⟨by omega,?_⟩
   refine hK _ ?_;clear hK K;refine zw (zk [4,5,12]) ?_;simp only [go_sem]
   repeat refine zq ?_
   refine zc rfl (fun hc=>?_) (fun hc=>?_) <;> (try simp only [go_sem] at hc)
   repeat refine zq ?_
   refine zb fun K hK=>?_;simp only [go_sem];(try simp (disch:=omega) only [zI]);repeat first | intro _ | refine ⟨by omega,?_⟩
   refine hK _ ?_;clear hK K;refine zw (zk [2,3,4]) ?_;simp only [go_sem];refine ze ?_;simp only [go_sem];simp only [tabsV,if_neg h0];exact ⟨rv_le _,rv_le _⟩
structure RefH (r : Ru) : Prop where
 out : r.out = 0 ∨ r.out = 1 ∨ r.out = 2
 beds : ∀ a ∈ r.aims,∀ c ∈ a.beds,c.b = 0 ∨ 0 < scoreOf c.b
 hi : ∀ a ∈ r.aims,r.d ≤ hiS a.beds
theorem bedOk_pos {b : Int} (h : bedOk b = true) : 0 < scoreOf b:=by
 simp only [bedOk,Bool.or_eq_true,Bool.and_eq_true,decide_eq_true_eq] at h
 unfold scoreOf
 refine Int.mul_pos (by omega) (by omega)
theorem refH_of {r : Ru} (h : ruE r = 0) : RefH r:=by
 have h0:=h
 unfold ruE at h
 split at h
 · rename_i hc; exact absurd h hc
 · rename_i hc
   have hc : checkV r.d r.aims = 0:=by simpa using hc
   obtain ⟨_,_,o0,o2⟩:=ruG_of h0
   unfold checkV at hc
   split at hc
   · cases hc
   · split at hc
     · cases hc
     · split at hc
       · rename_i g3
         refine ⟨by omega,fun a ha c hc=>?_,fun a ha=>?_⟩
         · have ha1:=List.all_eq_true.1 g3 a ha
           simp only [aimOk,Bool.and_eq_true,decide_eq_true_eq] at ha1
           obtain ⟨⟨⟨⟨q1,q2⟩,q3⟩,q4⟩,q5⟩:=ha1
           rcases seq_beds q2 c hc with hb | hb
           · exact .inl hb
           · exact .inr (bedOk_pos hb)
         · have ha1:=List.all_eq_true.1 g3 a ha
           simp only [aimOk,Bool.and_eq_true,decide_eq_true_eq] at ha1
           exact ha1.2
       · cases hc
theorem hiS_chW (f : Int → Int) (l : List Bd) : hiS (chW f l) = hiS l:=by simp [hiS,chW,Function.comp_def]
structure Pos where
 round : Int
 start : Int
 left : Int
 darts : Int
abbrev posC (p : Pos) : List RV:=[i64 p.round,i64 p.start,i64 p.left,i64 p.darts]
abbrev posV (p : Pos) : RV:=.ag (posC p)
def oddsV (r : Ru) (most : Bool) (T : List (List Int)) (k st left d : Nat) : List Int:=meansV r most (nextV r most T k st (valV r most T k st d) (decide (d = 0)) left)
abbrev Pv:=Int × Int
def fillP : List Pv → Int × Int → Int × Int
 | [],x=>x
 | c :: cs,x=>fillP cs (x.1 - min x.1 c.1,x.2 + min x.1 c.1 * c.2)
theorem fillG_P : ∀ (l : List Bd) (x : Int × Int),fillG l x = fillP (l.map fun c=>(c.hi - c.lo,c.b)) x
 | [],_=>rfl
 | c :: l,x=>by simp only [fillG,List.map_cons,fillP]; exact fillG_P l _
theorem fillP_swap {a c : Pv} {B : List Pv} {x : Int × Int} (h : a.1 = 0 ∨ a.2 = c.2) (ha : 0 ≤ a.1) (hc : 0 ≤ c.1) (hx : 0 ≤ x.1) : fillP (a :: c :: B) x = fillP (c :: a :: B) x:=by
 simp only [fillP]
 congr 1
 refine Prod.ext (by simp only; omega) ?_
 simp only
 rcases h with h | h
 · have e1 : min x.1 a.1 = 0:=by omega
   have e2 : min (x.1 - min x.1 c.1) a.1 = 0:=by omega
   rw [e1,e2]; simp
 · rw [h,Int.add_assoc,Int.add_assoc,← Int.add_mul,← Int.add_mul]
   congr 2
   omega
theorem fillP_move {c : Pv} {B : List Pv} (hc : 0 ≤ c.1) : ∀ (A : List Pv) {x : Int × Int},(∀ a ∈ A,(a.1 = 0 ∨ a.2 = c.2) ∧ 0 ≤ a.1) → 0 ≤ x.1 → fillP (A ++ c :: B) x = fillP (c :: (A ++ B)) x
 | [],_,_,_=>rfl
 | a :: A, x, h, hx => by
   have h1:=h a (by simp)
   have ih:=fillP_move (B:=B) hc A (x:=(x.1 - min x.1 a.1,x.2 + min x.1 a.1 * a.2)) (fun y hy=>h y (by simp [hy])) (by simp only; omega)
   have e : fillP (a :: A ++ c :: B) x = fillP (a :: c :: (A ++ B)) x:=by
    rw [List.cons_append,fillP,ih]; rfl
   rw [e,fillP_swap h1.1 h1.2 hc hx]
   rfl
def leD (most : Bool) (x y : Int) : Prop:=if most then y ≤ x else x ≤ y
theorem leD_trans {most : Bool} {x y z : Int} (h : leD most x y) (g : leD most y z) : leD most x z:=by
 unfold leD at *; split at h <;> simp_all <;> omega
theorem leD_anti {most : Bool} {x y : Int} (h : leD most x y) (g : leD most y x) : x = y:=by
 unfold leD at *; split at h <;> simp_all <;> omega
abbrev SortP (most : Bool) (S : List Pv) : Prop:=S.Pairwise fun a b=>leD most a.2 b.2
theorem fill_step {most : Bool} {A B : List Pv} {c : Pv} {x : Int × Int} (hS : SortP most (A ++ c :: B)) (hn : ∀ a ∈ A ++ c :: B,0 ≤ a.1) (hbest : ∀ a ∈ A ++ c :: B,0 < a.1 → leD most c.2 a.2) (hx : 0 ≤ x.1) :
 fillP (A ++ (c.1 - min x.1 c.1,c.2) :: B) (x.1 - min x.1 c.1,x.2 + min x.1 c.1 * c.2) = fillP (A ++ c :: B) x:=by
 have hc0 : 0 ≤ c.1:=hn c (by simp)
 have hA : ∀ a ∈ A,(a.1 = 0 ∨ a.2 = c.2) ∧ 0 ≤ a.1:=fun a ha=>by
  have h0:=hn a (by simp [ha])
  refine ⟨?_,h0⟩
  by_cases h : a.1 = 0
  · exact .inl h
  · have h1:=hbest a (by simp [ha]) (by omega)
    have h2 : leD most a.2 c.2:=(List.pairwise_append.1 hS).2.2 a ha c (by simp)
    exact .inr (leD_anti h2 h1)
 rw [fillP_move hc0 A hA hx,fillP_move (c:=(c.1 - min x.1 c.1,c.2)) (by simp only; omega) A hA (by simp only; omega)]
 simp only [fillP]
 congr 1
 have e : min (x.1 - min x.1 c.1) (c.1 - min x.1 c.1) = 0:=by omega
 rw [e]; simp
theorem fillP_done : ∀ {S : List Pv} {y : Int},(∀ a ∈ S,0 ≤ a.1) → fillP S (0,y) = (0,y)
 | [],_,_=>rfl
 | c :: S, y, h => by
   have h0:=h c (by simp)
   have e : min 0 c.1 = 0:=by omega
   simp only [fillP,e]
   simpa using fillP_done fun a ha=>h a (by simp [ha])
theorem insB_pw {most : Bool} {x : Bd} : ∀ {R : List Bd},R.Pairwise (fun y z=>leD most z.b y.b) → (insB (ltD most) x R).Pairwise (fun y z=>leD most z.b y.b)
 | [],_=>by simp [insB]
 | y :: R, h => by
   obtain ⟨h1,h2⟩:=List.pairwise_cons.1 h
   unfold insB
   split
   · rename_i hlt
     refine List.pairwise_cons.2 ⟨fun z hz=>?_,insB_pw h2⟩
     rcases (mem_insB _ _ _ _).1 hz with rfl | hz
     · unfold ltD at hlt; unfold leD; cases most <;> simp at hlt ⊢ <;> omega
     · exact h1 z hz
   · rename_i hlt
     have hyx : leD most y.b x.b:=by unfold ltD at hlt; unfold leD; cases most <;> simp at hlt ⊢ <;> omega
     refine List.pairwise_cons.2 ⟨fun z hz=>?_,h⟩
     rcases List.mem_cons.1 hz with rfl | hz
     · exact hyx
     · exact leD_trans (h1 z hz) hyx
theorem sortB_pw {most : Bool} : ∀ {l R : List Bd},R.Pairwise (fun y z=>leD most z.b y.b) → (sortB (ltD most) l R).Pairwise (fun y z=>leD most z.b y.b)
 | [],_,h=>h
 | x :: l,R,h=>by rw [sortB]; exact sortB_pw (insB_pw h)
theorem sortN_pw {most : Bool} (l : List Bd) : (sortN (ltD most) l).Pairwise (fun y z=>leD most y.b z.b):=by
 unfold sortN
 rw [List.pairwise_reverse]
 exact sortB_pw List.Pairwise.nil
def beats (most : Bool) (x y : Int) : Bool:=if most then decide (y < x) else decide (x < y)
def bestI (most : Bool) (M V : List Int) : Nat → Int
 | 0=>-1
 | i + 1=>if decide (0 < M.getD i 0) && (decide (bestI most M V i < 0) || beats most (V.getD i 0) (V.getD (bestI most M V i).toNat 0)) then i else bestI most M V i
theorem bestI_spec (most : Bool) (M V : List Int) : ∀ i,(bestI most M V i = -1 ∧ ∀ j,j < i → M.getD j 0 ≤ 0) ∨
 ∃ a : Nat,a < i ∧ bestI most M V i = a ∧ 0 < M.getD a 0 ∧ ∀ j,j < i → 0 < M.getD j 0 → leD most (V.getD a 0) (V.getD j 0)
 | 0=>.inl ⟨rfl,fun j hj=>by omega⟩
 | i + 1 => by
   have ih:=bestI_spec most M V i
   simp only [bestI]
   by_cases hm : 0 < M.getD i 0
   · rcases ih with ⟨h1,h2⟩ | ⟨a,h1,h2,h3,h4⟩
     · refine .inr ⟨i,by omega,?_,hm,fun j hj hj0=>?_⟩
       · rw [if_pos (by rw [decide_eq_true hm,h1]; simp)]
       · by_cases e : j = i
         · subst e; unfold leD; split <;> omega
         · have:=h2 j (by omega); omega
     · by_cases hb : beats most (V.getD i 0) (V.getD a 0) = true
       · refine .inr ⟨i,by omega,?_,hm,fun j hj hj0=>?_⟩
         · rw [if_pos (by rw [decide_eq_true hm,h2,Int.toNat_natCast,hb]; simp)]
         · have hia : leD most (V.getD i 0) (V.getD a 0):=by unfold beats at hb; unfold leD; cases most <;> simp at hb ⊢ <;> omega
           by_cases e : j = i
           · subst e; unfold leD; split <;> omega
           · exact leD_trans hia (h4 j (by omega) hj0)
       · refine .inr ⟨a,by omega,?_,h3,fun j hj hj0=>?_⟩
         · rw [if_neg,h2]
           simp only [h2,Int.toNat_natCast,Bool.not_eq_true] at hb ⊢
           simp only [hb]
           simp
         · by_cases e : j = i
           · subst e; unfold beats at hb; unfold leD; cases most <;> simp at hb ⊢ <;> omega
           · exact h4 j (by omega) hj0
   · have hc : ¬ ((decide (0 < M.getD i 0) && (decide (bestI most M V i < 0) || beats most (V.getD i 0) (V.getD (bestI most M V i).toNat 0))) = true):=by rw [decide_eq_false hm]; simp
     rw [if_neg hc]
     rcases ih with ⟨h1,h2⟩ | ⟨a,h1,h2,h3,h4⟩
     · exact .inl ⟨h1,fun j hj=>by
        by_cases e : j = i
        · subst e; omega
        · exact h2 j (by omega)⟩
     · exact .inr ⟨a,by omega,h2,h3,fun j hj hj0=>by
        by_cases e : j = i
        · subst e; omega
        · exact h4 j (by omega) hj0⟩
theorem sum_pos : ∀ {M : List Int},0 < M.sum → ∃ j,j < M.length ∧ 0 < M.getD j 0
 | [],h=>by simp at h
 | m :: M, h => by
   by_cases hm : 0 < m
   · exact ⟨0,by simp,by simpa using hm⟩
   · obtain ⟨j,h1,h2⟩:=sum_pos (M:=M) (by simp only [List.sum_cons] at h; omega)
     exact ⟨j + 1,by simpa using h1,by simpa using h2⟩
theorem sum_set : ∀ {M : List Int} {a : Nat} {y : Int},a < M.length → (M.set a y).sum = M.sum - M.getD a 0 + y
 | m :: M,0,y,_=>by simp; omega
 | m :: M, a + 1, y, h => by
   have:=sum_set (M:=M) (a:=a) (y:=y) (by simpa using h)
   simp at this ⊢
   omega
theorem zip_set : ∀ {M V : List Int} {a : Nat} {y v : Int},V[a]? = some v → (M.set a y).zip V = (M.zip V).set a (y,v)
 | [],_,_,_,_,_=>by simp
 | _ :: _,[],_,_,_,h=>by simp at h
 | m :: M,w :: V,0,y,v,h=>by simp at h; subst h; simp
 | m :: M, w :: V, a + 1, y, v, h => by
   simp at h
   simp only [List.set_cons_succ,List.zip_cons_cons,zip_set (M:=M) (V:=V) (a:=a) (y:=y) h]
structure RefI (most : Bool) (V : List Int) (target : Int) (M : List Int) (left sum : Int) : Prop where
 len : M.length = V.length
 l19 : V.length ≤ 19
 vals : ∀ v ∈ V,0 ≤ v ∧ v ≤ 1000000
 mores : ∀ m ∈ M,0 ≤ m ∧ m ≤ 3000
 ok : GOk (left,sum)
 enough : left ≤ M.sum
 same : ∃ S : List Pv,S.Perm (M.zip V) ∧ SortP most S ∧ (fillP S (left,sum)).2 = target
theorem RefI.done {most : Bool} {V M : List Int} {target left sum : Int} (h : RefI most V target M left sum) (h0 : ¬ 0 < left) : sum = target:=by
 obtain ⟨S,h1,_,h3⟩:=h.same
 have:=h.ok.1.1
 have e : left = 0:=by simp only at this; omega
 rw [e,fillP_done] at h3
 · exact h3
 · intro a ha
   have:=h1.mem_iff.1 ha
   exact (h.mores a.1 (List.of_mem_zip this).1).1
theorem RefI.best {most : Bool} {V M : List Int} {target left sum : Int} (h : RefI most V target M left sum) (h0 : 0 < left) :
 ∃ a : Nat, ∃ m v, a < M.length ∧ bestI most M V M.length = a ∧ M[a]? = some m ∧ V[a]? = some v ∧ 0 < m ∧ (m ≤ 3000 ∧ 0 ≤ v ∧ v ≤ 1000000) ∧
   RefI most V target (M.set a (m - min left m)) (left - min left m) (sum + min left m * v):=by
 rcases bestI_spec most M V M.length with ⟨_,h2⟩ | ⟨a,ha,hb,hm,hbest⟩
 · obtain ⟨j,hj,hj0⟩:=sum_pos (M:=M) (by have:=h.enough; omega)
   have:=h2 j hj
   omega
 · have hav : a < V.length:=by rw [← h.len]; exact ha
   have hma : M[a]? = some M[a]:=List.getElem?_eq_getElem ha
   have hva : V[a]? = some V[a]:=List.getElem?_eq_getElem hav
   have egm : M.getD a 0 = M[a]:=by simp [List.getD,hma]
   have egv : V.getD a 0 = V[a]:=by simp [List.getD,hva]
   have hmb:=h.mores _ (List.getElem_mem ha)
   have hvb:=h.vals _ (List.getElem_mem hav)
   rw [egm] at hm
   refine ⟨a,M[a],V[a],ha,hb,hma,hva,hm,⟨hmb.2,hvb⟩,?_⟩
   obtain ⟨S,hp,hs,hf⟩:=h.same
   have hza : (M.zip V)[a]? = some (M[a],V[a]):=by
    rw [List.getElem?_zip_eq_some]; exact ⟨hma,hva⟩
   have hlz : a < (M.zip V).length:=(List.getElem?_eq_some_iff.1 hza).1
   have hin : (M[a],V[a]) ∈ S:=hp.mem_iff.2 (List.mem_of_getElem? hza)
   obtain ⟨A,B,rfl⟩:=List.append_of_mem hin
   have hn : ∀ x ∈ A ++ (M[a],V[a]) :: B,0 ≤ x.1:=fun x hx=>(h.mores x.1 (List.of_mem_zip (hp.mem_iff.1 hx)).1).1
   have hbt : ∀ x ∈ A ++ (M[a],V[a]) :: B,0 < x.1 → leD most (M[a],V[a]).2 x.2:=fun x hx hx0=>by
    obtain ⟨j,hj⟩:=List.getElem?_of_mem (hp.mem_iff.1 hx)
    obtain ⟨g1,g2⟩:=List.getElem?_zip_eq_some.1 hj
    have:=hbest j (List.getElem?_eq_some_iff.1 g1).1 (by simpa [List.getD,g1] using hx0)
    rw [egv] at this
    simpa [List.getD,g2] using this
   have hst:=fill_step (x:=(left,sum)) hs hn hbt (by simp only; omega)
   obtain ⟨k1,k2,k3⟩:=gOk_step (c:=⟨V[a],0,M[a]⟩) h.ok ⟨hvb,by simp only; omega,by simp only; omega,by simp only; omega⟩
   simp only [Int.sub_zero] at k1 k2 k3
   refine ⟨by simp [h.len],h.l19,h.vals,fun m hm'=>?_,k3,?_,?_⟩
   · rcases List.mem_or_eq_of_mem_set hm' with hm' | rfl
     · exact h.mores m hm'
     · omega
   · rw [sum_set ha,egm]
     have:=h.enough
     omega
   · refine ⟨A ++ (M[a] - min left M[a],V[a]) :: B,?_,?_,?_⟩
     · rw [zip_set hva]
       have hz : M.zip V = (M.zip V).take a ++ (M[a],V[a]) :: (M.zip V).drop (a + 1):=by
        have e:=List.getElem?_eq_some_iff.1 hza
        rw [← e.2,← List.drop_eq_getElem_cons hlz,List.take_append_drop]
       have hset : (M.zip V).set a (M[a] - min left M[a],V[a]) = (M.zip V).take a ++ (M[a] - min left M[a],V[a]) :: (M.zip V).drop (a + 1):=List.set_eq_take_append_cons_drop .. |>.trans (if_pos hlz)
       rw [hset]
       rw [hz] at hp
       have h1:=(List.perm_middle.symm.trans hp).trans List.perm_middle
       exact List.perm_middle.trans (((List.perm_cons _).1 h1).cons _ |>.trans List.perm_middle.symm)
     · have h1:=List.pairwise_append.1 hs
       have h2:=List.pairwise_cons.1 h1.2.1
       refine List.pairwise_append.2 ⟨h1.1,List.pairwise_cons.2 ⟨h2.1,h2.2⟩,fun x hx y hy=>?_⟩
       rcases List.mem_cons.1 hy with rfl | hy
       · exact h1.2.2 x hx (M[a],V[a]) (by simp)
       · exact h1.2.2 x hx y (by simp [hy])
     · rw [hst]
       exact hf
theorem RefI.start {most : Bool} {den : Int} {l : List Bd} (h : ChG den l) (hh : den ≤ hiS l) :
 RefI most (l.map (·.b)) (fillG (sortN (ltD most) l) (den - loS (sortN (ltD most) l),loV (sortN (ltD most) l))).2 (l.map fun c=>c.hi - c.lo) (den - loS l) (loV l):=by
 have hp:=sortN_perm (ltD most) l
 have e1 : loS (sortN (ltD most) l) = loS l:=perm_sum hp
 have e2 : loV (sortN (ltD most) l) = loV l:=perm_sum hp
 have hl:=h.low
 have hd:=h.den1
 have hv:=loV_le h.each
 have hlen:=h.len
 have hlo0 : 0 ≤ loS l:=by
  have : ∀ m : List Bd,(∀ c ∈ m,0 ≤ c.lo) → 0 ≤ loS m:=by
   intro m
   induction m with
   | nil=>intro _; simp [loS]
   | cons c m ih=>intro hc; have h1:=hc c (by simp); have h2:=ih fun x hx=>hc x (by simp [hx]); simp only [loS,List.map_cons,List.sum_cons] at h2 ⊢; omega
  exact this l fun c hc=>(h.each c hc).2.1
 refine ⟨by simp,by simpa using hlen,?_,?_,?_,?_,?_⟩
 · intro v hv
   obtain ⟨c,hc,rfl⟩:=List.mem_map.1 hv
   exact (h.each c hc).1
 · intro m hm
   obtain ⟨c,hc,rfl⟩:=List.mem_map.1 hm
   obtain ⟨_,g0,g1,g2⟩:=h.each c hc
   omega
 · refine ⟨⟨by simp only; omega,by simp only; omega⟩,by simp only; omega,by simp only; omega⟩
 · have : (l.map fun c=>c.hi - c.lo).sum = hiS l - loS l:=by
    clear hh hp e1 e2 hl hv hlen hlo0 h
    induction l with
    | nil=>simp [hiS,loS]
    | cons c l ih=>simp only [hiS,loS,List.map_cons,List.sum_cons] at ih ⊢; omega
   omega
 · refine ⟨(sortN (ltD most) l).map fun c=>(c.hi - c.lo,c.b),?_,?_,?_⟩
   · have : (l.map fun c=>c.hi - c.lo).zip (l.map (·.b)) = l.map fun c=>(c.hi - c.lo,c.b):=by
      rw [List.zip_map',]
     rw [this]
     exact hp.map _
   · exact List.Pairwise.map _ (fun a b h=>h) (sortN_pw l)
   · rw [← fillG_P,e1,e2]
def dotP : List Pv → List Int → Int
 | c :: S,y :: ys=>y * c.2 + dotP S ys
 | _,_=>0
inductive FeasP : List Pv → List Int → Prop where
 | nil : FeasP [] []
 | cons {c : Pv} {S : List Pv} {y : Int} {ys : List Int} (h : 0 ≤ y ∧ y ≤ c.1) (t : FeasP S ys) : FeasP (c :: S) (y :: ys)
theorem feas_sum {S : List Pv} {ys : List Int} (h : FeasP S ys) : 0 ≤ ys.sum:=by
 induction h with
 | nil=>simp
 | cons h t ih=>simp only [List.sum_cons]; omega
theorem feas_less {v : Int} {S : List Pv} {ys : List Int} (h : FeasP S ys) : ∀ δ : Int,0 ≤ δ → δ ≤ ys.sum → (∀ c ∈ S,v ≤ c.2) → ∃ zs,FeasP S zs ∧ zs.sum = ys.sum - δ ∧ dotP S zs + δ * v ≤ dotP S ys:=by
 induction h with
 | nil =>
   intro δ h0 h1 _
   simp only [List.sum_nil] at h1
   have : δ = 0:=by omega
   subst this
   exact ⟨[],.nil,by simp,by simp [dotP]⟩
 | @cons c S y ys h t ih =>
   intro δ h0 h1 hv
   simp only [List.sum_cons] at h1
   have hs:=feas_sum t
   obtain ⟨zs,g1,g2,g3⟩:=ih (δ - min δ y) (by omega) (by omega) fun x hx=>hv x (by simp [hx])
   have hc:=hv c (by simp)
   have e0 : 0 ≤ min δ y:=by omega
   have p:=Int.mul_nonneg e0 (show 0 ≤ c.2 - v by omega)
   refine ⟨(y - min δ y) :: zs,.cons ⟨by omega,by omega⟩ g1,by simp only [List.sum_cons]; omega,?_⟩
   simp only [dotP]
   generalize min δ y = e at *
   rw [Int.mul_sub] at p
   rw [Int.sub_mul] at g3
   rw [Int.sub_mul]
   omega
theorem fill_min : ∀ {S : List Pv} {ys : List Int},FeasP S ys → ∀ (left s : Int),S.Pairwise (fun a b=>a.2 ≤ b.2) → ys.sum = left → (fillP S (left,s)).2 ≤ s + dotP S ys
 | [],_,h,left,s,_,_=>by cases h; simp [fillP,dotP]
 | c :: S, _, h, left, s, hp, hsum => by
   cases h with
   | @cons _ _ y ys h t =>
     obtain ⟨hp1,hp2⟩:=List.pairwise_cons.1 hp
     simp only [List.sum_cons] at hsum
     have hs:=feas_sum t
     obtain ⟨zs,g1,g2,g3⟩:=feas_less t (min left c.1 - y) (by omega) (by omega) hp1
     have:=fill_min g1 (left - min left c.1) (s + min left c.1 * c.2) hp2 (by omega)
     simp only [fillP,dotP]
     rw [Int.sub_mul] at g3
     omega
def negP (S : List Pv) : List Pv:=S.map fun c=>(c.1,-c.2)
theorem fill_neg : ∀ (S : List Pv) (x y : Int),(fillP (negP S) (x,-y)).2 = -(fillP S (x,y)).2
 | [],_,_=>rfl
 | c :: S, x, y => by
   have:=fill_neg S (x - min x c.1) (y + min x c.1 * c.2)
   simp only [negP,List.map_cons,fillP] at this ⊢
   rw [← this]
   congr 3
   rw [Int.mul_neg]; omega
theorem dot_neg : ∀ (S : List Pv) (ys : List Int),dotP (negP S) ys = -dotP S ys
 | [],_=>by simp [negP,dotP]
 | _ :: _,[]=>by simp [negP,dotP]
 | c :: S, y :: ys => by
   have:=dot_neg S ys
   simp only [negP,List.map_cons,dotP] at this ⊢
   rw [this,Int.mul_neg]; omega
theorem feas_neg : ∀ {S : List Pv} {ys : List Int},FeasP S ys → FeasP (negP S) ys
 | _,_,.nil=>.nil
 | _,_,.cons h t=>.cons h (feas_neg t)
theorem fill_max {S : List Pv} {ys : List Int} (h : FeasP S ys) (left s : Int) (hp : S.Pairwise (fun a b=>b.2 ≤ a.2)) (hs : ys.sum = left) : s + dotP S ys ≤ (fillP S (left,s)).2:=by
 have:=fill_min (feas_neg h) left (-s) (by unfold negP; exact List.Pairwise.map _ (fun a b h=>by simp only; omega) hp) hs
 rw [fill_neg,dot_neg] at this
 omega
theorem greedy_amt {m v : Nat → Int} : ∀ {I : List Nat} {left s : Int},I.Nodup → (∀ i ∈ I,0 ≤ m i) → 0 ≤ left → left ≤ (I.map m).sum →
 ∃ x : Nat → Int,(∀ i ∈ I,0 ≤ x i ∧ x i ≤ m i) ∧ (I.map x).sum = left ∧ (fillP (I.map fun i=>(m i,v i)) (left,s)).2 = s + (I.map fun i=>x i * v i).sum
 | [], left, s, _, _, h0, h1 => by
   simp only [List.map_nil,List.sum_nil] at h1
   exact ⟨fun _=>0,by simp,by simp; omega,by simp [fillP]⟩
 | i :: I, left, s, hn, hm, h0, h1 => by
   obtain ⟨hi,hn2⟩:=List.nodup_cons.1 hn
   have hmi:=hm i (by simp)
   simp only [List.map_cons,List.sum_cons] at h1
   have hms : 0 ≤ (I.map m).sum:=by
    have : ∀ J : List Nat,(∀ j ∈ J,0 ≤ m j) → 0 ≤ (J.map m).sum:=by
     intro J
     induction J with
     | nil=>intro _; simp
     | cons j J ih=>intro hJ; have h1:=hJ j (by simp); have h2:=ih fun y hy=>hJ y (by simp [hy]); simp only [List.map_cons,List.sum_cons]; omega
    exact this I fun j hj=>hm j (by simp [hj])
   obtain ⟨x,g1,g2,g3⟩:=greedy_amt (v:=v) (left:=left - min left (m i)) (s:=s + min left (m i) * v i) hn2 (fun j hj=>hm j (by simp [hj])) (by omega) (by omega)
   have hne : ∀ j ∈ I,j ≠ i:=fun j hj e=>hi (by rw [← e]; exact hj)
   refine ⟨fun j=>if j = i then min left (m i) else x j,fun j hj=>?_,?_,?_⟩
   · rcases List.mem_cons.1 hj with rfl | hj
     · simp only [if_true]; omega
     · simp only [if_neg (hne j hj)]; exact g1 j hj
   · simp only [List.map_cons,if_true,List.sum_cons]
     rw [List.map_congr_left (g:=x) fun j hj=>by simp only [if_neg (hne j hj)],g2]
     omega
   · simp only [List.map_cons,fillP,if_true,List.sum_cons]
     rw [g3,List.map_congr_left (f:=fun j=>(if j = i then min left (m i) else x j) * v j) (g:=fun j=>x j * v j) fun j hj=>by simp only [if_neg (hne j hj)]]
     omega
theorem feas_map {m v x : Nat → Int} : ∀ {I : List Nat},(∀ i ∈ I,0 ≤ x i ∧ x i ≤ m i) → FeasP (I.map fun i=>(m i,v i)) (I.map x)
 | [],_=>.nil
 | i :: I,h=>.cons (h i (by simp)) (feas_map fun j hj=>h j (by simp [hj]))
theorem dot_map {m v x : Nat → Int} : ∀ I : List Nat,dotP (I.map fun i=>(m i,v i)) (I.map x) = (I.map fun i=>x i * v i).sum
 | []=>rfl
 | i :: I=>by simp only [List.map_cons,dotP,List.sum_cons,dot_map I]
def insN (lt : Nat → Nat → Bool) (x : Nat) : List Nat → List Nat
 | []=>[x]
 | y :: ys=>if lt x y then y :: insN lt x ys else x :: y :: ys
def sortBN (lt : Nat → Nat → Bool) : List Nat → List Nat → List Nat
 | [],R=>R
 | x :: xs,R=>sortBN lt xs (insN lt x R)
def sortI (lt : Nat → Nat → Bool) (l : List Nat) : List Nat:=(sortBN lt l []).reverse
theorem insN_map (f : Nat → Bd) (lt : Bd → Bd → Bool) (x : Nat) : ∀ R : List Nat,(insN (fun i j=>lt (f i) (f j)) x R).map f = insB lt (f x) (R.map f)
 | []=>rfl
 | y :: R => by
   have:=insN_map f lt x R
   simp only [insN,List.map_cons,insB]
   split
   · rw [List.map_cons,this]
   · rfl
theorem sortBN_map (f : Nat → Bd) (lt : Bd → Bd → Bool) : ∀ l R : List Nat,(sortBN (fun i j=>lt (f i) (f j)) l R).map f = sortB lt (l.map f) (R.map f)
 | [],_=>rfl
 | x :: l,R=>by simp only [sortBN,List.map_cons,sortB]; rw [sortBN_map f lt l,insN_map]
theorem sortI_map (f : Nat → Bd) (lt : Bd → Bd → Bool) (l : List Nat) : (sortI (fun i j=>lt (f i) (f j)) l).map f = sortN lt (l.map f):=by
 unfold sortI sortN
 rw [List.map_reverse,sortBN_map]; rfl
theorem insN_perm (lt : Nat → Nat → Bool) (x : Nat) : ∀ R,(insN lt x R).Perm (x :: R)
 | []=>List.Perm.refl _
 | y :: R => by
   unfold insN
   split
   · exact ((insN_perm lt x R).cons y).trans (List.Perm.swap _ _ _)
   · exact List.Perm.refl _
theorem sortBN_perm (lt : Nat → Nat → Bool) : ∀ l R,(sortBN lt l R).Perm (l ++ R)
 | [],R=>List.Perm.refl _
 | x :: l, R => by
   rw [sortBN]
   refine (sortBN_perm lt l _).trans ?_
   exact ((insN_perm lt x R).append_left l).trans List.perm_middle
theorem sortI_perm (lt : Nat → Nat → Bool) (l : List Nat) : (sortI lt l).Perm l:=by
 unfold sortI
 have:=sortBN_perm lt l []
 rw [List.append_nil] at this
 exact (List.reverse_perm _).trans this
theorem mean_idx {most : Bool} {den : Int} {l : List Bd} (h : ChG den l) (hh : den ≤ hiS l) : ∃ I : List Nat,I.Perm (List.range l.length) ∧ I.Nodup ∧
 (I.Pairwise fun a b=>leD most (l.getD a ⟨0,0,0⟩).b (l.getD b ⟨0,0,0⟩).b) ∧
 meanD most den l = overD most (fillP (I.map fun i=>((l.getD i ⟨0,0,0⟩).hi - (l.getD i ⟨0,0,0⟩).lo,(l.getD i ⟨0,0,0⟩).b)) (den - loS l,loV l)).2 den:=by
 have hl : (List.range l.length).map (fun i=>l.getD i ⟨0,0,0⟩) = l:=by
  refine List.ext_getElem (by simp) fun i h1 h2=>?_
  simp [List.getD,List.getElem?_eq_getElem h2]
 have hm:=sortI_map (fun i=>l.getD i ⟨0,0,0⟩) (ltD most) (List.range l.length)
 rw [hl] at hm
 have hp:=sortI_perm (fun i j=>ltD most (l.getD i ⟨0,0,0⟩) (l.getD j ⟨0,0,0⟩)) (List.range l.length)
 have hpw:=sortN_pw (most:=most) l
 rw [← hm] at hpw
 have e1 : loS (sortN (ltD most) l) = loS l:=perm_sum (sortN_perm _ _)
 have e2 : loV (sortN (ltD most) l) = loV l:=perm_sum (sortN_perm _ _)
 refine ⟨_,hp,hp.nodup_iff.2 List.nodup_range,(List.pairwise_map (f:=fun i=>l.getD i ⟨0,0,0⟩) (R:=fun y z : Bd=>leD most y.b z.b)).1 hpw,?_⟩
 unfold meanD
 rw [e1,e2,fillG_P,← hm,List.map_map]
 rfl
theorem overD_mono {m1 m2 : Bool} (hm : m1 = true → m2 = true) {a b den : Int} (hd : 1 ≤ den) (hab : a ≤ b) : overD m1 a den ≤ overD m2 b den:=by
 have h1 : ∀ x y : Int,x ≤ y → x / den ≤ y / den:=fun x y h=>Int.ediv_le_ediv (by omega) h
 cases m1 <;> cases m2 <;> simp only [overD,if_true,Bool.false_eq_true,if_false]
 · exact h1 _ _ hab
 · exact h1 _ _ (by omega)
 · simp at hm
 · exact h1 _ _ (by omega)
theorem sum_le_map {f g : Nat → Int} : ∀ {I : List Nat},(∀ i ∈ I,f i ≤ g i) → (I.map f).sum ≤ (I.map g).sum
 | [],_=>by simp
 | i :: I, h => by
   have h1:=h i (by simp)
   have h2:=sum_le_map (f:=f) (g:=g) (I:=I) fun j hj=>h j (by simp [hj])
   simp only [List.map_cons,List.sum_cons]; omega
theorem meanD_mono {m1 m2 : Bool} (hm : m1 = true → m2 = true) {den : Int} {l : List Bd} {f g : Int → Int} (hf : ChG den (chW f l)) (hg : ChG den (chW g l)) (hh : den ≤ hiS l) (hfg : ∀ c ∈ l,f c.b ≤ g c.b) :
 meanD m1 den (chW f l) ≤ meanD m2 den (chW g l):=by
 obtain ⟨I,p1,n1,w1,e1⟩:=mean_idx (most:=m1) hf (by rw [hiS_chW]; exact hh)
 obtain ⟨J,p2,n2,w2,e2⟩:=mean_idx (most:=m2) hg (by rw [hiS_chW]; exact hh)
 have lf : (chW f l).length = l.length:=by simp [chW]
 have lg : (chW g l).length = l.length:=by simp [chW]
 rw [lf] at p1
 rw [lg] at p2
 have gf : ∀ i,i < l.length → (chW f l).getD i ⟨0,0,0⟩ = ⟨f (l.getD i ⟨0,0,0⟩).b,(l.getD i ⟨0,0,0⟩).lo,(l.getD i ⟨0,0,0⟩).hi⟩:=fun i hi=>by simp [chW,List.getD,List.getElem?_eq_getElem hi]
 have gg : ∀ i,i < l.length → (chW g l).getD i ⟨0,0,0⟩ = ⟨g (l.getD i ⟨0,0,0⟩).b,(l.getD i ⟨0,0,0⟩).lo,(l.getD i ⟨0,0,0⟩).hi⟩:=fun i hi=>by simp [chW,List.getD,List.getElem?_eq_getElem hi]
 have hI : ∀ i ∈ I,i < l.length:=fun i hi=>List.mem_range.1 (p1.mem_iff.1 hi)
 have hJ : ∀ i ∈ J,i < l.length:=fun i hi=>List.mem_range.1 (p2.mem_iff.1 hi)
 have hmem : ∀ i,i < l.length → l.getD i ⟨0,0,0⟩ ∈ l:=fun i hi=>by
  rw [List.getD_eq_getElem?_getD,List.getElem?_eq_getElem hi]; exact List.getElem_mem hi
 rw [e1,e2,loS_chW,loS_chW]
 refine overD_mono hm hf.den0 ?_
 have ef : (I.map fun i=>(((chW f l).getD i ⟨0,0,0⟩).hi - ((chW f l).getD i ⟨0,0,0⟩).lo,((chW f l).getD i ⟨0,0,0⟩).b)) = I.map fun i=>((l.getD i ⟨0,0,0⟩).hi - (l.getD i ⟨0,0,0⟩).lo,f (l.getD i ⟨0,0,0⟩).b) :=
  List.map_congr_left fun i hi=>by rw [gf i (hI i hi)]
 have eg : (J.map fun i=>(((chW g l).getD i ⟨0,0,0⟩).hi - ((chW g l).getD i ⟨0,0,0⟩).lo,((chW g l).getD i ⟨0,0,0⟩).b)) = J.map fun i=>((l.getD i ⟨0,0,0⟩).hi - (l.getD i ⟨0,0,0⟩).lo,g (l.getD i ⟨0,0,0⟩).b) :=
  List.map_congr_left fun i hi=>by rw [gg i (hJ i hi)]
 rw [ef,eg]
 have pIJ : I.Perm J:=p1.trans p2.symm
 have hlow : loS l ≤ den:=by have:=hf.low; rwa [loS_chW] at this
 have hm0 : ∀ i,i < l.length → 0 ≤ (l.getD i ⟨0,0,0⟩).hi - (l.getD i ⟨0,0,0⟩).lo:=fun i hi=>by
  have:=hf.each ⟨f (l.getD i ⟨0,0,0⟩).b,(l.getD i ⟨0,0,0⟩).lo,(l.getD i ⟨0,0,0⟩).hi⟩ (List.mem_map.2 ⟨_,hmem i hi,rfl⟩)
  simp only at this; omega
 have hsm : ((List.range l.length).map fun i=>(l.getD i ⟨0,0,0⟩).hi - (l.getD i ⟨0,0,0⟩).lo).sum = hiS l - loS l:=by
  have hl : (List.range l.length).map (fun i=>l.getD i ⟨0,0,0⟩) = l:=by
   refine List.ext_getElem (by simp) fun i h1 h2=>?_
   simp [List.getD,List.getElem?_eq_getElem h2]
  have : ((List.range l.length).map fun i=>(l.getD i ⟨0,0,0⟩).hi - (l.getD i ⟨0,0,0⟩).lo) = l.map fun c=>c.hi - c.lo:=by
   conv=>rhs; rw [← hl]
   rw [List.map_map]; rfl
  rw [this]
  generalize l = l
  induction l with
  | nil=>simp [hiS,loS]
  | cons c l ih=>simp only [hiS,loS,List.map_cons,List.sum_cons] at ih ⊢; omega
 have hv : loV (chW f l) ≤ loV (chW g l):=by
  have h0 : ∀ c ∈ l,0 ≤ c.lo:=fun c hc=>(hf.each _ (List.mem_map.2 ⟨c,hc,rfl⟩)).2.1
  clear e1 e2 ef eg gf gg hI hJ hmem hm0 hsm p1 p2 pIJ w1 w2 lf lg hf hg hh hlow
  induction l with
  | nil=>simp [chW,loV]
  | cons c l ih =>
    have h1:=ih (fun x hx=>hfg x (by simp [hx])) fun x hx=>h0 x (by simp [hx])
    have h2:=Int.mul_le_mul_of_nonneg_left (hfg c (by simp)) (h0 c (by simp))
    simp only [chW,loV,List.map_cons,List.sum_cons,List.map_map] at h1 ⊢
    omega
 generalize hmm : (fun i=>(l.getD i ⟨0,0,0⟩).hi - (l.getD i ⟨0,0,0⟩).lo) = m at *
 have hmi : ∀ i,(l.getD i ⟨0,0,0⟩).hi - (l.getD i ⟨0,0,0⟩).lo = m i:=fun i=>by rw [← hmm]
 simp only [hmi] at *
 have fgi : ∀ i,i < l.length → f (l.getD i ⟨0,0,0⟩).b ≤ g (l.getD i ⟨0,0,0⟩).b:=fun i hi=>hfg _ (hmem i hi)
 generalize hu : (fun i=>f (l.getD i ⟨0,0,0⟩).b) = u at *
 have hui : ∀ i,f (l.getD i ⟨0,0,0⟩).b = u i:=fun i=>by rw [← hu]
 generalize hw : (fun i=>g (l.getD i ⟨0,0,0⟩).b) = w at *
 have hwi : ∀ i,g (l.getD i ⟨0,0,0⟩).b = w i:=fun i=>by rw [← hw]
 simp only [hui,hwi] at *
 have hsI : (I.map m).sum = hiS l - loS l:=by rw [← hsm]; exact perm_sum p1
 have hsJ : (J.map m).sum = hiS l - loS l:=by rw [← hsm]; exact perm_sum p2
 have wI : I.Pairwise fun a b=>leD m1 (u a) (u b):=w1.imp_of_mem fun {a b} ha hb h=>by
  rw [gf a (hI a ha),gf b (hI b hb)] at h; exact h
 have wJ : J.Pairwise fun a b=>leD m2 (w a) (w b):=w2.imp_of_mem fun {a b} ha hb h=>by
  rw [gg a (hJ a ha),gg b (hJ b hb)] at h; exact h
 have ms : ∀ (K : List Nat) (x z : Nat → Int),(∀ i ∈ K,i < l.length) → (∀ i ∈ K,0 ≤ x i) → (K.map fun i=>x i * u i).sum ≤ (K.map fun i=>x i * w i).sum:=fun K x z hK hx =>
  sum_le_map fun i hi=>Int.mul_le_mul_of_nonneg_left (fgi i (hK i hi)) (hx i hi)
 cases m1 with
 | false =>
   obtain ⟨x,x1,x2,x3⟩:=greedy_amt (m:=m) (v:=w) (I:=J) (left:=den - loS l) (s:=loV (chW g l)) n2 (fun i hi=>hm0 i (hJ i hi)) (by omega) (by omega)
   have hx : ∀ i ∈ I,0 ≤ x i ∧ x i ≤ m i:=fun i hi=>x1 i (pIJ.mem_iff.1 hi)
   have hmin:=fill_min (feas_map (v:=u) hx) (den - loS l) (loV (chW f l)) (List.pairwise_map.2 (wI.imp fun h=>by simpa [leD] using h)) (by rw [perm_sum (f:=x) pIJ]; exact x2)
   rw [dot_map] at hmin
   have h2:=ms I x x hI fun i hi=>(hx i hi).1
   have h3 : (I.map fun i=>x i * w i).sum = (J.map fun i=>x i * w i).sum:=perm_sum pIJ
   rw [x3]
   omega
 | true =>
   have hm2 : m2 = true:=hm rfl
   subst hm2
   obtain ⟨x,x1,x2,x3⟩:=greedy_amt (m:=m) (v:=u) (I:=I) (left:=den - loS l) (s:=loV (chW f l)) n1 (fun i hi=>hm0 i (hI i hi)) (by omega) (by omega)
   have hx : ∀ i ∈ J,0 ≤ x i ∧ x i ≤ m i:=fun i hi=>x1 i (pIJ.mem_iff.2 hi)
   have hmax:=fill_max (feas_map (v:=w) hx) (den - loS l) (loV (chW g l)) (List.pairwise_map.2 (wJ.imp fun h=>by simpa [leD] using h)) (by rw [perm_sum (f:=x) pIJ.symm]; exact x2)
   rw [dot_map] at hmax
   have h2:=ms I x x hI fun i hi=>(x1 i hi).1
   have h3 : (I.map fun i=>x i * w i).sum = (J.map fun i=>x i * w i).sum:=perm_sum pIJ
   rw [x3]
   omega
end Go.Proofs.Ytlljkgiomkmjbaa.Du

namespace Go.Oc
open Go Go.RowKit
set_option linter.unusedVariables false
set_option linter.unusedSimpArgs false
def unl (listed : Array Bool) : Nat → Nat
 | 0=>0
 | m + 1=>unl listed m + if listed.getD m true then 0 else 1
theorem getD_setT {listed : Array Bool} {i j : Nat} : (listed.setIfInBounds i true).getD j true = if j = i then true else listed.getD j true:=by
 split
 · rename_i e
   subst e
   simp only [Array.getD_eq_getD_getElem?,Array.getElem?_setIfInBounds]
   split
   · split <;> simp_all
   · simp_all
 · rename_i e
   simp only [Array.getD_eq_getD_getElem?,Array.getElem?_setIfInBounds];rw [if_neg (fun h=>e h.symm)]
theorem unl_same {listed : Array Bool} {i : Nat} : ∀ m,m ≤ i → unl (listed.setIfInBounds i true) m = unl listed m
 | 0,_=>rfl
 | m + 1, h => by
   have e2 : m ≠ i:=by omega
   have e3:=unl_same (listed:=listed) (i:=i) m (by omega)
   simp only [unl,getD_setT,e3,if_neg e2]
theorem unl_set {listed : Array Bool} {i : Nat} (hi : listed.getD i true = false) : ∀ m,i < m → unl (listed.setIfInBounds i true) m + 1 = unl listed m
 | 0,h=>by omega
 | m + 1, h => by
   simp only [unl,getD_setT]
   by_cases e : i = m
   · subst e
     rw [unl_same _ (Nat.le_refl _)]
     simp [hi]
   · have:=unl_set hi m (by omega)
     have e2 : m ≠ i:=fun h=>e h.symm
     rw [if_neg e2]
     omega
theorem unl_zero {listed : Array Bool} : ∀ m,unl listed m = 0 → ∀ j,j < m → listed.getD j true = true
 | 0,_,j,h=>by omega
 | m + 1, h, j, hj => by
   simp only [unl] at h
   by_cases e : j = m
   · subst e
     by_cases hx : listed.getD j true = true
     · exact hx
     · simp [hx] at h
   · exact unl_zero m (by omega) j (by omega)
def stepAll (P : Program) (ops : Array Oper) (n : Nat) (F : (Nat → Bool) → (Nat → Nat) → List (Nat × AV)) (R : (Nat → Bool) → (Nat → Nat) → List (Nat × RowC)) : Nat → List Oper → Prop
 | _,[]=>True
 | k,o :: rest=>(∀ b vs,(∀ j e,j < ops.size → (deps ops j).contains e = true → b j = true → b e = true) → b k = false → (∀ e ∈ deps ops k,b e = true) →
  xop P false o (FitV n (F (upd b k true)) (R (upd b k true))) (st n (F b vs) vs (R b vs))) ∧ stepAll P ops n F R (k + 1) rest
theorem stepAll_get {P : Program} {ops : Array Oper} {n : Nat} {F : (Nat → Bool) → (Nat → Nat) → List (Nat × AV)} {R : (Nat → Bool) → (Nat → Nat) → List (Nat × RowC)} : ∀ {l : List Oper} {k i : Nat} {o : Oper},stepAll P ops n F R k l → l[i]? = some o →
 ∀ b vs, (∀ j e, j < ops.size → (deps ops j).contains e = true → b j = true → b e = true) → b (k + i) = false → (∀ e ∈ deps ops (k + i), b e = true) →
   xop P false o (FitV n (F (upd b (k + i) true)) (R (upd b (k + i) true))) (st n (F b vs) vs (R b vs))
 | [],_,_,_,_,h=>by simp at h
 | x :: l, k, 0, o, hs, h => by
   simp only [List.getElem?_cons_zero,Option.some.injEq] at h
   subst h
   exact hs.1
 | x :: l, k, i + 1, o, hs, h => by
   have:=stepAll_get (k:=k + 1) (i:=i) hs.2 (by simpa using h)
   rwa [show k + 1 + i = k + (i + 1) by omega] at this
def upOk (ops : Array Oper) : Bool:=(List.range ops.size).all fun j=>(deps ops j).all fun e=>decide (e < j)
section
variable {P : Program} {C : Ctx} {s : AS} {a : Act} {w : World} {ops : Array Oper}
theorem ready_nil {listed : Array Bool} (hu : upOk ops = true) (h : Region.ready .any ops listed = []) (hsz : listed.size = ops.size) : ∀ j,j < ops.size → listed.getD j true = true:=by
 intro j
 induction j using Nat.strongRecOn with
 | _ j ih =>
   intro hj
   by_cases hx : listed.getD j true = true
   · exact hx
   · exfalso
     have ho : ops[j]? = some ops[j]:=Array.getElem?_eq_getElem hj
     have hr : j ∈ Region.ready .any ops listed:=by
      refine mem_ready.2 ⟨by simpa using hx,ops[j],ho,fun e he hb=>?_⟩
      have hm : e.on ∈ deps ops j:=by unfold deps; rw [ho]; exact List.mem_map.2 ⟨e,List.mem_filter.2 ⟨by simpa using he,hb⟩,rfl⟩
      have hlt:=List.all_eq_true.1 (List.all_eq_true.1 hu j (by simpa using hj)) e.on hm
      simp only [decide_eq_true_eq] at hlt
      have:=ih e.on hlt (by omega)
      have h2 : e.on < listed.size:=by omega
      simpa [h2] using this
     rw [h] at hr
     cases hr
theorem inv_any {Q : AS → Prop} {Q' : Exit → Act → World → Prop} (hQ : ∀ s a w,Q s → SRel C s a w → Q' .normal a w) {n : Nat} {F : (Nat → Bool) → (Nat → Nat) → List (Nat × AV)} {R : (Nat → Bool) → (Nat → Nat) → List (Nat × RowC)}
 (hd : dstOk ops n = true) (hg : ops.all (fun o=>o.guard.isNone) = true) (hu : upOk ops = true) (hstep : stepAll P ops n F R 0 ops.toList)
 (hend : ∀ b vs,(∀ j,b j = true) → Q (st n (F b vs) vs (R b vs))) :
 ∀ (fuel : Nat) (vs : Nat → Nat) (listed : Array Bool) (a : Act) (w : World), listed.size = ops.size → down ops listed → unl listed ops.size ≤ fuel → SRel C (st n (F (fun j => listed.getD j true) vs) vs (R (fun j => listed.getD j true) vs)) a w →
   wpAnyIn (fnc C.rd) 0 P .any ops Q' fuel listed a w:=by
 have all : ∀ {listed : Array Bool},listed.size = ops.size → (∀ j,j < ops.size → listed.getD j true = true) → ∀ j,(fun j=>listed.getD j true) j = true:=fun {listed} hsz h j=>by
  by_cases hj : j < ops.size
  · exact h j hj
  · show listed.getD j true = true
    have : ¬ j < listed.size:=by omega
    simp [this]
 intro fuel
 induction fuel with
 | zero =>
   intro vs listed a w hsz hdn hf hs
   have h0:=unl_zero (listed:=listed) ops.size (by omega)
   refine ⟨List.eq_nil_iff_forall_not_mem.2 fun j hj=>?_,hQ _ _ _ (hend _ _ (all hsz h0)) hs⟩
   obtain ⟨h1,o,ho,_⟩:=mem_ready.1 hj
   have:=h0 j (Array.getElem?_eq_some_iff.1 ho).1
   rw [this] at h1
   cases h1
 | succ fuel ih =>
   intro vs listed a w hsz hdn hf hs
   refine ⟨fun h0=>hQ _ _ _ (hend _ _ (all hsz (ready_nil hu h0 hsz))) hs,fun i hi=>?_⟩
   obtain ⟨hi1,o,ho,hall⟩:=mem_ready.1 hi
   unfold wpOpIn
   rw [ho]
   simp only
   have hil : i < ops.size:=(Array.getElem?_eq_some_iff.1 ho).1
   have hgo : o.guard = none:=by
    have:=Array.all_eq_true_iff_forall_mem.1 hg o (Array.mem_of_getElem? ho)
    simpa using this
   obtain ⟨p,hp⟩:=hs
   rw [if_pos (wantA_sound hp (by simp [wantA,hgo]))]
   have hx:=stepAll_get (k:=0) (i:=i) hstep (by rw [Array.getElem?_toList]; exact ho) (fun j=>listed.getD j true) vs (fun j e hj he hb=>?_) (by rw [Nat.zero_add]; exact hi1) (fun e he=>?_)
   · rw [Nat.zero_add] at hx
     refine xop_sound hp hx (dstOk_get hd ho) (fun a' w' p' s' hs' hn hK=>?_) (dstOk_nd hd ho)
     obtain ⟨vs',hsub⟩:=hK
     have e : upd (fun j=>listed.getD j true) i true = fun j=>(listed.setIfInBounds i true).getD j true:=by
      funext j
      rw [getD_setT]
      rfl
     rw [e] at hsub
     exact ih vs' _ a' w' (by simpa using hsz) (down_set hdn hi) (by have:=unl_set hi1 ops.size hil; omega) (hsub C a' w' ⟨p',hs'⟩)
   · have hjs : j < listed.size:=by omega
     have hb' : listed.getD j true = true:=hb
     have h2:=hdn j (by simpa [hjs] using hb') e (by simpa using he)
     show listed.getD e true = true
     by_cases hes : e < listed.size
     · simpa [hes] using h2
     · simp [hes]
   · have h2:=ready_deps hi e (by simpa using he)
     show listed.getD e true = true
     by_cases hes : e < listed.size
     · simpa [hes] using h2
     · simp [hes]
end
theorem awp_inv {P : Program} {C : Ctx} {id : Nat} {l : List Oper} {n : Nat} {Q : Exit → AS → Prop} {s : AS} (F : (Nat → Bool) → (Nat → Nat) → List (Nat × AV)) (R : (Nat → Bool) → (Nat → Nat) → List (Nat × RowC)) (hm : P.follows .mixedOrders = true)
 (hd : dstOk l.toArray n = true) (hg : l.toArray.all (fun o=>o.guard.isNone) = true) (hu : upOk l.toArray = true) (h0 : FitV n (F fun j=>decide (l.length ≤ j)) (R fun j=>decide (l.length ≤ j)) s)
 (hstep : stepAll P l.toArray n F R 0 l) (hend : ∀ b vs,(∀ j,b j = true) → Q .normal (st n (F b vs) vs (R b vs))) : awp P C (.region id l.toArray true) Q s:=fun a w hs=>by
 obtain ⟨vs,hsub⟩:=h0
 obtain ⟨p,hp⟩:=hsub C a w hs
 have hs' : SR C p _ a { w with drawn:=w.drawn + 1 }:=hp.below (w':=w.drew) ((Below.refl _ _).drew) (fun _ h=>h) (fun _ h=>.inl h) hp.rb
 refine wpIn_region_any hm ?_
 have e : (fun j=>(Array.replicate l.toArray.size false).getD j true) = fun j=>decide (l.length ≤ j):=by
  funext j
  by_cases h : j < l.length
  · have : ¬ l.length ≤ j:=by omega
    simp [h,this]
  · have : l.length ≤ j:=by omega
    simp [h,this]
 refine inv_any (Q:=fun s=>Q .normal s) (n:=n) (F:=F) (R:=R) (fun s a w hq hs=>⟨s,hs,hq⟩) hd hg hu (by simpa using hstep) hend _ vs _ _ _ (by simp) (fun j hj=>?_) ?_ ?_
 · exfalso
   simp only [Array.getD_eq_getD_getElem?,Array.getElem?_replicate] at hj
   split at hj <;> simp at hj
 · have : ∀ m,unl (Array.replicate l.toArray.size false) m ≤ m:=by
    intro m
    induction m with
    | zero=>exact Nat.le_refl _
    | succ m ih=>simp only [unl]; split <;> omega
   exact this _
 · rw [e]
   exact ⟨p,hs'⟩
def allB (b : Nat → Bool) (v : Bool) : List Nat → Prop
 | []=>True
 | e :: es=>b e = v ∧ allB b v es
def chU (ops : Array Oper) (n : Nat) : List Nat → List Nat → Bool
 | _,[]=>true
 | seen,e :: es=>((deps ops n).contains e || seen.any fun j=>decide (j < ops.size) && (deps ops j).contains e) && chU ops n (e :: seen) es
def chD (ops : Array Oper) (n : Nat) : List Nat → List Nat → Bool
 | _,[]=>true
 | seen,e :: es=>(decide (e < ops.size) && ((deps ops e).contains n || seen.any fun j=>(deps ops e).contains j)) && chD ops n (e :: seen) es
theorem upT0 {ops : Array Oper} {b : Nat → Bool} {n : Nat} (hdn : ∀ j e,j < ops.size → (deps ops j).contains e = true → b j = true → b e = true) (hde : ∀ e ∈ deps ops n,b e = true) : ∀ (es seen : List Nat),(∀ j ∈ seen,b j = true) → chU ops n seen es = true → allB b true es
 | [],_,_,_=>trivial
 | e :: es, seen, hs, h => by
   simp only [chU,Bool.and_eq_true,Bool.or_eq_true,List.any_eq_true,decide_eq_true_eq] at h
   have he : b e = true:=by
    rcases h.1 with h1 | ⟨j,hj,h1,h2⟩
    · exact hde e (by simpa using h1)
    · exact hdn j e h1 h2 (hs j hj)
   refine ⟨he,upT0 hdn hde es (e :: seen) (fun j hj=>?_) h.2⟩
   rcases List.mem_cons.1 hj with rfl | hj
   · exact he
   · exact hs j hj
theorem upT {ops : Array Oper} {b : Nat → Bool} {n : Nat} (hdn : ∀ j e,j < ops.size → (deps ops j).contains e = true → b j = true → b e = true) (hde : ∀ e ∈ deps ops n,b e = true) (es : List Nat) (h : chU ops n [] es = true) : allB b true es:=upT0 hdn hde es [] (by simp) h
theorem dnT0 {ops : Array Oper} {b : Nat → Bool} {n : Nat} (hdn : ∀ j e,j < ops.size → (deps ops j).contains e = true → b j = true → b e = true) (hbk : b n = false) : ∀ (es seen : List Nat),(∀ j ∈ seen,b j = false) → chD ops n seen es = true → allB b false es
 | [],_,_,_=>trivial
 | e :: es, seen, hs, h => by
   simp only [chD,Bool.and_eq_true,Bool.or_eq_true,List.any_eq_true,decide_eq_true_eq] at h
   have he : b e = false:=by
    cases hb : b e
    · rfl
    · rcases h.1.2 with h1 | ⟨j,hj,h2⟩
      · rw [hdn e n h.1.1 h1 hb] at hbk; cases hbk
      · have:=hs j hj
        rw [hdn e j h.1.1 h2 hb] at this; cases this
   refine ⟨he,dnT0 hdn hbk es (e :: seen) (fun j hj=>?_) h.2⟩
   rcases List.mem_cons.1 hj with rfl | hj
   · exact he
   · exact hs j hj
theorem dnT {ops : Array Oper} {b : Nat → Bool} {n : Nat} (hdn : ∀ j e,j < ops.size → (deps ops j).contains e = true → b j = true → b e = true) (hbk : b n = false) (es : List Nat) (h : chD ops n [] es = true) : allB b false es:=dnT0 hdn hbk es [] (by simp) h
end Go.Oc

namespace Go.Proofs.Ytlljkgiomkmjbaa.Du
open Go Go.Oc
set_option linter.unusedSimpArgs false
set_option linter.unusedVariables false
set_option maxRecDepth 8000
set_option maxHeartbeats 2000000
def posOk (r : Ru) (p : Pos) : Bool:=inB p.round 0 ((r.ends.length : Int) - 1) && (inB p.start (lowestR r) r.start && (inB p.left (lowestR r) p.start && (inB p.darts 1 3 && (decide (p.darts < 3) || (p.left == p.start)))))
def bestS (l : List Sp) : Nat → Int
 | 0=>0
 | i + 1=>if (l.getD (bestS l i).toNat (0,0)).1 < (l.getD i (0,0)).1 then i else bestS l i
end Go.Proofs.Ytlljkgiomkmjbaa.Du
