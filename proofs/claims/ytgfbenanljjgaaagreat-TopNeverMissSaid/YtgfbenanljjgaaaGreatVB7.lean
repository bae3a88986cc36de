/- Part 7 of the texts of this claim. -/
import Derived.Test.YtgfbenanljjgaaaGreatVB6
import Derived.Test.YtgfbenanljjgaaaGreatVB5
set_option linter.unusedSimpArgs false
set_option linter.unusedVariables false
namespace Go.Proofs.YtgfbenanljjgaaaGreat.Du
open Go Go.Oc
set_option maxRecDepth 8000
def ltD (most : Bool) (x y : Bd) : Bool:=decide ((if most then y.b - x.b else x.b - y.b) < 0)
def loV (l : List Bd) : Int:=(l.map fun c=>c.lo * c.b).sum
theorem loV_snoc (l : List Bd) (x : Bd) : loV (l ++ [x]) = loV l + x.lo * x.b:=by simp [loV]
def fillG : List Bd → Int × Int → Int × Int
 | [],x=>x
 | c :: cs,x=>fillG cs (x.1 - min x.1 (c.hi - c.lo),x.2 + min x.1 (c.hi - c.lo) * c.b)
theorem fillG_snoc : ∀ (l : List Bd) (c : Bd) (x : Int × Int),fillG (l ++ [c]) x = ((fillG l x).1 - min (fillG l x).1 (c.hi - c.lo),(fillG l x).2 + min (fillG l x).1 (c.hi - c.lo) * c.b)
 | [],_,_=>rfl
 | d :: l,c,x=>by simp only [List.cons_append,fillG];exact fillG_snoc l c _
def meanD (most : Bool) (den : Int) (l : List Bd) : Int:=overD most (fillG (sortN (ltD most) l) (den - loS (sortN (ltD most) l),loV (sortN (ltD most) l))).2 den
structure ChG (den : Int) (l : List Bd) : Prop where
 len : l.length ≤ 19
 den0 : 1 ≤ den
 den1 : den ≤ 3000
 low : loS l ≤ den
 each : ∀ c ∈ l,(0 ≤ c.b ∧ c.b ≤ 1000000) ∧ 0 ≤ c.lo ∧ c.lo ≤ c.hi ∧ c.hi ≤ 3000
theorem loV_le {l : List Bd} (h : ∀ c ∈ l,(0 ≤ c.b ∧ c.b ≤ 1000000) ∧ 0 ≤ c.lo ∧ c.lo ≤ c.hi ∧ c.hi ≤ 3000) : 0 ≤ loV l ∧ loV l ≤ 3000000000 * l.length:=by
 induction l with
 | nil=>simp [loV]
 | cons c l ih =>
   obtain ⟨h1,h2⟩:=ih fun x hx=>h x (by simp [hx])
   obtain ⟨⟨b0,b1⟩,g0,g1,g2⟩:=h c (by simp)
   have m0:=Int.mul_nonneg g0 b0
   have m1 : c.lo * c.b ≤ 3000 * 1000000:=Int.mul_le_mul (by omega) b1 b0 (by omega)
   simp only [loV,List.map_cons,List.sum_cons,List.length_cons] at h1 h2 ⊢
   omega
theorem insB_perm (lt : Bd → Bd → Bool) (x : Bd) : ∀ R,(insB lt x R).Perm (x :: R)
 | []=>List.Perm.refl _
 | y :: R => by
   unfold insB
   split
   · exact ((insB_perm lt x R).cons y).trans (List.Perm.swap _ _ _)
   · exact List.Perm.refl _
theorem sortB_perm (lt : Bd → Bd → Bool) : ∀ l R,(sortB lt l R).Perm (l ++ R)
 | [],R=>List.Perm.refl _
 | x :: l, R => by
   rw [sortB]
   refine (sortB_perm lt l _).trans ?_
   exact ((insB_perm lt x R).append_left l).trans List.perm_middle
theorem sortN_perm (lt : Bd → Bd → Bool) (l : List Bd) : (sortN lt l).Perm l:=by
 unfold sortN
 have:=sortB_perm lt l []
 rw [List.append_nil] at this
 exact (List.reverse_perm _).trans this
theorem perm_sum {α : Type} {f : α → Int} {l m : List α} (h : l.Perm m) : (l.map f).sum = (m.map f).sum:=by
 induction h with
 | nil=>rfl
 | cons x _ ih=>simp only [List.map_cons,List.sum_cons,ih]
 | swap x y l=>simp only [List.map_cons,List.sum_cons];omega
 | trans _ _ h1 h2=>exact h1.trans h2
def GOk (x : Int × Int) : Prop:=(0 ≤ x.1 ∧ x.1 ≤ 3000) ∧ 0 ≤ x.2 ∧ x.2 ≤ 57000000000 + 1000000 * (3000 - x.1)
theorem gOk_step {c : Bd} {x : Int × Int} (h : GOk x) (hc : (0 ≤ c.b ∧ c.b ≤ 1000000) ∧ 0 ≤ c.lo ∧ c.lo ≤ c.hi ∧ c.hi ≤ 3000) :
 (0 ≤ min x.1 (c.hi - c.lo) ∧ min x.1 (c.hi - c.lo) ≤ x.1) ∧ (0 ≤ min x.1 (c.hi - c.lo) * c.b ∧ min x.1 (c.hi - c.lo) * c.b ≤ 3000000000) ∧ GOk (x.1 - min x.1 (c.hi - c.lo),x.2 + min x.1 (c.hi - c.lo) * c.b):=by
 obtain ⟨⟨h1,h2⟩,h3,h4⟩:=h
 obtain ⟨⟨b0,b1⟩,g0,g1,g2⟩:=hc
 generalize hm : min x.1 (c.hi - c.lo) = m
 have m0 : 0 ≤ m:=by omega
 have m1 : m ≤ x.1:=by omega
 have p0:=Int.mul_nonneg m0 b0
 have p1 : m * c.b ≤ m * 1000000:=Int.mul_le_mul_of_nonneg_left b1 m0
 refine ⟨⟨m0,m1⟩,⟨p0,by omega⟩,⟨by simp only;omega,by simp only;omega⟩,by simp only;omega,by simp only;omega⟩
theorem gOk_all {l : List Bd} : ∀ {x : Int × Int},(∀ c ∈ l,(0 ≤ c.b ∧ c.b ≤ 1000000) ∧ 0 ≤ c.lo ∧ c.lo ≤ c.hi ∧ c.hi ≤ 3000) → GOk x → GOk (fillG l x):=by
 induction l with
 | nil=>intro x _ h;exact h
 | cons c l ih =>
   intro x hc h
   exact ih (fun y hy=>hc y (by simp [hy])) (gOk_step h (hc c (by simp))).2.2
theorem mean_ok (r : Ru) (most : Bool) (T : List (List Int)) (l : List Bd) (h : ChG r.d l) :
 MCalls Tryz.prog 199 [(1000,.arr 264 3 (idx l))] [(1000,.arr 264 3 (idx (sortN (ltD most) l)))] [.r (sideP r most T),.os 1000 0 3 0 l.length] (.r (i64 (meanD most r.d l))):=by
 have hsort:=sortStable_ok (ltD most) (fun x y=>if most then y.b - x.b else x.b - y.b) 213 [.rp [sideP r most T]] l h.len (fun _ _=>rfl) (fun x hx y hy=>cmp_ok r most T x y (h.each x hx).1 (h.each y hy).1)
 obtain ⟨S,hS⟩ : ∃ S,S = sortN (ltD most) l:=⟨_,rfl⟩
 have hperm : S.Perm l:=hS ▸ sortN_perm _ _
 have hSl : S.length = l.length:=hperm.length_eq
 have hSe : ∀ c ∈ S,(0 ≤ c.b ∧ c.b ≤ 1000000) ∧ 0 ≤ c.lo ∧ c.lo ≤ c.hi ∧ c.hi ≤ 3000:=fun c hc=>h.each c (hperm.mem_iff.1 hc)
 have hlo : loS S = loS l:=perm_sum hperm
 have hl19:=h.len
 have hd0:=h.den0
 have hd1:=h.den1
 have hlow:=h.low
 rw [show meanD most r.d l = overD most (fillG S (r.d - loS S,loV S)).2 r.d by rw [meanD,← hS]]
 rw [← hS] at hsort ⊢
 have hsub : ∀ i,(0 ≤ loS (S.take i) ∧ loS (S.take i) ≤ 57000) ∧ 0 ≤ loV (S.take i) ∧ loV (S.take i) ≤ 57000000000:=fun i=>by
  have hm : ∀ c ∈ S.take i,(0 ≤ c.b ∧ c.b ≤ 1000000) ∧ 0 ≤ c.lo ∧ c.lo ≤ c.hi ∧ c.hi ≤ 3000:=fun c hc=>hSe c (List.mem_of_mem_take hc)
  have h1:=loV_le hm
  have h2 : 0 ≤ loS (S.take i) ∧ loS (S.take i) ≤ 3000 * (S.take i).length:=by
   generalize S.take i = L at hm
   clear h1
   induction L with
   | nil=>simp [loS]
   | cons c L ih =>
     obtain ⟨i1,i2⟩:=ih fun x hx=>hm x (by simp [hx])
     have:=hm c (by simp)
     simp only [loS,List.map_cons,List.sum_cons,List.length_cons] at i1 i2 ⊢
     omega
  have h3 : (S.take i).length ≤ 19:=by rw [List.length_take];omega
  omega
 have hall:=hsub S.length
 rw [List.take_length] at hall
 have hG0 : GOk (r.d - loS S,loV S):=⟨⟨by simp only;omega,by simp only;omega⟩,by simp only;omega,by simp only;omega⟩
 refine mcalls_st (n:=77) (rs:=[.r (i64 (overD most (fillG S (r.d - loS S,loV S)).2 r.d))]) _ _ [.tmp 4] Tryz.func199 rfl (by kernel_rfl) Tryz.ntmps199 rfl (by simp) rfl rfl fun C=>?_
 refine zq ?_
 refine zb fun K hK=>?_;simp only [go_sem];refine hK _ ?_;clear hK K;refine zw (zfP 2 2 [sideP r most T] (by omega) rfl rfl) ?_;refine zw (zk [1,2]) ?_;simp only [go_sem]
 refine zq ?_
 refine zb fun K hK=>?_;simp only [go_sem]
 refine xcall_mut (mcalls_fn hsort) [(1000,1000)] rfl (by simp only [go_sem,i64,ints]) (by simp only [go_sem,i64,ints]) (by rfl) (by rfl) ?_
 (try simp only [go_sem]);refine hK _ ?_;clear hK K;refine zw (zk [1,2]) ?_;simp only [go_sem]
 refine zq ?_
 refine zb fun K hK=>?_;simp only [go_sem];refine hK _ ?_;clear hK K;refine zw (zk [1,2,5,6]) ?_;simp only [go_sem]
 repeat refine zq ?_
 refine zb fun K hK=>?_;simp only [go_sem]
 intro _
 refine hK _ ?_;clear hK K;refine zw (zk [1,2,5,6,22,23,24]) ?_;simp only [go_sem];refine zd ?_
 refine zuv (n:=77) l.length (fun i vs=>[(1,.os 1000 (vs 1000) 3 0 l.length),(2,.r (.rp [sideP r most T])),(5,.r (i64 (r.d - loS (S.take i)))),(6,.r (i64 (loV (S.take i)))),(22,.os 1000 (vs 1000) 3 0 l.length),(23,.r (i64 l.length)),(24,.r (i64 i))])
  (fun i vs=>[(1000,.arr 264 3 (idx S))]) (fun _=>True) 0 (zj [] ?_ ?_) (Nat.zero_le _) trivial ?_
 · try simp only [go_sem]
   simp [loS,loV]
 · try simp only [go_sem]
 · intro i vs hi _
   refine zq ?_
   refine zb fun K hK=>?_;simp only [go_sem];refine hK _ ?_;clear hK K;refine zw (zk [1,2,5,6,22,23,24,25]) ?_;simp only [go_sem]
   refine zq ?_
   refine zc rfl (fun hc=>?_) (fun hc=>?_) <;> (try simp only [go_sem] at hc)
   · have hci : i < S.length:=by omega
     obtain ⟨c,hx⟩:=zol hci
     obtain ⟨⟨b0,b1⟩,g0,g1,g2⟩:=hSe c (zmo hx)
     have m0:=Int.mul_nonneg g0 b0
     have m1 : c.lo * c.b ≤ 3000 * 1000000:=Int.mul_le_mul (by omega) b1 b0 (by omega)
     have hmw : IntKind.i64.wrap (c.lo * c.b) = c.lo * c.b:=by rw [zI] <;> omega
     have hs1:=hsub i
     have hlS : loS (S.take (i + 1)) = loS (S.take i) + c.lo:=by rw [zto hx,loS_snoc]
     have hlV : loV (S.take (i + 1)) = loV (S.take i) + c.lo * c.b:=by rw [zto hx,loV_snoc]
     refine zx ?_
     try simp only [go_sem]
     refine zq ?_
     refine zd ?_
     refine zq ?_
     refine zb fun K hK=>?_;simp only [go_sem,hx,hci,hSl,bedR]
     refine ⟨by omega,?_⟩
     refine hK _ ?_;clear hK K;refine zw (zfP 8 8 (bedR c) (by omega) rfl rfl) ?_;simp only [go_sem,bedR];refine zw (zk [1,2,5,6,8,22,23,24]) ?_;simp only [go_sem];refine zg follows (by decide +kernel) (by kernel_rfl) fun K hK=>?_;simp only [go_sem,hmw];(try simp (disch:=omega) only [zI]);refine hK _ ?_;clear hK K;refine zw (zk [1,2,5,6,22,23,24]) ?_;simp only [go_sem];refine zb fun K hK=>?_;simp only [go_sem];(try simp (disch:=omega) only [zI]);refine hK _ ?_;clear hK K
     try simp only [go_sem]
     refine ⟨by omega,zj [] ?_ ?_⟩
     · try simp only [go_sem]
       rw [hlS,hlV]
       exact ⟨by rw [Int.sub_sub],rfl⟩
     · try simp only [go_sem]
   · have hil : i = S.length:=by omega
     subst hil
     rw [List.take_length]
     refine zf ?_;simp only [go_sem]
     repeat refine zq ?_
     refine zb fun K hK=>?_;simp only [go_sem]
     intro _
     refine hK _ ?_;clear hK K;refine zw (zk [2,5,6,42,43,44]) ?_;simp only [go_sem];refine zd ?_
     refine zuv (n:=77) l.length (fun i vs=>[(2,.r (.rp [sideP r most T])),(5,.r (i64 (fillG (S.take i) (r.d - loS S,loV S)).1)),(6,.r (i64 (fillG (S.take i) (r.d - loS S,loV S)).2)),(42,.os 1000 (vs 1000) 3 0 l.length),(43,.r (i64 l.length)),(44,.r (i64 i))])
      (fun i vs=>[(1000,.arr 264 3 (idx S))]) (fun _=>True) 0 (zj [] ?_ ?_) (Nat.zero_le _) trivial ?_
     · try simp only [go_sem]
       simp [fillG]
     · try simp only [go_sem]
     · intro i vs hi2 _
       have hG : GOk (fillG (S.take i) (r.d - loS S,loV S)):=gOk_all (fun c hc=>hSe c (List.mem_of_mem_take hc)) hG0
       refine zq ?_
       refine zb fun K hK=>?_;simp only [go_sem];refine hK _ ?_;clear hK K;refine zw (zk [2,5,6,42,43,44,45]) ?_;simp only [go_sem]
       refine zq ?_
       refine zc rfl (fun hc=>?_) (fun hc=>?_) <;> (try simp only [go_sem] at hc)
       · have hci : i < S.length:=by omega
         obtain ⟨c,hx⟩:=zol hci
         obtain ⟨⟨b0,b1⟩,g0,g1,g2⟩:=hSe c (zmo hx)
         obtain ⟨⟨k0,k1⟩,⟨k2,k3⟩,k4⟩:=gOk_step hG (hSe c (zmo hx))
         rw [zto hx,fillG_snoc]
         obtain ⟨⟨q1,q2⟩,q3,q4⟩:=hG
         generalize fillG (S.take i) (r.d - loS S,loV S) = X at *
         obtain ⟨lf,sm⟩:=X
         simp only at *
         have hsw : IntKind.i64.wrap (c.hi - c.lo) = c.hi - c.lo:=by rw [zI] <;> omega
         generalize hmm : min lf (c.hi - c.lo) = m at *
         have hmw : IntKind.i64.wrap (m * c.b) = m * c.b:=by rw [zI] <;> omega
         refine zx ?_
         try simp only [go_sem]
         refine zq ?_
         refine zd ?_
         refine zq ?_
         refine zb fun K hK=>?_;simp only [go_sem,hx,hci,hSl,bedR]
         refine ⟨by omega,?_⟩
         refine hK _ ?_;clear hK K;refine zw (zfP 10 10 (bedR c) (by omega) rfl rfl) ?_;simp only [go_sem,bedR];refine zw (zk [2,5,6,10,42,43,44]) ?_;simp only [go_sem]
         refine zq ?_
         refine zb fun K hK=>?_;simp only [go_sem,hsw,hmm];refine hK _ ?_;clear hK K;refine zw (zk [2,5,6,10,11,42,43,44]) ?_;simp only [go_sem];refine zg follows (by decide +kernel) (by kernel_rfl) fun K hK=>?_;simp only [go_sem,hmw];(try simp (disch:=omega) only [zI]);refine hK _ ?_;clear hK K;refine zw (zk [2,5,6,42,43,44]) ?_;simp only [go_sem];refine zb fun K hK=>?_;simp only [go_sem];(try simp (disch:=omega) only [zI]);refine hK _ ?_;clear hK K
         try simp only [go_sem]
         refine ⟨by omega,zj [] ?_ ?_⟩
         · try simp only [go_sem]
         · try simp only [go_sem]
       · have hil : i = S.length:=by omega
         subst hil
         rw [List.take_length] at hG ⊢
         have hov:=over_ok r most T (fillG S (r.d - loS S,loV S)).2 r.d hG.2.1 (by have:=hG.1;have:=hG.2.2;omega) (by omega) (by omega)
         refine zf ?_;simp only [go_sem]
         refine zq ?_
         refine zg follows (by decide +kernel) (by kernel_rfl) fun K hK=>?_;simp only [go_sem]
         refine zh (hov) rfl (by simp only [go_sem,i64,ints]) (by simp only [go_sem,i64,ints]) (by first | exact .inl rfl | exact .inr rfl) ?_
         (try simp only [go_sem]);refine hK _ ?_;clear hK K;refine zw (zk [4]) ?_;simp only [go_sem];refine ze ?_;simp only [go_sem]
abbrev visC (r : Ru) (most : Bool) (T : List (List Int)) (k st : Int) (m v : Nat) : List AV:=[.r (sideP r most T),.r (i64 k),.r (i64 st),.mp m v]
theorem newVisit_ok (r : Ru) (most : Bool) (T : List (List Int)) (k st : Int) :
 NCalls Tryz.prog 163 [sideP r most T,i64 k,i64 st] [(12,.box (visC r most T k st 10 0)),(10,.mp [])] (.pt 12 0 0):=by
 refine ncalls_st (n:=13) _ _ (.tmp 6) Tryz.func163 rfl (by kernel_rfl) Tryz.ntmps163 rfl (by simp) rfl rfl fun C hC=>?_
 refine zq ?_
 refine zb fun K hK=>?_;simp only [go_sem];refine hK _ ?_;clear hK K;refine zw (zk [0,1,2]) ?_;simp only [go_sem]
 refine zq ?_
 refine zb fun K hK=>?_;simp only [go_sem];refine hK _ ?_;clear hK K;refine zw (zk [6]) ?_;simp only [go_sem];refine ze ?_
 try simp only [go_sem]
def nextV (r : Ru) (most : Bool) (T : List (List Int)) (k st : Nat) (val : Nat → Int) (last : Bool) (left : Nat) (b : Int) : Int :=
 if decide (0 < scoreOf b) && (decide ((left : Int) - scoreOf b = 0) && opensD r.out b) then 1000000
 else if decide (0 < scoreOf b) && decide ((left : Int) - scoreOf b < lowestR r) then afterD r most T k st
 else if last then afterD r most T k ((left : Int) - scoreOf b).toNat
 else val ((left : Int) - scoreOf b).toNat
def maxL (l : List Int) : Int:=l.foldl max (l.headD 0)
def chW (f : Int → Int) (l : List Bd) : List Bd:=l.map fun c=>⟨f c.b,c.lo,c.hi⟩
def meansV (r : Ru) (most : Bool) (f : Int → Int) : List Int:=r.aims.map fun a=>meanD most r.d (chW f a.beds)
def valV (r : Ru) (most : Bool) (T : List (List Int)) (k st : Nat) : Nat → Nat → Int
 | 0,_=>0
 | n + 1,left=>maxL (meansV r most (nextV r most T k st (valV r most T k st n) (decide (n = 0)) left))
def memoV (r : Ru) (most : Bool) (T : List (List Int)) (k st : Nat) (m : List (RV × RV)) : Prop :=
 ∀ e ∈ m,∃ n left : Nat,e = (.ag [i64 (left : Int),i64 (n : Int)],i64 (valV r most T k st n left))
theorem memo_find {r : Ru} {most : Bool} {T : List (List Int)} {k st n left : Nat} : ∀ {m : List (RV × RV)} {i : Nat},memoV r most T k st m →
 findK (.ag [i64 (left : Int),i64 (n : Int)]) m i = some none ∨ ∃ j,findK (.ag [i64 (left : Int),i64 (n : Int)]) m i = some (some (j,i64 (valV r most T k st n left)))
 | [],i,_=>.inl rfl
 | e :: m, i, h => by
   obtain ⟨n',left',rfl⟩:=h e (by simp)
   have ih:=memo_find (n:=n) (left:=left) (m:=m) (i:=i + 1) fun x hx=>h x (by simp [hx])
   by_cases he : left = left' ∧ n = n'
   · obtain ⟨rfl,rfl⟩:=he
     exact .inr ⟨i,by simp [findK,sameK,cmpL,i64]⟩
   · have hf : sameK (.ag [i64 (left : Int),i64 (n : Int)]) (.ag [i64 (left' : Int),i64 (n' : Int)]) = some false:=by
      simp only [sameK,cmpL,i64,if_true,Option.some.injEq,Bool.and_true,Bool.and_eq_false_iff,beq_eq_false_iff_ne]
      omega
     simp only [findK,hf];exact ih
theorem memo_set {r : Ru} {most : Bool} {T : List (List Int)} {k st n left : Nat} {m : List (RV × RV)} (h : memoV r most T k st m) (i : Nat) : memoV r most T k st (m.set i (.ag [i64 (left : Int),i64 (n : Int)],i64 (valV r most T k st n left))):=fun e he=>by
 rcases List.mem_or_eq_of_mem_set he with he | rfl
 · exact h e he
 · exact ⟨n,left,rfl⟩
theorem memo_app {r : Ru} {most : Bool} {T : List (List Int)} {k st n left : Nat} {m : List (RV × RV)} (h : memoV r most T k st m) : memoV r most T k st (m ++ [(.ag [i64 (left : Int),i64 (n : Int)],i64 (valV r most T k st n left))]):=fun e he=>by
 rcases List.mem_append.1 he with he | he
 · exact h e he
 · rw [List.mem_singleton] at he;exact ⟨n,left,he⟩
abbrev visL (r : Ru) (most : Bool) (T : List (List Int)) (k st : Nat) : List (Nat × RowC):=[(1000,.box (visC r most T (k : Int) (st : Int) 1001 0)),(1001,.mem (memoV r most T k st))]
structure VisG (r : Ru) (T : List (List Int)) (k st : Nat) : Prop where
 kk : k < r.ends.length
 h10 : r.ends.length ≤ 10
 ends : ∀ x ∈ r.ends,endOk x = true
 st40 : (st : Int) ≤ r.start
 s40 : r.start ≤ 40
 tab : ∀ left : Nat,(left : Int) ≤ r.start → ∃ row v,k + 1 < r.ends.length → T[k + 1]? = some row ∧ row[left]? = some v ∧ 0 ≤ v ∧ v ≤ 1000000
theorem VisG.after {r : Ru} {T : List (List Int)} {k st : Nat} (h : VisG r T k st) (most : Bool) {left : Nat} (hl : (left : Int) ≤ r.start) : ACalls Tryz.prog 91 [sideP r most T,i64 k,i64 left] (i64 (afterD r most T k left)):=by
 obtain ⟨row,v,hv⟩:=h.tab left hl
 exact after_ok r most T k left row v h.kk h.h10 h.ends hv
theorem next_ok (r : Ru) (most : Bool) (T : List (List Int)) (k st n left : Nat) (b : Int) (hG : VisG r T k st) (hl1 : 1 ≤ left) (hl : (left : Int) ≤ r.start) (hn : n ≤ 100) (b0 : 0 ≤ b) (b1 : b ≤ 499)
 (hval : n ≠ 0 → ∀ left' : Nat,1 ≤ left' → (left' : Int) ≤ r.start → MCalls Tryz.prog 164 (visL r most T k st) (visL r most T k st) [.pt 1000 0 0,.r (.ag [i64 (left' : Int),i64 (n : Int)])] (.r (i64 (valV r most T k st n left')))) :
 MCalls Tryz.prog 198 (visL r most T k st) (visL r most T k st) [.pt 1000 0 0,.r (.ag [i64 (left : Int),i64 ((n : Int) + 1)]),.r (i64 b)] (.r (i64 (nextV r most T k st (valV r most T k st n) (decide (n = 0)) left b))):=by
 have h40:=hG.s40
 have hq:=tdiv100 (b:=b) ⟨by omega,by omega⟩
 have hm:=score_mul b0 b1
 obtain ⟨s0,s1⟩:=score_le b0 b1
 obtain ⟨x,hx⟩ : ∃ x,x = scoreOf b:=⟨_,rfl⟩
 have hdn : IntKind.i64.wrap ((n : Int) + 1 - 1) = n:=by rw [zI] <;> omega
 have hlx : IntKind.i64.wrap ((left : Int) - scoreOf b) = left - scoreOf b:=by rw [zI] <;> omega
 have hop:=opens_ok r b b0 b1
 have hlo : ACalls Tryz.prog 128 [ruV r] (i64 (lowestR r)):=dlowest_ok r
 refine mcalls_st (n:=88) (rs:=[.r (i64 (nextV r most T k st (valV r most T k st n) (decide (n = 0)) left b))]) _ _ [.tmp 6] Tryz.func198 rfl (by kernel_rfl) Tryz.ntmps198 rfl (by simp) rfl rfl fun C=>?_
 refine zq ?_
 refine zb fun K hK=>?_;simp only [go_sem];refine hK _ ?_;clear hK K;refine zw (zk [0,2,4]) ?_;simp only [go_sem]
 refine zq ?_
 refine zb fun K hK=>?_;simp only [go_sem,hq,hm];refine hK _ ?_;clear hK K;refine zw (zk [0,2,4,7]) ?_;simp only [go_sem]
 refine zq ?_
 refine zb fun K hK=>?_;simp only [go_sem,hlx];refine hK _ ?_;clear hK K;refine zw (zk [0,2,4,7]) ?_;simp only [go_sem]
 refine zq ?_
 refine zb fun K hK=>?_;simp only [go_sem,hdn];refine hK _ ?_;clear hK K;refine zw (zk [0,2,4,7]) ?_;simp only [go_sem]
 rw [← hx] at hlx ⊢
 refine zq ?_
 refine zd ?_
 have hst:=hG.after most hG.st40
 have hv : nextV r most T k st (valV r most T k st n) (decide (n = 0)) left b = if decide (0 < x) && (decide ((left : Int) - x = 0) && opensD r.out b) then 1000000
  else if decide (0 < x) && decide ((left : Int) - x < lowestR r) then afterD r most T k st else if n = 0 then afterD r most T k ((left : Int) - x).toNat else valV r most T k st n ((left : Int) - x).toNat:=by
  unfold nextV;rw [← hx];simp only [decide_eq_true_eq]
 by_cases c1 : 0 < x
 · have d1 : decide (0 < x) = true:=by simpa using c1
   by_cases c2 : (left : Int) - x = 0
   · have d2 : ((left : Int) - x == 0) = true:=by simpa using c2
     cases c3 : opensD r.out b
     · have c4 : (left : Int) - x < lowestR r:=by unfold lowestR;split <;> omega
       have d4 : decide ((left : Int) - x < lowestR r) = true:=by simpa using c4
       rw [c3] at hop
       refine zq ?_
       refine zb fun K hK=>?_;simp only [go_sem,d1,d2]
       refine zh (hop) rfl (by simp only [go_sem,i64,ints,d1,d2]) (by simp only [go_sem,i64,ints,d1,d2]) (by first | exact .inl rfl | exact .inr rfl) ?_
       (try simp only [go_sem,d1,d2]);refine hK _ ?_;clear hK K;refine zw (zk [0,4,7,22]) ?_;simp only [go_sem]
       refine zc rfl (fun hc=>?_) (fun hc=>?_) <;> (try simp only [go_sem] at hc)
       refine zq ?_
       refine zg follows (by decide +kernel) (by kernel_rfl) fun K hK=>?_;simp only [go_sem,d1,d4]
       refine zh (hlo) rfl (by simp only [go_sem,i64,ints,d1,d4]) (by simp only [go_sem,i64,ints,d1,d4]) (by first | exact .inl rfl | exact .inr rfl) ?_
       (try simp only [go_sem,d1,d4]);refine hK _ ?_;clear hK K;refine zw (zk [0,4,41]) ?_;simp only [go_sem]
       refine zc rfl (fun hc=>?_) (fun hc=>?_) <;> (try simp only [go_sem] at hc)
       refine zq ?_
       refine zg follows (by decide +kernel) (by kernel_rfl) fun K hK=>?_;simp only [go_sem]
       refine zh (hst) rfl (by simp only [go_sem,i64,ints]) (by simp only [go_sem,i64,ints]) (by first | exact .inl rfl | exact .inr rfl) ?_
       (try simp only [go_sem]);refine hK _ ?_;clear hK K;refine zw (zk [6]) ?_;simp only [go_sem];refine ze ?_;simp only [go_sem]
       rw [hv];simp [c1,c3,c4]
     · rw [c3] at hop
       refine zq ?_
       refine zb fun K hK=>?_;simp only [go_sem,d1,d2]
       refine zh (hop) rfl (by simp only [go_sem,i64,ints,d1,d2]) (by simp only [go_sem,i64,ints,d1,d2]) (by first | exact .inl rfl | exact .inr rfl) ?_
       (try simp only [go_sem,d1,d2]);refine hK _ ?_;clear hK K;refine zw (zk [0,4,7,22]) ?_;simp only [go_sem]
       refine zc rfl (fun hc=>?_) (fun hc=>?_) <;> (try simp only [go_sem] at hc)
       refine zq ?_
       refine zb fun K hK=>?_;simp only [go_sem];refine hK _ ?_;clear hK K;refine zw (zk [6]) ?_;simp only [go_sem];refine ze ?_;simp only [go_sem]
       rw [hv];simp [c1,c2,c3]
   · have d2 : ((left : Int) - x == 0) = false:=by simpa using c2
     refine zq ?_
     refine zb fun K hK=>?_;simp only [go_sem,d1,d2];refine hK _ ?_;clear hK K;refine zw (zk [0,4,7,22]) ?_;simp only [go_sem]
     refine zc rfl (fun hc=>?_) (fun hc=>?_) <;> (try simp only [go_sem] at hc)
     by_cases c4 : (left : Int) - x < lowestR r
     · have d4 : decide ((left : Int) - x < lowestR r) = true:=by simpa using c4
       refine zq ?_
       refine zg follows (by decide +kernel) (by kernel_rfl) fun K hK=>?_;simp only [go_sem,d1,d4]
       refine zh (hlo) rfl (by simp only [go_sem,i64,ints,d1,d4]) (by simp only [go_sem,i64,ints,d1,d4]) (by first | exact .inl rfl | exact .inr rfl) ?_
       (try simp only [go_sem,d1,d4]);refine hK _ ?_;clear hK K;refine zw (zk [0,4,41]) ?_;simp only [go_sem]
       refine zc rfl (fun hc=>?_) (fun hc=>?_) <;> (try simp only [go_sem] at hc)
       refine zq ?_
       refine zg follows (by decide +kernel) (by kernel_rfl) fun K hK=>?_;simp only [go_sem]
       refine zh (hst) rfl (by simp only [go_sem,i64,ints]) (by simp only [go_sem,i64,ints]) (by first | exact .inl rfl | exact .inr rfl) ?_
       (try simp only [go_sem]);refine hK _ ?_;clear hK K;refine zw (zk [6]) ?_;simp only [go_sem];refine ze ?_;simp only [go_sem]
       rw [hv];simp [c1,c2,c4]
     · have d4 : decide ((left : Int) - x < lowestR r) = false:=by simpa using c4
       have hl1' : 1 ≤ lowestR r:=by unfold lowestR;split <;> omega
       obtain ⟨y,hy⟩ : ∃ y : Nat,(left : Int) - x = (y : Int):=⟨((left : Int) - x).toNat,by omega⟩
       have hyn : ((left : Int) - x).toNat = y:=by omega
       have haf:=hG.after most (left:=y) (by omega)
       rw [hy] at c2 c4
       refine zq ?_
       refine zg follows (by decide +kernel) (by kernel_rfl) fun K hK=>?_;simp only [go_sem,d1,d4]
       refine zh (hlo) rfl (by simp only [go_sem,i64,ints,d1,d4]) (by simp only [go_sem,i64,ints,d1,d4]) (by first | exact .inl rfl | exact .inr rfl) ?_
       (try simp only [go_sem,d1,d4]);refine hK _ ?_;clear hK K;refine zw (zk [0,4,41]) ?_;simp only [go_sem]
       refine zc rfl (fun hc=>?_) (fun hc=>?_) <;> (try simp only [go_sem] at hc)
       by_cases c5 : n = 0
       · have d5 : ((n : Int) == 0) = true:=by simpa using c5
         refine zq ?_
         refine zb fun K hK=>?_;simp only [go_sem,d5];refine hK _ ?_;clear hK K;refine zw (zk [0,4,70]) ?_;simp only [go_sem]
         refine zc rfl (fun hc=>?_) (fun hc=>?_) <;> (try simp only [go_sem] at hc)
         refine zq ?_
         refine zg follows (by decide +kernel) (by kernel_rfl) fun K hK=>?_;simp only [go_sem,hy]
         refine zh (haf) rfl (by simp only [go_sem,i64,ints]) (by simp only [go_sem,i64,ints]) (by first | exact .inl rfl | exact .inr rfl) ?_
         (try simp only [go_sem]);refine hK _ ?_;clear hK K;refine zw (zk [6]) ?_;simp only [go_sem];refine ze ?_;simp only [go_sem]
         have c2' : ¬ y = 0:=by omega
         rw [hv,hyn];simp [c1,c2,c2',c4,c5,hy]
       · have d5 : ((n : Int) == 0) = false:=by simpa using c5
         have hvl:=hval c5 y (by omega) (by omega)
         refine zq ?_
         refine zb fun K hK=>?_;simp only [go_sem,d5];refine hK _ ?_;clear hK K;refine zw (zk [0,4,70]) ?_;simp only [go_sem]
         refine zc rfl (fun hc=>?_) (fun hc=>?_) <;> (try simp only [go_sem] at hc)
         refine zx ?_
         try simp only [go_sem]
         refine zw (zfP 4 4 [i64 ((left : Int) - x),i64 (n : Int)] (by omega) rfl rfl) ?_;refine zw (zk [0,4]) ?_;simp only [go_sem]
         refine zq ?_
         refine zb fun K hK=>?_;simp only [go_sem,hy]
         refine xcall_mut (hvl) [(1000,1000),(1001,1001)] rfl (by simp only [go_sem,i64,ints]) (by simp only [go_sem,i64,ints]) (by rfl) (by rfl) ?_
         (try simp only [go_sem]);refine hK _ ?_;clear hK K;refine zw (zk [6]) ?_;simp only [go_sem];refine ze ?_;simp only [go_sem]
         have c2' : ¬ y = 0:=by omega
         rw [hv,hyn];simp [c1,c2,c2',c4,c5,hy]
 · have d1 : decide (0 < x) = false:=by simpa using c1
   have hx0 : x = 0:=by omega
   refine zq ?_
   refine zb fun K hK=>?_;simp only [go_sem,d1];refine hK _ ?_;clear hK K;refine zw (zk [0,4,7,22]) ?_;simp only [go_sem]
   refine zc rfl (fun hc=>?_) (fun hc=>?_) <;> (try simp only [go_sem] at hc)
   refine zq ?_
   refine zg follows (by decide +kernel) (by kernel_rfl) fun K hK=>?_;simp only [go_sem,d1];refine hK _ ?_;clear hK K;refine zw (zk [0,4,41]) ?_;simp only [go_sem]
   have haf:=hG.after most hl
   have hx1 : ((left : Int) - x).toNat = left:=by omega
   subst hx0
   simp only [Int.sub_zero] at hx1 ⊢
   refine zc rfl (fun hc=>?_) (fun hc=>?_) <;> (try simp only [go_sem] at hc)
   by_cases c5 : n = 0
   · have d5 : ((n : Int) == 0) = true:=by simpa using c5
     refine zq ?_
     refine zb fun K hK=>?_;simp only [go_sem,d5];refine hK _ ?_;clear hK K;refine zw (zk [0,4,70]) ?_;simp only [go_sem]
     refine zc rfl (fun hc=>?_) (fun hc=>?_) <;> (try simp only [go_sem] at hc)
     refine zq ?_
     refine zg follows (by decide +kernel) (by kernel_rfl) fun K hK=>?_;simp only [go_sem]
     refine zh (haf) rfl (by simp only [go_sem,i64,ints]) (by simp only [go_sem,i64,ints]) (by first | exact .inl rfl | exact .inr rfl) ?_
     (try simp only [go_sem]);refine hK _ ?_;clear hK K;refine zw (zk [6]) ?_;simp only [go_sem];refine ze ?_;simp only [go_sem]
     rw [hv];simp [c1,c5]
   · have d5 : ((n : Int) == 0) = false:=by simpa using c5
     have hvl:=hval c5 left (by omega) (by omega)
     refine zq ?_
     refine zb fun K hK=>?_;simp only [go_sem,d5];refine hK _ ?_;clear hK K;refine zw (zk [0,4,70]) ?_;simp only [go_sem]
     refine zc rfl (fun hc=>?_) (fun hc=>?_) <;> (try simp only [go_sem] at hc)
     refine zx ?_
     try simp only [go_sem]
     refine zw (zfP 4 4 [i64 (left : Int),i64 (n : Int)] (by omega) rfl rfl) ?_;refine zw (zk [0,4]) ?_;simp only [go_sem]
     refine zq ?_
     refine zb fun K hK=>?_;simp only [go_sem]
     refine xcall_mut (hvl) [(1000,1000),(1001,1001)] rfl (by simp only [go_sem,i64,ints]) (by simp only [go_sem,i64,ints]) (by rfl) (by rfl) ?_
     (try simp only [go_sem]);refine hK _ ?_;clear hK K;refine zw (zk [6]) ?_;simp only [go_sem];refine ze ?_;simp only [go_sem]
     rw [hv];simp [c1,c5]
theorem max_ok (l : List Int) (h : l ≠ []) (hl : l.length ≤ 1000000) : ACalls Tryz.prog 187 [ints l] (i64 (maxL l)):=by
 have hp : 0 < l.length:=List.length_pos_iff.2 h
 have d0 : decide ((l.length : Int) < 1) = false:=by simp;omega
 obtain ⟨x0,hx0⟩:=zol hp
 have hhd : l.headD 0 = x0:=by cases l with | nil=>exact absurd rfl h | cons a l=>simpa using hx0
 have hs : ∀ i v,l[i]? = some v → (l.take (i + 1)).foldl max x0 = max ((l.take i).foldl max x0) v:=fun i v hv=>by
  rw [List.take_add_one,hv];simp
 refine zas (rs:=[i64 (maxL l)]) [.tmp 2] Tryz.func187 rfl (by kernel_rfl) Tryz.ntmps187 rfl (by simp) rfl fun C vs=>?_
 refine zq ?_
 refine zb fun K hK=>?_;simp only [go_sem];refine hK _ ?_;clear hK K;refine zw (zk [0]) ?_;simp only [go_sem]
 repeat refine zq ?_
 refine zb fun K hK=>?_;simp only [go_sem,d0]
 intro _
 refine hK _ ?_;clear hK K;refine zw (zk [0,7]) ?_;simp only [go_sem]
 refine zc rfl (fun hc=>?_) (fun hc=>?_) <;> (try simp only [go_sem] at hc)
 refine zx ?_
 try simp only [go_sem]
 refine zq ?_
 refine zb fun K hK=>?_;simp only [go_sem,hx0]
 refine ⟨by omega,?_⟩
 refine hK _ ?_;clear hK K;refine zw (zk [0,3]) ?_;simp only [go_sem]
 repeat refine zq ?_
 refine zb fun K hK=>?_;simp only [go_sem];refine hK _ ?_;clear hK K;refine zw (zk [0,3,4]) ?_;simp only [go_sem];refine zd ?_
 refine zup (n:=25) l.length (fun i vs=>[(0,.r (ints l)),(3,.r (i64 ((l.take i).foldl max x0))),(4,.r (i64 i))])
  (fun i=>[]) (fun _=>True) 1 (zfo [] ?_ ?_) (by omega) trivial ?_
 · try simp only [go_sem]
   rw [show (1 : Nat) = 0 + 1 from rfl,hs 0 x0 hx0];simp
 · try simp only [go_sem]
 · intro i vs hi _
   repeat refine zq ?_
   refine zb fun K hK=>?_;simp only [go_sem]
   intro _
   refine hK _ ?_;clear hK K;refine zw (zk [0,3,4,15]) ?_;simp only [go_sem]
   refine zc rfl (fun hc=>?_) (fun hc=>?_) <;> (try simp only [go_sem] at hc)
   · have hci : i < l.length:=by omega
     obtain ⟨v,hv⟩:=zol hci
     refine zx ?_
     try simp only [go_sem]
     refine zq ?_
     refine zd ?_;refine zb fun K hK=>?_;simp only [go_sem,hv]
     refine ⟨by omega,?_⟩
     refine hK _ ?_;clear hK K;refine zw (zk [0,3,4]) ?_;simp only [go_sem];refine zb fun K hK=>?_;simp only [go_sem];(try simp (disch:=omega) only [zI]);refine hK _ ?_;clear hK K
     try simp only [go_sem]
     refine ⟨by omega,zfo [] ?_ ?_⟩
     · try simp only [go_sem]
       rw [hs i v hv]
     · try simp only [go_sem]
   · have hil : i = l.length:=by omega
     refine zf ?_;simp only [go_sem]
     refine zq ?_
     refine zb fun K hK=>?_;simp only [go_sem];refine hK _ ?_;clear hK K;refine zw (zk [2]) ?_;simp only [go_sem];refine ze ?_;simp only [go_sem];rw [maxL,hhd,hil,List.take_length]
theorem value_ok (r : Ru) (most : Bool) (T : List (List Int)) (k st n left : Nat) (hn : n ≤ 100) (hl : left ≤ 40) (hne : r.aims ≠ []) (hle : r.aims.length ≤ 1000)
 (hme : MCalls Tryz.prog 188 (visL r most T k st) (visL r most T k st) [.pt 1000 0 0,.r (.ag [i64 (left : Int),i64 ((n + 1 : Nat) : Int)])] (.r (ints (meansV r most (nextV r most T k st (valV r most T k st n) (decide (n = 0)) left))))) :
 MCalls Tryz.prog 164 (visL r most T k st) (visL r most T k st) [.pt 1000 0 0,.r (.ag [i64 (left : Int),i64 ((n + 1 : Nat) : Int)])] (.r (i64 (valV r most T k st (n + 1) left))):=by
 have hmx:=max_ok (meansV r most (nextV r most T k st (valV r most T k st n) (decide (n = 0)) left)) (by simp [meansV,hne]) (by simp [meansV];omega)
 have hval : maxL (meansV r most (nextV r most T k st (valV r most T k st n) (decide (n = 0)) left)) = valV r most T k st (n + 1) left:=rfl
 rw [hval] at hmx
 refine mcalls_st (n:=29) (rs:=[.r (i64 (valV r most T k st (n + 1) left))]) _ _ [.tmp 4] Tryz.func164 rfl (by kernel_rfl) Tryz.ntmps164 rfl (by simp) rfl rfl fun C=>?_
 refine zq ?_
 refine zb fun K hK=>?_;simp only [go_sem];refine hK _ ?_;clear hK K;refine zw (zfP 3 3 [i64 (left : Int),i64 ((n + 1 : Nat) : Int)] (by omega) rfl rfl) ?_;refine zw (zk [0,3]) ?_;simp only [go_sem]
 refine zq ?_
 refine awp_openM 1001 (by rfl) fun m hm=>?_
 try simp only [go_sem]
 have ecast : (((n + 1 : Nat)) : Int) = (n : Int) + 1:=by omega
 rcases memo_find (n:=n + 1) (left:=left) (i:=0) hm with hf | ⟨j,hf⟩
 · rw [ecast] at hf
   refine zg follows (by decide +kernel) (by kernel_rfl) fun K hK=>?_;simp only [go_sem,hf,Bool.and_self,eq_self,true_and];refine hK _ ?_;clear hK K;refine zw (sub_shutM (memoV r most T k st) 1001 (by rfl) hm) ?_;refine zw (zk [0,3,5,6]) ?_;simp only [go_sem]
   repeat refine zq ?_
   refine zb fun K hK=>?_;simp only [go_sem];refine hK _ ?_;clear hK K;refine zw (zk [0,3,5,17]) ?_;simp only [go_sem]
   refine zc rfl (fun hc=>?_) (fun hc=>?_) <;> (try simp only [go_sem] at hc)
   refine zq ?_
   refine zb fun K hK=>?_;simp only [go_sem]
   refine xcall_mut (hme) [(1000,1000),(1001,1001)] rfl (by simp only [go_sem,i64,ints]) (by simp only [go_sem,i64,ints]) (by rfl) (by rfl) ?_
   (try simp only [go_sem])
   refine zh (hmx) rfl (by simp only [go_sem,i64,ints]) (by simp only [go_sem,i64,ints]) (by first | exact .inl rfl | exact .inr rfl) ?_
   (try simp only [go_sem]);refine hK _ ?_;clear hK K;refine zw (zk [0,3,5]) ?_;simp only [go_sem]
   refine awp_openM 1001 (by rfl) fun m' hm'=>?_
   try simp only [go_sem]
   rcases memo_find (n:=n + 1) (left:=left) (i:=0) hm' with hf' | ⟨j,hf'⟩
   · rw [ecast] at hf'
     refine awp_dreg2 [(0,some 1000),(3,none),(5,none)] follows (by decide +kernel) (by kernel_rfl) (by simp only [keysOk,List.mem_cons,List.not_mem_nil,forall_eq_or_imp,Oc.keyOf,go_sem];simp) fun K hK=>?_
     simp only [go_sem,hf',Bool.and_self,eq_self,true_and];refine hK _ ?_;clear hK K;refine zw (sub_shutM (memoV r most T k st) 1001 (by rfl) (by have h:=memo_app (n:=n + 1) (left:=left) hm';rw [ecast] at h;exact h)) ?_;refine zw (zk [5]) ?_;simp only [go_sem]
     refine zq ?_
     refine zb fun K hK=>?_;simp only [go_sem];refine hK _ ?_;clear hK K;refine zw (zk [4]) ?_;simp only [go_sem];refine ze ?_;simp only [go_sem]
   · rw [ecast] at hf'
     refine awp_dreg2 [(0,some 1000),(3,none),(5,none)] follows (by decide +kernel) (by kernel_rfl) (by simp only [keysOk,List.mem_cons,List.not_mem_nil,forall_eq_or_imp,Oc.keyOf,go_sem];simp) fun K hK=>?_
     simp only [go_sem,hf',Bool.and_self,eq_self,true_and];refine hK _ ?_;clear hK K;refine zw (sub_shutM (memoV r most T k st) 1001 (by rfl) (by have h:=memo_set (n:=n + 1) (left:=left) hm' j;rw [ecast] at h;exact h)) ?_;refine zw (zk [5]) ?_;simp only [go_sem]
     refine zq ?_
     refine zb fun K hK=>?_;simp only [go_sem];refine hK _ ?_;clear hK K;refine zw (zk [4]) ?_;simp only [go_sem];refine ze ?_;simp only [go_sem]
 · rw [ecast] at hf
   refine zg follows (by decide +kernel) (by kernel_rfl) fun K hK=>?_;simp only [go_sem,hf,Bool.and_self,eq_self,true_and];refine hK _ ?_;clear hK K;refine zw (sub_shutM (memoV r most T k st) 1001 (by rfl) hm) ?_;refine zw (zk [0,3,5,6]) ?_;simp only [go_sem]
   repeat refine zq ?_
   refine zb fun K hK=>?_;simp only [go_sem];refine hK _ ?_;clear hK K;refine zw (zk [0,3,5,17]) ?_;simp only [go_sem]
   refine zc rfl (fun hc=>?_) (fun hc=>?_) <;> (try simp only [go_sem] at hc)
   refine zx ?_
   try simp only [go_sem]
   refine zq ?_
   refine zb fun K hK=>?_;simp only [go_sem];refine hK _ ?_;clear hK K;refine zw (zk [4]) ?_;simp only [go_sem];refine ze ?_;simp only [go_sem]
theorem means_ok (r : Ru) (most : Bool) (T : List (List Int)) (k st n left : Nat) (f : Int → Int) (hn : n ≤ 100) (hl : left ≤ 40) (hle : r.aims.length ≤ 1000)
 (hch : ∀ a ∈ r.aims,ChG r.d (chW f a.beds)) (hbd : ∀ a ∈ r.aims,∀ c ∈ a.beds,0 ≤ c.b ∧ c.b ≤ 499)
 (hnx : ∀ b,0 ≤ b → b ≤ 499 → MCalls Tryz.prog 198 (visL r most T k st) (visL r most T k st) [.pt 1000 0 0,.r (.ag [i64 (left : Int),i64 ((n : Int) + 1)]),.r (i64 b)] (.r (i64 (f b)))) :
 MCalls Tryz.prog 188 (visL r most T k st) (visL r most T k st) [.pt 1000 0 0,.r (.ag [i64 (left : Int),i64 ((n : Int) + 1)])] (.r (ints (meansV r most f))):=by
 refine mcalls_st (n:=55) (rs:=[.r (ints (meansV r most f))]) _ _ [.tmp 4] Tryz.func188 rfl (by kernel_rfl) Tryz.ntmps188 rfl (by simp) rfl rfl fun C=>?_
 refine zq ?_
 refine zb fun K hK=>?_;simp only [go_sem];refine hK _ ?_;clear hK K;refine zw (zfP 3 3 [i64 (left : Int),i64 ((n : Int) + 1)] (by omega) rfl rfl) ?_;refine zw (zk [0,3,4]) ?_;simp only [go_sem]
 repeat refine zq ?_
 refine zb fun K hK=>?_;simp only [go_sem]
 intro _
 refine hK _ ?_;clear hK K;refine zw (zk [0,3,4,19,20,21]) ?_;simp only [go_sem];refine zw (sub_own 4 52 3 1 (by omega) rfl) ?_
 try simp only [go_sem]
 refine zd ?_
 refine awp_upto0 (n:=55) r.aims.length (fun i vs=>[(0,.pt 1000 0 0),(3,.r (.rp [i64 (left : Int),i64 ((n : Int) + 1)])),(4,.os 52 (vs 52) 1 0 i),(19,.r (aimsR r.aims)),(20,.r (i64 r.aims.length)),(21,.r (i64 i))])
  (fun i=>[(52,.arr 3 1 (((meansV r most f).take i).map fun x=>[i64 x])),(1000,.box (visC r most T (k : Int) (st : Int) 1001 0)),(1001,.mem (memoV r most T k st))]) (fun _=>True) 0 (fit0_of [] (by repeat (first | exact lent_zero | refine lent_upd (by omega) ?_)) ?_ ?_) (by omega) trivial ?_
 · try simp only [go_sem]
 · try simp only [go_sem]
 · intro i vs hv hi _
   have hv0:=hv 1000 (by omega)
   have hv1:=hv 1001 (by omega)
   refine zq ?_
   refine zb fun K hK=>?_;simp only [go_sem];refine hK _ ?_;clear hK K;refine zw (zk [0,3,4,19,20,21,22]) ?_;simp only [go_sem]
   refine zq ?_
   refine zc rfl (fun hc=>?_) (fun hc=>?_) <;> (try simp only [go_sem] at hc)
   · have hci:=hc
     obtain ⟨a,ha⟩:=zol hc
     have haM:=zmo ha
     have hca:=hch a haM
     have hl19:=hca.len
     have hlen : (chW f a.beds).length = a.beds.length:=by simp [chW]
     rw [hlen] at hl19
     refine zx ?_
     try simp only [go_sem]
     refine zq ?_
     refine zd ?_
     refine zq ?_
     refine zb fun K hK=>?_;simp only [go_sem,ha,hci,aimR];refine hK _ ?_;clear hK K;refine zw (zfP 6 6 [i64 a.at_,bedsR a.beds] (by omega) (by try simp only [go_sem]) (by try simp only [go_sem])) ?_;refine zw (zk [0,3,4,6,19,20,21]) ?_;simp only [go_sem]
     refine zq ?_
     refine zb fun K hK=>?_;simp only [go_sem];refine hK _ ?_;clear hK K;refine zw (zk [0,3,4,6,7,19,20,21]) ?_;simp only [go_sem];refine zw (sub_own 7 42 264 3 (by omega) rfl) ?_
     try simp only [go_sem]
     repeat refine zq ?_
     refine zb fun K hK=>?_;simp only [go_sem]
     intro _
     refine hK _ ?_;clear hK K;refine zw (zk [0,3,4,7,19,20,21,26,27,28]) ?_;simp only [go_sem];refine zd ?_
     refine awp_upto0 (n:=55) a.beds.length (fun j vs=>[(0,.pt 1000 0 0),(3,.r (.rp [i64 (left : Int),i64 ((n : Int) + 1)])),(4,.os 52 (vs 52) 1 0 i),(7,.os 42 (vs 42) 3 0 j),(19,.r (aimsR r.aims)),(20,.r (i64 r.aims.length)),(21,.r (i64 i)),(26,.r (bedsR a.beds)),(27,.r (i64 a.beds.length)),(28,.r (i64 j))])
      (fun j=>[(42,.arr 264 3 (idx ((chW f a.beds).take j))),(52,.arr 3 1 (((meansV r most f).take i).map fun x=>[i64 x])),(1000,.box (visC r most T (k : Int) (st : Int) 1001 0)),(1001,.mem (memoV r most T k st))]) (fun _=>True) 0 (fit0_of [] (by repeat (first | exact hv | exact lent_zero | refine lent_upd (by omega) ?_)) ?_ ?_) (by omega) trivial ?_
     · try simp only [go_sem]
     · try simp only [go_sem]
     · intro j vs2 hv2 hj _
       have hv0:=hv2 1000 (by omega)
       have hv1:=hv2 1001 (by omega)
       refine zq ?_
       refine zb fun K hK=>?_;simp only [go_sem];refine hK _ ?_;clear hK K;refine zw (zk [0,3,4,7,19,20,21,26,27,28,29]) ?_;simp only [go_sem]
       refine zq ?_
       refine zc rfl (fun hc=>?_) (fun hc=>?_) <;> (try simp only [go_sem] at hc)
       · have hcj:=hc
         obtain ⟨c,hc1⟩:=zol hc
         have hbc:=hbd a haM c (zmo hc1)
         have hnc:=hnx c.b hbc.1 hbc.2
         have htk : (chW f a.beds).take (j + 1) = (chW f a.beds).take j ++ [⟨f c.b,c.lo,c.hi⟩]:=zto (by simp [chW,hc1])
         have hlj : ((chW f a.beds).take j).length = j:=by rw [List.length_take,hlen];omega
         refine zx ?_
         try simp only [go_sem]
         refine zq ?_
         refine zd ?_
         refine zq ?_
         refine zb fun K hK=>?_;simp only [go_sem,hc1,hcj,bedR];refine hK _ ?_;clear hK K;refine zw (zfP 9 9 [i64 c.b,i64 c.lo,i64 c.hi] (by omega) (by try simp only [go_sem]) (by try simp only [go_sem])) ?_;simp only [go_sem,bedR];refine zw (zk [0,3,4,7,9,19,20,21,26,27,28]) ?_;simp only [go_sem];refine zg follows (by decide +kernel) (by kernel_rfl) fun K hK=>?_;simp only [go_sem,hlj]
         refine xcall_keep hnc [(1000,1000),(1001,1001)] rfl (by simp only [go_sem,i64,ints,hv0,hv1]) (by simp only [go_sem,i64,ints,hv0,hv1]) (by rfl) (by rfl) ?_ ?_ ?_
         · intro x hx
           simp only [List.mem_cons,List.not_mem_nil,or_false] at hx
           rcases hx with rfl | rfl
           · try simp only [go_sem]
             simp [hv0,hv1]
           · try simp only [go_sem]
         · intro x hx
           simp only [List.mem_cons,List.not_mem_nil,or_false] at hx
           rcases hx with rfl | rfl
           · left
             simp [AV.nrL,AV.nr,AS.ver,Oc.st,hv0,upd]
           · right
             refine ⟨(1000,1000),by simp,visC r most T (k : Int) (st : Int) 1001 0,?_,by try simp only [go_sem],?_⟩
             · simp [AV.nrL,AV.nr,AS.ver,Oc.st,hv0,upd]
             · simp [AV.nrL,AV.nr,AS.ver,Oc.st,hv1,upd]
         simp only [go_sem,hlj]
         refine ⟨by omega,?_⟩
         refine hK _ ?_;clear hK K;refine zw (zk [0,3,4,7,19,20,21,26,27,28]) ?_;simp only [go_sem];refine zb fun K hK=>?_;simp only [go_sem];(try simp (disch:=omega) only [zI]);refine hK _ ?_;clear hK K
         try simp only [go_sem]
         refine ⟨by omega,fit0_of [] (by repeat (first | exact hv2 | refine lent_upd (by omega) ?_)) ?_ ?_⟩
         · try simp only [go_sem]
         · try simp only [go_sem]
           rw [htk]
           simp [bedR]
       · have hjl : j = a.beds.length:=by omega
         subst hjl
         have e1 : (chW f a.beds).take a.beds.length = chW f a.beds:=by rw [← hlen,List.take_length]
         rw [e1]
         have hmn:=mean_ok r most T (chW f a.beds) hca
         rw [hlen] at hmn
         have htm : (meansV r most f).take (i + 1) = (meansV r most f).take i ++ [meanD most r.d (chW f a.beds)]:=zto (by simp [meansV,ha])
         have hli : ((meansV r most f).take i).length = i:=by rw [List.length_take];simp [meansV];omega
         refine zf ?_;simp only [go_sem];refine zb fun K hK=>?_;simp only [go_sem,hli,hlen]
         refine ⟨hv0.symm,hv0.symm,hv0.symm,?_⟩
         refine xcall_mut (hmn) [(1000,42)] rfl (by simp only [go_sem,i64,ints,hli,hlen]) (by simp only [go_sem,i64,ints,hli,hlen]) (by rfl) (by rfl) ?_
         (try simp only [go_sem,hli,hlen])
         refine ⟨by omega,?_⟩
         refine hK _ ?_;clear hK K;refine zw (zk [0,3,4,19,20,21]) ?_;simp only [go_sem];refine zb fun K hK=>?_;simp only [go_sem];(try simp (disch:=omega) only [zI]);refine hK _ ?_;clear hK K
         try simp only [go_sem]
         refine ⟨by omega,fit0_of [42] (by repeat (first | exact hv2 | refine lent_upd (by omega) ?_)) ?_ ?_⟩
         · try simp only [go_sem]
         · try simp only [go_sem]
           rw [htm]
           simp
   · have hil : i = r.aims.length:=by omega
     have e1 : (meansV r most f).take i = meansV r most f:=List.take_of_length_le (by simp [meansV];omega)
     rw [e1]
     have hml : (meansV r most f).length = i:=by simp [meansV,hil]
     refine zf ?_;simp only [go_sem]
     refine zq ?_
     refine zb fun K hK=>?_;simp only [go_sem];refine hK _ ?_;clear hK K;refine zw (zk [4]) ?_;simp only [go_sem];refine zw (sub_frz (ty:=3) (sz:=1) (off:=0) (m:=i) (es:=(meansV r most f).map fun x=>[i64 x]) 4 52 (by omega) (by try simp only [go_sem]) (by try simp only [go_sem]) (by simp [hml])) ?_
     have e2 : (((meansV r most f).map fun x=>[i64 x]).drop 0).take i = (meansV r most f).map fun x=>[i64 x]:=by
      rw [List.drop_zero,List.take_of_length_le (by simp [hml])]
     rw [e2]
     refine zw (zk [4]) ?_;simp only [go_sem];refine ze ?_;simp only [go_sem]
structure AimsG (r : Ru) : Prop where
 ne : r.aims ≠ []
 len : r.aims.length ≤ 1000
 den0 : 1 ≤ r.d
 den1 : r.d ≤ 3000
 beds : ∀ a ∈ r.aims,a.beds.length ≤ 19 ∧ loS a.beds ≤ r.d ∧ ∀ c ∈ a.beds,(0 ≤ c.b ∧ c.b ≤ 499) ∧ 0 ≤ c.lo ∧ c.lo ≤ c.hi ∧ c.hi ≤ 3000
theorem loS_chW (f : Int → Int) (l : List Bd) : loS (chW f l) = loS l:=by simp [loS,chW,Function.comp_def]
theorem AimsG.ch {r : Ru} (h : AimsG r) {f : Int → Int} (hf : ∀ b,0 ≤ b → b ≤ 499 → 0 ≤ f b ∧ f b ≤ 1000000) : ∀ a ∈ r.aims,ChG r.d (chW f a.beds):=fun a ha=>by
 obtain ⟨h1,h2,h3⟩:=h.beds a ha
 refine ⟨by simpa [chW] using h1,h.den0,h.den1,by rw [loS_chW];exact h2,fun c hc=>?_⟩
 obtain ⟨x,hx,rfl⟩:=List.mem_map.1 hc
 obtain ⟨g1,g2⟩:=h3 x hx
 exact ⟨hf _ g1.1 g1.2,g2⟩
theorem fillG_le {den : Int} : ∀ (l : List Bd) (x : Int × Int),(∀ c ∈ l,(0 ≤ c.b ∧ c.b ≤ 1000000) ∧ c.lo ≤ c.hi) → 0 ≤ x.1 → 0 ≤ x.2 → x.2 ≤ 1000000 * (den - x.1) → 0 ≤ (fillG l x).2 ∧ (fillG l x).2 ≤ 1000000 * den
 | [],x,_,h1,h2,h3=>by simp only [fillG];omega
 | c :: l, x, h, h1, h2, h3 => by
   obtain ⟨⟨b0,b1⟩,g⟩:=h c (by simp)
   simp only [fillG]
   generalize hm : min x.1 (c.hi - c.lo) = m
   have m0 : 0 ≤ m:=by omega
   have m1 : m ≤ x.1:=by omega
   have p0:=Int.mul_nonneg m0 b0
   have p1 : m * c.b ≤ m * 1000000:=Int.mul_le_mul_of_nonneg_left b1 m0
   exact fillG_le l _ (fun y hy=>h y (by simp [hy])) (by simp only;omega) (by simp only;omega) (by simp only;omega)
theorem loV_lo {l : List Bd} (h : ∀ c ∈ l,(0 ≤ c.b ∧ c.b ≤ 1000000) ∧ 0 ≤ c.lo) : 0 ≤ loV l ∧ loV l ≤ 1000000 * loS l:=by
 induction l with
 | nil=>simp [loV,loS]
 | cons c l ih =>
   obtain ⟨h1,h2⟩:=ih fun x hx=>h x (by simp [hx])
   obtain ⟨⟨b0,b1⟩,g0⟩:=h c (by simp)
   have m0:=Int.mul_nonneg g0 b0
   have m1 : c.lo * c.b ≤ c.lo * 1000000:=Int.mul_le_mul_of_nonneg_left b1 g0
   simp only [loV,loS,List.map_cons,List.sum_cons] at h1 h2 ⊢
   omega
theorem meanD_le {most : Bool} {den : Int} {l : List Bd} (h : ChG den l) : 0 ≤ meanD most den l ∧ meanD most den l ≤ 1000000:=by
 have hp:=sortN_perm (ltD most) l
 have hS : ∀ c ∈ sortN (ltD most) l,(0 ≤ c.b ∧ c.b ≤ 1000000) ∧ 0 ≤ c.lo ∧ c.lo ≤ c.hi ∧ c.hi ≤ 3000:=fun c hc=>h.each c (hp.mem_iff.1 hc)
 have hlo : loS (sortN (ltD most) l) = loS l:=perm_sum hp
 have hlow:=h.low
 obtain ⟨v0,v1⟩:=loV_lo (l:=sortN (ltD most) l) fun c hc=>⟨(hS c hc).1,(hS c hc).2.1⟩
 unfold meanD
 obtain ⟨f0,f1⟩:=fillG_le (den:=den) (sortN (ltD most) l) (den - loS (sortN (ltD most) l),loV (sortN (ltD most) l)) (fun c hc=>⟨(hS c hc).1,(hS c hc).2.2.1⟩) (by simp only;omega) (by simp only;omega) (by simp only;omega)
 exact overD_le f0 h.den0 f1
theorem foldl_max_le {l : List Int} {m : Int} : ∀ {x : Int},(0 ≤ x ∧ x ≤ m) → (∀ y ∈ l,0 ≤ y ∧ y ≤ m) → 0 ≤ l.foldl max x ∧ l.foldl max x ≤ m:=by
 induction l with
 | nil=>intro x h _;exact h
 | cons y l ih =>
   intro x h hl
   have:=hl y (by simp)
   exact ih (x:=max x y) (by omega) fun z hz=>hl z (by simp [hz])
theorem maxL_le {l : List Int} {m : Int} (h : l ≠ []) (hl : ∀ y ∈ l,0 ≤ y ∧ y ≤ m) : 0 ≤ maxL l ∧ maxL l ≤ m:=by
 unfold maxL
 refine foldl_max_le ?_ hl
 cases l with
 | nil=>exact absurd rfl h
 | cons x l=>exact hl x (by simp)
theorem after_le {r : Ru} {T : List (List Int)} {k st : Nat} (h : VisG r T k st) (most : Bool) {left : Nat} (hl : (left : Int) ≤ r.start) : 0 ≤ afterD r most T k left ∧ afterD r most T k left ≤ 1000000:=by
 unfold afterD
 split
 · omega
 · rename_i hk
   obtain ⟨row,v,hv⟩:=h.tab left hl
   obtain ⟨t1,t2,t3,t4⟩:=hv (by have:=h.kk;omega)
   obtain ⟨e,hek⟩:=zol h.kk
   obtain ⟨g1,g2,g3⟩:=endOk_le (h.ends e (zmo hek))
   have e1 : ((T.getD (k + 1) []).getD left 0) = v:=by simp [List.getD_eq_getElem?_getD,t1,t2]
   have e2 : r.ends.getD k (0,0) = e:=by simp [List.getD_eq_getElem?_getD,hek]
   rw [e1,e2]
   have q : 0 ≤ endsD most e ∧ endsD most e ≤ 1000000:=by unfold endsD;split <;> omega
   exact overD_le (Int.mul_nonneg t3 (by omega)) (by omega) (Int.mul_le_mul t4 (by omega) (by omega) (by omega))
theorem nextV_le {r : Ru} {most : Bool} {T : List (List Int)} {k st left : Nat} {val : Nat → Int} {last : Bool} {b : Int} (h : VisG r T k st) (hl : (left : Int) ≤ r.start) (b0 : 0 ≤ b) (b1 : b ≤ 499) (hv : last = false → ∀ x : Nat,(x : Int) ≤ r.start → 0 ≤ val x ∧ val x ≤ 1000000) :
 0 ≤ nextV r most T k st val last left b ∧ nextV r most T k st val last left b ≤ 1000000:=by
 obtain ⟨s0,s1⟩:=score_le b0 b1
 unfold nextV
 split
 · omega
 · split
   · exact after_le h most h.st40
   · split
     · exact after_le h most (by omega)
     · rename_i hn
       exact hv (by simpa using hn) _ (by omega)
theorem valV_le {r : Ru} {most : Bool} {T : List (List Int)} {k st : Nat} (h : VisG r T k st) (ha : AimsG r) : ∀ n left : Nat,(left : Int) ≤ r.start → 0 ≤ valV r most T k st n left ∧ valV r most T k st n left ≤ 1000000
 | 0,_,_=>by simp only [valV];omega
 | n + 1, left, hl => by
   simp only [valV]
   refine maxL_le (by simpa [meansV] using ha.ne) fun y hy=>?_
   obtain ⟨a,haM,rfl⟩:=List.mem_map.1 hy
   exact meanD_le (ha.ch (fun b b0 b1=>nextV_le h hl b0 b1 fun _ x hx=>valV_le h ha n x hx) a haM)
theorem vis_ok {r : Ru} (most : Bool) {T : List (List Int)} {k st : Nat} (h : VisG r T k st) (ha : AimsG r) : ∀ n left : Nat,n ≤ 100 → 1 ≤ left → (left : Int) ≤ r.start →
 MCalls Tryz.prog 164 (visL r most T k st) (visL r most T k st) [.pt 1000 0 0,.r (.ag [i64 (left : Int),i64 ((n + 1 : Nat) : Int)])] (.r (i64 (valV r most T k st (n + 1) left)))
 | n, left, hn, hl1, hl => by
   have h40:=h.s40
   have hl40 : left ≤ 40:=by omega
   refine value_ok r most T k st n left hn hl40 ha.ne ha.len ?_
   have e : (((n + 1 : Nat)) : Int) = (n : Int) + 1:=by omega
   rw [e]
   refine means_ok r most T k st n left _ hn hl40 ha.len (ha.ch fun b b0 b1=>nextV_le h hl b0 b1 fun _ x hx=>valV_le h ha n x hx) (fun a haM c hc=>((ha.beds a haM).2.2 c hc).1) fun b b0 b1=>?_
   refine next_ok r most T k st n left b h hl1 hl hn b0 b1 fun hn0 left' h1 h2=>?_
   match n,hn0 with
   | m + 1,_=>exact vis_ok most h ha m left' (by omega) h1 h2
theorem relV_of_map {w : World} {p : Plan} {ver : Nat → Nat} : ∀ {xs : List RV} {vs : List Value},AV.relV w p ver (xs.map .r) vs → RV.relV w p.R xs vs
 | [],_,h=>by simp only [List.map_nil,AV.relV] at h;simp only [RV.relV];exact h
 | x :: xs, _, h => by
   simp only [List.map_cons,AV.relV,AV.rel] at h
   obtain ⟨u,us,e,h1,h2⟩:=h
   simp only [RV.relV];exact ⟨u,us,e,h1,relV_of_map h2⟩
theorem mcalls_ag {P : Program} {f : FuncId} {L L' : List (Nat × RowC)} {a : AV} {xs : List RV} {r : AV} (h : MCalls P f L L' [a,.r (.ag xs)] r) : MCalls P f L L' [a,.ag (xs.map .r)] r :=
 ⟨h.1,fun w p vs hp h1 h2 h3 h4 h5 h6=>h.2 w p vs hp h1 h2 h3 h4 h5 (by
  simp only [AV.relV] at h6 ⊢
  obtain ⟨u,us,e,g1,u2,us2,e2,g2,g3⟩:=h6
  refine ⟨u,us,e,g1,u2,us2,e2,?_,g3⟩
  simp only [AV.rel] at g2
  simp only [AV.rel,RV.rel]
  obtain ⟨vs,q1,q2,q3⟩:=g2
  exact ⟨vs,q1,q2,relV_of_map q3⟩)⟩
theorem whole_ok {r : Ru} (most : Bool) {T : List (List Int)} {k st : Nat} (h : VisG r T k st) (ha : AimsG r) (h1 : 1 ≤ st) : ACalls Tryz.prog 129 [sideP r most T,i64 (k : Int),i64 (st : Int)] (i64 (valV r most T k st 3 st)):=by
 have hnew:=newVisit_ok r most T (k : Int) (st : Int)
 have hval:=vis_ok most h ha 2 st (by omega) h1 h.st40
 refine zas (rs:=[i64 (valV r most T k st 3 st)]) [.tmp 6] Tryz.func129 rfl (by kernel_rfl) Tryz.ntmps129 rfl (by simp) rfl fun C vs=>?_
 refine zq ?_
 refine zb fun K hK=>?_;simp only [go_sem];refine hK _ ?_;clear hK K;refine zw (zk [0,1,2]) ?_;simp only [go_sem]
 refine zq ?_
 refine awp_long ?_
 refine sops_take 4 (by kernel_rfl) fun K hK=>?_
 simp only [go_sem,List.take_succ_cons,List.take_zero,List.drop_succ_cons,List.drop_zero,List.append_eq,List.cons_append,List.nil_append]
 refine xcall_new hnew [(12,30),(10,31)] rfl (by rfl) (by rfl) (by rfl) (by rfl) (by rfl) ?_
 simp only [go_sem,idK,backA,backC,backL,pinOf,zLk]
 refine hK _ rfl ?_
 clear hK K
 refine sops_sub (sub_shutM (memoV r most T k st) 31 (by rfl) (fun e he=>by cases he)) ?_
 try simp only [go_sem]
 refine sops_end (by kernel_rfl) fun K hK=>?_
 simp only [go_sem,List.drop_succ_cons,List.drop_zero,List.append_eq,List.cons_append,List.nil_append]
 refine xcall_mut (mcalls_ag hval) [(1000,30),(1001,31)] rfl (by simp only [go_sem,i64,ints]) (by simp only [go_sem,i64,ints]) (by rfl) (by rfl) ?_
 (try simp only [go_sem]);refine hK _ ?_;clear hK K;refine zw (zk [6]) ?_;simp only [go_sem];refine ze ?_;simp only [go_sem]
def rowV (r : Ru) (most : Bool) (T : List (List Int)) (k : Nat) : List Int:=(List.range (r.start.toNat + 1)).map fun x : Nat=>if (x : Int) < lowestR r then 0 else valV r most T k x 3 x
def tabI (r : Ru) (most : Bool) : Nat → List (List Int)
 | 0=>List.replicate r.ends.length []
 | i + 1=>(tabI r most i).set (r.ends.length - 1 - i) (rowV r most (tabI r most i) (r.ends.length - 1 - i))
theorem tabI_len (r : Ru) (most : Bool) : ∀ i,(tabI r most i).length = r.ends.length
 | 0=>by simp [tabI]
 | i + 1=>by simp only [tabI,List.length_set];exact tabI_len r most i
structure RuG (r : Ru) : Prop where
 aims : AimsG r
 e1 : 1 ≤ r.ends.length
 h10 : r.ends.length ≤ 10
 ends : ∀ x ∈ r.ends,endOk x = true
 s2 : 2 ≤ r.start
 s40 : r.start ≤ 40
theorem rowV_get (r : Ru) (most : Bool) (T : List (List Int)) (k left : Nat) (h : (left : Int) ≤ r.start) : (rowV r most T k)[left]? = some (if (left : Int) < lowestR r then 0 else valV r most T k left 3 left):=by
 unfold rowV
 rw [List.getElem?_map,List.getElem?_range (by omega)]
 rfl
theorem vis_at {r : Ru} (h : RuG r) (most : Bool) : ∀ i,i < r.ends.length → ∀ st : Nat,(st : Int) ≤ r.start → VisG r (tabI r most i) (r.ends.length - 1 - i) st
 | i, hi, st, hst => by
   refine ⟨by omega,h.h10,h.ends,hst,h.s40,fun left hl=>?_⟩
   cases i with
   | zero=>exact ⟨[],0,fun hk=>by omega⟩
   | succ i =>
     refine ⟨rowV r most (tabI r most i) (r.ends.length - 1 - i),_,fun hk=>⟨?_,rowV_get _ _ _ _ _ hl,?_⟩⟩
     · rw [show r.ends.length - 1 - (i + 1) + 1 = r.ends.length - 1 - i by omega]
       simp only [tabI]
       rw [List.getElem?_set_self (by rw [tabI_len];omega)]
     · split
       · omega
       · have:=valV_le (most:=most) (vis_at h most i (by omega) left hl) h.aims 3 left hl
         exact this
theorem rowV_ne (r : Ru) (most : Bool) (T : List (List Int)) (k : Nat) : rowV r most T k ≠ []:=by simp [rowV]
theorem tabI_get (r : Ru) (most : Bool) : ∀ i,i ≤ r.ends.length → ∀ j,r.ends.length - i ≤ j → j < r.ends.length → (tabI r most i)[j]? = some (rowV r most (tabI r most (r.ends.length - 1 - j)) j)
 | 0,_,j,h1,h2=>by omega
 | i + 1, hi, j, h1, h2 => by
   simp only [tabI]
   by_cases e : j = r.ends.length - 1 - i
   · subst e
     rw [List.getElem?_set_self (by rw [tabI_len];omega),show r.ends.length - 1 - (r.ends.length - 1 - i) = i by omega]
   · rw [List.getElem?_set_ne (by omega)]
     exact tabI_get r most i (by omega) j (by omega) h2
theorem tab_ne (r : Ru) (most : Bool) : ∀ row ∈ tabI r most r.ends.length,row ≠ []:=fun row hr=>by
 obtain ⟨j,hj⟩:=List.getElem?_of_mem hr
 have hl:=(List.getElem?_eq_some_iff.1 hj).1
 rw [tabI_len] at hl
 rw [tabI_get r most _ (Nat.le_refl _) j (by omega) hl] at hj
 injection hj with hj
 rw [← hj]
 exact rowV_ne _ _ _ _
abbrev sideA (r : Ru) (most : Bool) (t : AV) : List AV:=[.r (i64 r.d),.r (aimsR r.aims),.r (i64 r.start),.r (i64 r.out),.r (spansR r.ends),.r (.bo most),t]
def cellT (l : List Int) : RV:=if l = [] then .ns else ints l
theorem acalls_weak {P : Program} {f : FuncId} {xs ys : List RV} {r : RV} (h : ACalls P f ys r) (hs : ∀ (w : World) (R : Nat → Prop) vs,RV.relV w R xs vs → RV.relV w R ys vs) : ACalls P f xs r :=
 ⟨h.1,fun w R vs h1 h2=>h.2 w R vs h1 (hs w R _ h2)⟩
theorem cellT_rel {w : World} {R : Nat → Prop} {l : List Int} {v : Value} (h : (cellT l).rel w R v) : (ints l).rel w R v:=by
 unfold cellT at h
 split at h
 · rename_i e
   subst e
   simp only [RV.rel] at h ⊢
   obtain ⟨A,e⟩:=h
   exact ⟨A,0,e,by simp,Nat.zero_le _,fun hn=>absurd rfl hn⟩
 · exact h
theorem cellsT_rel {w : World} {R : Nat → Prop} : ∀ (T : List (List Int)) (ad : Addr) (j : Nat),RV.relE w R 1 (T.map fun row=>[cellT row]) ad j → RV.relE w R 1 (T.map fun row=>[ints row]) ad j
 | [],_,_,h=>h
 | l :: T, ad, j, h => by
   simp only [List.map_cons,RV.relE,RV.relC] at h ⊢
   obtain ⟨_,⟨⟨u,h1,h2,h3⟩,_⟩,h4⟩:=h
   exact ⟨rfl,⟨⟨u,h1,h2,cellT_rel h3⟩,trivial⟩,cellsT_rel T ad (j + 1) h4⟩
theorem tabT_rel {w : World} {R : Nat → Prop} {T : List (List Int)} {v : Value} (h : (RV.sl 1 (T.map fun row=>[cellT row])).rel w R v) : (tabR T).rel w R v:=by
 simp only [RV.rel,List.length_map] at h ⊢
 obtain ⟨A,c,h1,h2,h3,h4⟩:=h
 refine ⟨A,c,h1,h2,h3,fun hn=>?_⟩
 obtain ⟨ad,g1,g2,g3⟩:=h4 (by cases T <;> simp_all)
 exact ⟨ad,g1,g2,cellsT_rel _ _ _ g3⟩
theorem whole_ns {r : Ru} {most : Bool} {T : List (List Int)} {x y v : RV} (h : ACalls Tryz.prog 129 [sideP r most T,x,y] v) :
 ACalls Tryz.prog 129 [.rp [i64 r.d,aimsR r.aims,i64 r.start,i64 r.out,spansR r.ends,.bo most,.sl 1 (T.map fun row=>[cellT row])],x,y] v:=acalls_weak h fun w R vs hv=>by
 simp only [RV.relV] at hv ⊢
 obtain ⟨u,us,e1,hu,h3⟩:=hv
 refine ⟨u,us,e1,?_,h3⟩
 simp only [RV.rel] at hu ⊢
 obtain ⟨ad,e2,h1,h2⟩:=hu
 refine ⟨ad,e2,h1,?_⟩
 simp only [RV.relC] at h2 ⊢
 obtain ⟨c1,c2,c3,c4,c5,c6,⟨u7,c7,c8,c9⟩,_⟩:=h2
 exact ⟨c1,c2,c3,c4,c5,c6,⟨u7,c7,c8,tabT_rel c9⟩,trivial⟩
def rowP (r : Ru) (most : Bool) (T : List (List Int)) (k j : Nat) : List Int:=(List.range (r.start.toNat + 1)).map fun x : Nat=>if (x : Int) < lowestR r then 0 else if x < j then valV r most T k x 3 x else 0
theorem rowP_zero (r : Ru) (most : Bool) (T : List (List Int)) (k : Nat) : rowP r most T k (lowestR r).toNat = List.replicate (r.start.toNat + 1) 0:=by
 refine List.ext_getElem (by simp [rowP]) fun x h1 h2=>?_
 simp only [rowP,List.getElem_map,List.getElem_range,List.getElem_replicate]
 split
 · rfl
 · rw [if_neg (by omega)]
theorem rowP_end (r : Ru) (most : Bool) (T : List (List Int)) (k : Nat) : rowP r most T k (r.start.toNat + 1) = rowV r most T k:=by
 refine List.ext_getElem (by simp [rowP,rowV]) fun x h1 h2=>?_
 simp only [rowP,rowV,List.getElem_map,List.getElem_range]
 simp only [rowP,List.length_map,List.length_range] at h1
 rw [if_pos h1]
theorem rowP_set (r : Ru) (most : Bool) (T : List (List Int)) (k j : Nat) (hj : lowestR r ≤ j) (hs : (j : Int) ≤ r.start) : (rowP r most T k j).set j (valV r most T k j 3 j) = rowP r most T k (j + 1):=by
 refine List.ext_getElem (by simp [rowP]) fun x h1 h2=>?_
 simp only [rowP,List.getElem_set,List.getElem_map,List.getElem_range]
 by_cases e : j = x
 · subst e
   rw [if_pos rfl,if_neg (by omega),if_pos (by omega)]
 · rw [if_neg e]
   split
   · rfl
   · by_cases e2 : x < j
     · rw [if_pos e2,if_pos (by omega)]
     · rw [if_neg e2,if_neg (by omega)]
theorem rowP_len (r : Ru) (most : Bool) (T : List (List Int)) (k j : Nat) : (rowP r most T k j).length = r.start.toNat + 1:=by simp [rowP]
theorem fill_ok {r : Ru} (h : RuG r) (most : Bool) :
 MCalls Tryz.prog 88 [(1000,.box (sideA r most (.r .ns)))] [(1000,.box (sideA r most (.r (tabR (tabI r most r.ends.length)))))] [.pt 1000 0 0] (.tu []):=by
 have h10:=h.h10
 refine mcalls_st (n:=72) (rs:=[]) _ _ [] Tryz.func88 rfl (by kernel_rfl) Tryz.ntmps88 rfl (by simp) rfl rfl fun C=>?_
 refine zq ?_
 refine zb fun K hK=>?_;simp only [go_sem];repeat first | intro _ | refine ⟨by omega,?_⟩
 refine hK _ ?_;clear hK K;refine zw (zk [0]) ?_;simp only [go_sem]
 refine zq ?_
 refine zb fun K hK=>?_;simp only [go_sem]
 intro _
 refine hK _ ?_;clear hK K;refine zw (zk [0,23,24]) ?_;simp only [go_sem];refine zd ?_
 refine zuv (n:=72) r.ends.length (fun i vs=>[(0,.pt 1000 (vs 1000) 0),(23,.r (i64 r.ends.length)),(24,.r (i64 i))])
  (fun i vs=>[(14,.arr 39 1 ((tabI r most i).map fun row=>[cellT row])),(1000,.box (sideA r most (.os 14 (vs 14) 1 0 r.ends.length)))]) (fun _=>True) 0 (zj [] ?_ ?_) (Nat.zero_le _) trivial ?_
 · try simp only [go_sem]
 · try simp only [go_sem]
   simp [tabI,cellT]
 · intro i vs hi _
   refine zq ?_
   refine zb fun K hK=>?_;simp only [go_sem];refine hK _ ?_;clear hK K;refine zw (zk [0,23,24,25]) ?_;simp only [go_sem]
   refine zq ?_
   refine zc rfl (fun hc=>?_) (fun hc=>?_) <;> (try simp only [go_sem] at hc)
   · have hci:=hc
     have hla:=last_ok r (by omega)
     have hlo:=dlowest_ok r
     have hk : IntKind.i64.wrap ((r.ends.length : Int) - 1 - i) = ((r.ends.length - 1 - i : Nat) : Int):=by rw [zI] <;> omega
     refine zx ?_
     try simp only [go_sem]
     refine zq ?_
     refine zd ?_
     refine zq ?_
     refine zb fun K hK=>?_;simp only [go_sem];refine hK _ ?_;clear hK K;refine zw (zk [0,2,23,24]) ?_;simp only [go_sem]
     refine zq ?_
     refine zb fun K hK=>?_;simp only [go_sem,hk]
     refine zh (hla) rfl (by simp only [go_sem,i64,ints,hk]) (by simp only [go_sem,i64,ints,hk]) (by first | exact .inl rfl | exact .inr rfl) ?_
     (try simp only [go_sem,hk]);refine hK _ ?_;clear hK K;refine zw (zk [0,3,23,24]) ?_;simp only [go_sem]
     have hs2:=h.s2
     have hs40:=h.s40
     have hw1 : IntKind.i64.wrap (r.start + 1) = r.start + 1:=by rw [zI] <;> omega
     refine zq ?_
     refine zb fun K hK=>?_;simp only [go_sem,hw1]
     refine ⟨by omega,?_⟩
     refine hK _ ?_;clear hK K;refine zw (zk [0,3,4,23,24]) ?_;simp only [go_sem]
     repeat refine zq ?_
     refine zb fun K hK=>?_;simp only [go_sem]
     refine zh (hlo) rfl (by simp only [go_sem,i64,ints]) (by simp only [go_sem,i64,ints]) (by first | exact .inl rfl | exact .inr rfl) ?_
     (try simp only [go_sem]);refine hK _ ?_;clear hK K;refine zw (zk [0,3,4,5,23,24]) ?_;simp only [go_sem];refine zd ?_
     generalize hT : tabI r most i = T
     have hTl : T.length = r.ends.length:=by rw [← hT];exact tabI_len r most i
     have hvis : ∀ st : Nat,(st : Int) ≤ r.start → VisG r T (r.ends.length - 1 - i) st:=fun st hst=>by rw [← hT];exact vis_at h most i hci st hst
     generalize hkk : r.ends.length - 1 - i = k at *
     have hst1 : (r.start + 1).toNat = r.start.toNat + 1:=by omega
     have hlow : lowestR r = 1 ∨ lowestR r = 2:=by unfold lowestR;split <;> simp
     refine zuv (n:=72) (r.start.toNat + 1) (fun j vs=>[(0,.pt 1000 (vs 1000) 0),(3,.r (i64 (k : Int))),(4,.os 41 (vs 41) 1 0 (r.start.toNat + 1)),(5,.r (i64 (j : Int))),(23,.r (i64 r.ends.length)),(24,.r (i64 i))])
      (fun j vs=>[(14,.arr 39 1 (T.map fun row=>[cellT row])),(41,.arr 3 1 ((rowP r most T k j).map fun v=>[i64 v])),(1000,.box (sideA r most (.os 14 (vs 14) 1 0 r.ends.length)))]) (fun j=>lowestR r ≤ j) (lowestR r).toNat (zj [] ?_ ?_) (by omega) (by omega) ?_
     · simp only [go_sem,hk,hw1,hst1]
       omega
     · simp only [go_sem,hw1,hst1];rw [rowP_zero]
       simp only [List.map_replicate,List.replicate_succ,List.map_cons]
     · intro j vs hj hjl
       have hpl:=rowP_len r most T k j
       repeat refine zq ?_
       refine zb fun K hK=>?_;simp only [go_sem];refine hK _ ?_;clear hK K;refine zw (zk [0,3,4,5,23,24,54]) ?_;simp only [go_sem]
       refine zc rfl (fun hc=>?_) (fun hc=>?_) <;> (try simp only [go_sem] at hc)
       · have hcj : (j : Int) ≤ r.start:=by omega
         obtain ⟨w0,hw0⟩:=zol (show j < (rowP r most T k j).length by rw [hpl];omega)
         have htk : List.take r.ends.length (T.map fun row=>[cellT row]) = T.map fun row=>[cellT row]:=List.take_of_length_le (by simp [hTl])
         have hw:=whole_ns (whole_ok most (hvis j hcj) h.aims (by omega))
         refine zx ?_
         try simp only [go_sem]
         refine zq ?_
         refine zd ?_;refine zb fun K hK=>?_;simp only [go_sem,hTl,htk,hpl]
         refine zh (hw) rfl (by simp only [go_sem,i64,ints,hTl,htk,hpl]) (by simp only [go_sem,i64,ints,hTl,htk,hpl]) (by first | exact .inl rfl | exact .inr rfl) ?_
         (try simp only [go_sem,hTl,htk,hpl])
         repeat refine ⟨by omega,?_⟩
         refine hK _ ?_;clear hK K;refine zw (zk [0,3,4,5,23,24]) ?_;simp only [go_sem];refine zb fun K hK=>?_;simp only [go_sem];(try simp (disch:=omega) only [zI]);refine hK _ ?_;clear hK K
         try simp only [go_sem]
         refine ⟨by omega,by omega,zj [] ?_ ?_⟩
         · try simp only [go_sem]
         · simp only [go_sem,hw0];rw [← rowP_set r most T k j hjl hcj,List.map_set]
       · have hje : j = r.start.toNat + 1:=by omega
         subst hje
         rw [rowP_end] at hpl ⊢
         refine zf ?_;simp only [go_sem];refine zw (sub_frz (ty:=3) (sz:=1) (off:=0) (m:=r.start.toNat + 1) (es:=(rowV r most T k).map fun v=>[i64 v]) 4 41 (by omega) (by try simp only [go_sem]) (by try simp only [go_sem]) (by simp [hpl])) ?_
         have e2 : (((rowV r most T k).map fun v=>[i64 v]).drop 0).take (r.start.toNat + 1) = (rowV r most T k).map fun v=>[i64 v]:=by
          rw [List.drop_zero,List.take_of_length_le (by simp [hpl])]
         rw [e2]
         refine zw (zk [0,3,4,23,24]) ?_;simp only [go_sem]
         have hkT : k < T.length:=by omega
         have hkr : k < r.ends.length:=by omega
         obtain ⟨w0,hw0⟩:=zol hkT
         refine zb fun K hK=>?_;simp only [go_sem,hkT,hkr,hw0];refine hK _ ?_;clear hK K;refine zw (zk [0,23,24]) ?_;simp only [go_sem];refine zb fun K hK=>?_;simp only [go_sem];(try simp (disch:=omega) only [zI]);refine hK _ ?_;clear hK K
         try simp only [go_sem]
         refine ⟨by omega,zj [] ?_ ?_⟩
         · try simp only [go_sem]
         · try simp only [go_sem]
           have e3 : tabI r most (i + 1) = T.set k (rowV r most T k):=by simp only [tabI,hT,hkk]
           rw [e3,List.map_set]
           simp only [cellT,if_neg (rowV_ne r most T k)]
           done
   · have hil : i = r.ends.length:=by omega
     subst hil
     refine zf ?_;simp only [go_sem]
     refine ⟨by rw [tabI_len];exact Nat.le_refl _,?_⟩
     rw [List.take_of_length_le (by rw [List.length_map,tabI_len];exact Nat.le_refl _)]
     have : (tabI r most r.ends.length).map (fun row=>[cellT row]) = (tabI r most r.ends.length).map fun row=>[ints row] :=
      List.map_congr_left fun row hr=>by rw [cellT,if_neg (tab_ne r most row hr)]
     rw [this]
end Go.Proofs.YtgfbenanljjgaaaGreat.Du

namespace Go.Oc
open Go Go.RowKit
section
variable {P : Program} {C : Ctx} {p : Plan} {s : AS} {a : Act} {w : World} {o : Oper}
theorem relV_map_r {ver : Nat → Nat} : ∀ {xs : List RV} {vs : List Value},RV.relV w p.R xs vs → AV.relV w p ver (xs.map .r) vs
 | [],vs,h=>by simp only [RV.relV] at h;simp only [List.map_nil,AV.relV];exact h
 | x :: xs, vs, h => by
   simp only [RV.relV] at h
   obtain ⟨u,us,e,h1,h2⟩:=h
   simp only [List.map_cons,AV.relV,AV.rel];exact ⟨u,us,e,h1,relV_map_r h2⟩
variable {Q : Exit → AS → Prop} {ops : Array Oper}
end
theorem sub_freezePB (s : AS) (kb i k v : Nat) {cells : List AV} {rs : List RV} (hk0 : k < 1000) (hne : kb ≠ k) (hbox : (s.rows kb).c = .box cells) (hi : cells[i]? = some (.pt k v 0)) (hv : v = s.ver k)
 (hc : (s.rows k).c = .box (rs.map .r)) :
 Sub s { s with rows:=upd (upd s.rows k ⟨(s.rows k).ver + 1,.dead⟩) kb ⟨(s.rows kb).ver,.box (cells.set i (.r (.rp rs)))⟩ }:=fun C a w ⟨p,hp⟩=>by
 have h1:=hp.reRow (w':=w) k hk0 .dead rfl none 1 (by simp [maxLen]) rfl rfl rfl (Nat.le_refl _) (fun _ _ _=>rfl) (fun _ h=>by cases h) (fun p' ver' _ hβ hγ _=>by simp only [zrl];exact ⟨hβ,hγ⟩)
 have hr:=hp.rw kb
 rw [hbox] at hr
 simp only [zrl] at hr
 obtain ⟨b,cs,t,g1,g2,g3,g4⟩:=hr
 obtain ⟨u,hu,hval⟩:=AV.relV_get g3 hi
 have hq:=hp.rw k
 rw [hc] at hq
 simp only [zrl] at hq
 obtain ⟨bk,ck,tk,k1,k2,k3,k4⟩:=hq
 simp only [AV.rel] at hval
 obtain ⟨bk',e1,e2⟩:=hval.2 hv
 rw [k1] at e1
 injection e1 with e1
 subst e1
 obtain ⟨q1,_,q2⟩:=hp.bl k bk k1
 have h2:=h1.publish (b:=bk) q1 (q2.imp id fun h=>h.resolve_left (fun h=>by omega)) (fun j hj=>by
  have hj' : upd p.β k none j = some bk:=hj
  by_cases e : j = k
  · subst e;rw [zus] at hj';cases hj'
  · rw [zuo _ _ e] at hj';exact e (hp.ij j k bk hj' k1)) (hp.ex.publish k1)
 have hr2:=h2.rw kb
 rw [show (upd s.rows k ⟨(s.rows k).ver + 1,.dead⟩ kb).c = .box cells by rw [zuo _ _ hne];exact hbox] at hr2
 simp only [zrl] at hr2
 obtain ⟨b',cs',t',f1,f2,f3,f4⟩:=hr2
 have eb : b' = b:=by
  rw [show (upd p.β k none) kb = p.β kb from zuo _ _ hne,g1] at f1
  injection f1 with e;exact e.symm
 subst eb
 rw [g2] at f2
 injection f2 with e
 injection e with e1 e2' e3
 subst e1
 have:=h2.setRow (w':=w) kb (.box (cells.set i (.r (.rp rs))))
  (by rw [show (upd s.rows k ⟨(s.rows k).ver + 1,.dead⟩ kb).c = .box cells by rw [zuo _ _ hne];exact hbox];rfl) (fun _ _ _ _ h=>by cases h) f1 rfl rfl rfl rfl (fun _ _=>rfl) (fun _=>by
   simp only [zrl]
   refine ⟨b',cs,t',f1,by rw [g2,e2'],relV_set f3 (fun u' hu'=>?_),f4⟩
   rw [hu] at hu'
   injection hu' with e
   subst e
   simp only [AV.rel,RV.rel]
   refine ⟨_,e2,.inr rfl,?_⟩
   exact relC_plain (fun _ h=>.inl h) k2 k4 _ _ _ (fun i u h=>by simpa using h) k3)
 rw [show (upd s.rows k ⟨(s.rows k).ver + 1,.dead⟩ kb).ver = (s.rows kb).ver by rw [zuo _ _ hne]] at this
 exact ⟨_,this⟩
section
variable {n : Nat} {l : List (Nat × AV)} {vs : Nat → Nat} {cs : List (Nat × RowC)}
theorem sub_frzPB (kb i k : Nat) (rs : List RV) {cells : List AV} (hk0 : k < 1000) (hne : kb ≠ k) (hb : lookc cs kb = .box cells) (hi : cells[i]? = some (.pt k (vs k) 0)) (hc : lookc cs k = .box (rs.map .r)) :
 Sub (st n l vs cs) (st n l (upd vs k (vs k + 1)) (insc (delc cs k) kb (.box (cells.set i (.r (.rp rs)))))):=by
 have:=sub_freezePB (st n l vs cs) kb i k (vs k) hk0 hne hb hi rfl hc
 have e : ({ st n l vs cs with rows:=upd (upd (st n l vs cs).rows k ⟨((st n l vs cs).rows k).ver + 1,.dead⟩) kb ⟨((st n l vs cs).rows kb).ver,.box (cells.set i (.r (.rp rs)))⟩ } : AS)
  = st n l (upd vs k (vs k + 1)) (insc (delc cs k) kb (.box (cells.set i (.r (.rp rs))))):=by
  simp only [st,AS.mk.injEq,true_and]
  funext j
  rw [lookc_insc,lookc_delc]
  unfold upd
  split
  · rename_i e;subst e;rw [if_neg hne]
  · split <;> rfl
 rwa [e] at this
end
end Go.Oc

namespace Go.Proofs.YtgfbenanljjgaaaGreat.Du
open Go Go.Oc
set_option maxRecDepth 8000
mutual
theorem rv_le : ∀ x : RV,RV.le x x
 | .sl _ _=>by simp only [RV.le];exact .inl trivial
 | .ag xs=>by simp only [RV.le];exact rv_leL xs
 | .fn _ xs=>by simp only [RV.le];exact ⟨trivial,rv_leL xs⟩
 | .rp xs=>by simp only [RV.le];exact rv_leL xs
 | .un | .bo _ | .it _ _ | .ns | .np | .nf | .tu _ | .st _ | .ud | .yl _ | .sx _ _ | .vl _ | .bf _ _=>by simp only [RV.le]
theorem rv_leL : ∀ xs : List RV,RV.leL xs xs
 | []=>by simp only [RV.leL]
 | x :: xs=>by simp only [RV.leL];exact ⟨rv_le x,rv_leL xs⟩
end
theorem seq_beds : ∀ {p : Option Int} {l : List Bd},seqOk p l = true → ∀ x ∈ l,x.b = 0 ∨ bedOk x.b = true
 | _,[],_,x,hx=>by cases hx
 | p, y :: l, h, x, hx => by
   simp only [seqOk,Bool.and_eq_true,Bool.or_eq_true,decide_eq_true_eq] at h
   rcases List.mem_cons.1 hx with rfl | hx
   · exact h.1.1
   · exact seq_beds h.2 x hx
theorem bedOk_le {b : Int} (h : bedOk b = true) : 0 ≤ b ∧ b ≤ 499:=by
 simp only [bedOk,Bool.or_eq_true,Bool.and_eq_true,decide_eq_true_eq] at h
 omega
theorem ruG_of {r : Ru} (h : ruE r = 0) : RuG r ∧ 1 ≤ r.ends.length ∧ 0 ≤ r.out ∧ r.out ≤ 2:=by
 unfold ruE at h
 split at h
 · rename_i hc;exact absurd h hc
 · rename_i hc
   have hc : checkV r.d r.aims = 0:=by simpa using hc
   split at h
   · rename_i hb
     simp only [Bool.and_eq_true,decide_eq_true_eq] at hb
     obtain ⟨⟨⟨⟨⟨⟨⟨s2,s40⟩,o0⟩,o2⟩,e1⟩,e10⟩,he⟩,hl⟩:=hb
     unfold checkV at hc
     split at hc
     · cases hc
     · rename_i g1
       split at hc
       · cases hc
       · rename_i g2
         split at hc
         · rename_i g3
           simp only [Bool.or_eq_true,decide_eq_true_eq,List.any_eq_true,not_or,not_exists,not_and] at g1
           simp only [Bool.or_eq_true,Bool.not_eq_true',Bool.and_eq_false_iff,decide_eq_false_iff_not,not_or,Decidable.not_not,List.isEmpty_iff] at g2
           refine ⟨⟨⟨g2.1,by omega,by omega,by omega,fun a ha=>?_⟩,e1,e10,fun x hx=>List.all_eq_true.1 he x hx,s2,s40⟩,e1,o0,o2⟩
           have ha1:=List.all_eq_true.1 g3 a ha
           have ha2:=g1.2 a ha
           simp only [aimOk,Bool.and_eq_true,decide_eq_true_eq] at ha1
           obtain ⟨⟨⟨⟨q1,q2⟩,q3⟩,q4⟩,q5⟩:=ha1
           refine ⟨by omega,q4,fun c hc=>?_⟩
           have hb:=seq_beds q2 c hc
           have hch:=List.all_eq_true.1 q3 c hc
           simp only [Bool.and_eq_true,decide_eq_true_eq] at hch
           refine ⟨?_,hch.1.1,hch.1.2,by omega⟩
           rcases hb with hb | hb
           · omega
           · exact bedOk_le hb
         · cases hc
   · cases h
def tabF (r : Ru) (most : Bool) : List (List Int):=tabI r most r.ends.length
abbrev sidesV (r : Ru) : RV:=if ruE r = 0 then .ag [sideP r false (tabF r false),sideP r true (tabF r true)] else .ag [.np,.np]
theorem sides_ok (r : Ru) (hw : WfR r) : ACalls Tryz.prog 60 [ruV r] (.tu [sidesV r,i64 (ruE r)]):=by
 have hch:=dcheck_ok r hw
 refine zas (rs:=[sidesV r,i64 (ruE r)]) [.cell 2 117,.tmp 3] Tryz.func60 rfl (by kernel_rfl) Tryz.ntmps60 rfl (by simp) rfl fun C vs=>?_
 refine zq ?_
 refine zb fun K hK=>?_;simp only [go_sem];refine hK _ ?_;clear hK K;refine zw (zfP 1 1 (ruC r) (by omega) rfl rfl) ?_;refine zw (zk [1,2]) ?_;simp only [go_sem]
 repeat refine zq ?_
 refine zb fun K hK=>?_;simp only [go_sem]
 refine zh (hch) rfl (by simp only [go_sem,i64,ints]) (by simp only [go_sem,i64,ints]) (by first | exact .inl rfl | exact .inr rfl) ?_
 (try simp only [go_sem]);refine hK _ ?_;clear hK K;refine zw (zk [1,2,4]) ?_;simp only [go_sem]
 by_cases h0 : ruE r = 0
 rotate_left
 · have c : (ruE r != 0) = true:=by simpa using h0
   refine zq ?_
   refine zb fun K hK=>?_;simp only [go_sem,c];refine hK _ ?_;clear hK K;refine zw (zk [1,2,4,9]) ?_;simp only [go_sem]
   refine zc rfl (fun hc=>?_) (fun hc=>?_) <;> (try simp only [go_sem] at hc)
   refine zq ?_
   refine zb fun K hK=>?_;simp only [go_sem];refine hK _ ?_;clear hK K;refine zw (zk [2,3]) ?_;simp only [go_sem];refine ze ?_;simp only [go_sem];simp only [sidesV,if_neg h0];exact rv_le _
 obtain ⟨hG,_⟩:=ruG_of h0
 rw [h0]
 refine zq ?_
 refine zb fun K hK=>?_;simp only [go_sem,bne_self_eq_false];refine hK _ ?_;clear hK K;refine zw (zk [1,2,4,9]) ?_;simp only [go_sem]
 refine zc rfl (fun hc=>?_) (fun hc=>?_) <;> (try simp only [go_sem] at hc)
 refine zx ?_
 try simp only [go_sem]
 repeat refine zq ?_
 refine zb fun K hK=>?_;simp only [go_sem];refine hK _ ?_;clear hK K;refine zw (zk [1,2,12]) ?_;simp only [go_sem];refine zd ?_
 refine zuv (n:=29) 2 (fun i vs=>[(1,.r (.rp (ruC r))),(2,.pt 2 (vs 2) 0),(12,.r (i64 (i : Int)))])
  (fun i vs=>[(2,.box [if 0 < i then .r (sideP r false (tabF r false)) else .r .np,if 1 < i then .r (sideP r true (tabF r true)) else .r .np])]) (fun _=>True) 0 (zj [] ?_ ?_) (Nat.zero_le _) trivial ?_
 · try simp only [go_sem]
 · try simp only [go_sem]
 · intro i vs hi _
   have hf0:=fill_ok hG false
   have hf1:=fill_ok hG true
   have e01 : ((0 : Int) == 1) = false:=rfl
   have e11 : ((1 : Int) == 1) = true:=rfl
   have h012 : i = 0 ∨ i = 1 ∨ i = 2:=by omega
   rcases h012 with rfl | rfl | rfl
   · refine zq ?_
     refine zb fun K hK=>?_;simp only [go_sem];refine hK _ ?_;clear hK K;refine zw (zk [1,2,12,13]) ?_;simp only [go_sem]
     refine zq ?_
     refine zc rfl (fun hc=>?_) (fun hc=>?_) <;> (try simp only [go_sem] at hc)
     refine zx ?_
     try simp only [go_sem]
     refine zq ?_
     refine zd ?_
     refine zq ?_
     refine zb fun K hK=>?_;simp only [go_sem];refine hK _ ?_;clear hK K;refine zw (zk [1,2,5,12]) ?_;simp only [go_sem]
     refine zq ?_
     refine zb fun K hK=>?_;simp only [go_sem,e01,e11];refine hK _ ?_;clear hK K;refine zw (zk [1,2,5,12]) ?_;simp only [go_sem];refine zb fun K hK=>?_;simp only [go_sem]
     refine xcall_mut (hf0) [(1000,21)] rfl (by simp only [go_sem,i64,ints]) (by simp only [go_sem,i64,ints]) (by rfl) (by rfl) ?_
     (try simp only [go_sem]);refine hK _ ?_;clear hK K;refine zw (sub_frzPB 2 0 21 (sideC r false (tabF r false)) (by omega) (by omega) rfl rfl rfl) ?_;refine zw (zk [1,2,12]) ?_;simp only [go_sem];refine zb fun K hK=>?_;simp only [go_sem];(try simp (disch:=omega) only [zI]);refine hK _ ?_;clear hK K
     try simp only [go_sem]
     refine zj [] ?_ ?_
     · try simp only [go_sem]
     · try simp only [go_sem]
   · refine zq ?_
     refine zb fun K hK=>?_;simp only [go_sem];refine hK _ ?_;clear hK K;refine zw (zk [1,2,12,13]) ?_;simp only [go_sem]
     refine zq ?_
     refine zc rfl (fun hc=>?_) (fun hc=>?_) <;> (try simp only [go_sem] at hc)
     refine zx ?_
     try simp only [go_sem]
     refine zq ?_
     refine zd ?_
     refine zq ?_
     refine zb fun K hK=>?_;simp only [go_sem];refine hK _ ?_;clear hK K;refine zw (zk [1,2,5,12]) ?_;simp only [go_sem]
     refine zq ?_
     refine zb fun K hK=>?_;simp only [go_sem,e01,e11];refine hK _ ?_;clear hK K;refine zw (zk [1,2,5,12]) ?_;simp only [go_sem];refine zb fun K hK=>?_;simp only [go_sem]
     refine xcall_mut (hf1) [(1000,21)] rfl (by simp only [go_sem,i64,ints]) (by simp only [go_sem,i64,ints]) (by rfl) (by rfl) ?_
     (try simp only [go_sem]);refine hK _ ?_;clear hK K;refine zw (sub_frzPB 2 1 21 (sideC r true (tabF r true)) (by omega) (by omega) rfl rfl rfl) ?_;refine zw (zk [1,2,12]) ?_;simp only [go_sem];refine zb fun K hK=>?_;simp only [go_sem];(try simp (disch:=omega) only [zI]);refine hK _ ?_;clear hK K
     try simp only [go_sem]
     refine zj [] ?_ ?_
     · try simp only [go_sem]
     · try simp only [go_sem]
   · refine zq ?_
     refine zb fun K hK=>?_;simp only [go_sem];refine hK _ ?_;clear hK K;refine zw (zk [1,2,12,13]) ?_;simp only [go_sem]
     refine zq ?_
     refine zc rfl (fun hc=>?_) (fun hc=>?_) <;> (try simp only [go_sem] at hc)
     refine zf ?_;simp only [go_sem]
     refine zq ?_
     refine zb fun K hK=>?_;simp only [go_sem];refine hK _ ?_;clear hK K;refine zw (zk [2,3]) ?_;simp only [go_sem];refine ze ?_;simp only [go_sem];simp only [sidesV,if_pos h0];exact rv_le _
abbrev tabsV (r : Ru) (most : Bool) : RV:=if ruE r = 0 then tabR (tabF r most) else .ns
theorem table_ok (r : Ru) (hw : WfR r) : ACalls Tryz.prog 24 [ruV r] (.tu [tabsV r false,tabsV r true,i64 (ruE r)]):=by
 have hs:=sides_ok r hw
 refine zas (rs:=[tabsV r false,tabsV r true,i64 (ruE r)]) [.tmp 2,.tmp 3,.tmp 4] Tryz.func24 rfl (by kernel_rfl) Tryz.ntmps24 rfl (by simp) rfl fun C vs=>?_
 refine zq ?_
 refine zb fun K hK=>?_;simp only [go_sem];refine hK _ ?_;clear hK K;refine zw (zfP 1 1 (ruC r) (by omega) rfl rfl) ?_;refine zw (zk [1]) ?_;simp only [go_sem]
 by_cases h0 : ruE r = 0
 · have e1 : sidesV r = .ag [sideP r false (tabF r false),sideP r true (tabF r true)]:=if_pos h0
   rw [e1,h0] at hs
   refine zq ?_
   refine zb fun K hK=>?_;simp only [go_sem]
   refine zh (hs) rfl (by simp only [go_sem,i64,ints]) (by simp only [go_sem,i64,ints]) (by first | exact .inl rfl | exact .inr rfl) ?_
   (try simp only [go_sem]);refine hK _ ?_;clear hK K;refine zw (zk [4,5]) ?_;simp only [go_sem]
   repeat refine zq ?_
   refine zb fun K hK=>?_;simp only [go_sem,bne_self_eq_false];refine hK _ ?_;clear hK K;refine zw (zk [4,5,12]) ?_;simp only [go_sem]
   refine zc rfl (fun hc=>?_) (fun hc=>?_) <;> (try simp only [go_sem] at hc)
   refine zx ?_
   try simp only [go_sem]
   refine zq ?_
   refine zg follows (by decide +kernel) (by kernel_rfl) fun K hK=>?_;simp only [go_sem];refine hK _ ?_;clear hK K;refine zw (zk [2,3,4]) ?_;simp only [go_sem];refine ze ?_;simp only [go_sem];simp only [tabsV,if_pos h0];exact ⟨rv_le _,rv_le _,h0.symm⟩
 · have e1 : sidesV r = .ag [.np,.np]:=if_neg h0
   have c : (ruE r != 0) = true:=by simpa using h0
   rw [e1] at hs
   refine zq ?_
   refine zb fun K hK=>?_;simp only [go_sem]
   refine zh (hs) rfl (by simp only [go_sem,i64,ints]) (by simp only [go_sem,i64,ints]) (by first | exact .inl rfl | exact .inr rfl) ?_
   (try simp only [go_sem]);refine hK _ ?_;clear hK K;refine zw (zk [4,5]) ?_;simp only [go_sem]
   repeat refine zq ?_
   refine zb fun K hK=>?_;simp only [go_sem,c];refine hK _ ?_;clear hK K;refine zw (zk [4,5,12]) ?_;simp only [go_sem]
   refine zc rfl (fun hc=>?_) (fun hc=>?_) <;> (try simp only [go_sem] at hc)
   refine zq ?_
   refine zb fun K hK=>?_;simp only [go_sem];refine hK _ ?_;clear hK K;refine zw (zk [2,3,4]) ?_;simp only [go_sem];refine ze ?_;simp only [go_sem];simp only [tabsV,if_neg h0];exact ⟨rv_le _,rv_le _⟩
structure RefH (r : Ru) : Prop where
 out : r.out = 0 ∨ r.out = 1 ∨ r.out = 2
 beds : ∀ a ∈ r.aims,∀ c ∈ a.beds,c.b = 0 ∨ 0 < scoreOf c.b
 hi : ∀ a ∈ r.aims,r.d ≤ hiS a.beds
theorem bedOk_pos {b : Int} (h : bedOk b = true) : 0 < scoreOf b:=by
 simp only [bedOk,Bool.or_eq_true,Bool.and_eq_true,decide_eq_true_eq] at h
 unfold scoreOf
 refine Int.mul_pos (by omega) (by omega)
structure Pos where
 round : Int
 start : Int
 left : Int
 darts : Int
set_option maxHeartbeats 4000000
theorem throws_mem {bs : List Int} (hB : ∀ b ∈ bs,bedOk b = true) {g s : Int} {x : Int × Int} (hx : x ∈ throwsO g s bs) : x.1 ∈ bs ∧ 0 ≤ x.2 ∧ x.2 < s ∧ x.2 = s - scoreOf x.1:=by
 unfold throwsO at hx
 obtain ⟨b,hb,e⟩:=List.mem_filterMap.1 hx
 split at e
 · rename_i hc
   injection e with e
   subst e
   have hp:=bedOk_pos (hB b hb)
   simp only [Bool.and_eq_true,decide_eq_true_eq] at hc
   obtain ⟨h1,h2⟩:=hc
   unfold afterO at h1 ⊢
   refine ⟨hb,?_⟩
   by_cases q0 : s - scoreOf b = 0
   · simp only [if_pos q0];omega
   · by_cases q1 : s - scoreOf b = 1
     · simp only [if_neg q0,if_pos q1];omega
     · simp only [if_neg q0,if_neg q1,decide_eq_true_eq] at h1 ⊢
       exact ⟨by omega,by omega,trivial⟩
 · cases e
end Go.Proofs.YtgfbenanljjgaaaGreat.Du

namespace Go.Proofs.YtgfbenanljjgaaaGreat.Du.Th
open Go Go.Oc
set_option maxRecDepth 8000
theorem aimOk_facts {d : Int} {a : Am} (h : aimOk d a = true) : bedOk a.at_ = true ∧ a.beds ≠ [] ∧ seqOk none a.beds = true ∧ chOk d a.beds = true ∧ loS a.beds ≤ d ∧ d ≤ hiS a.beds:=by
 simp only [aimOk,Bool.and_eq_true,decide_eq_true_eq,Bool.not_eq_true'] at h
 obtain ⟨⟨⟨⟨⟨h1,h2⟩,h3⟩,h4⟩,h5⟩,h6⟩:=h
 exact ⟨h1,fun e=>(by rw [e] at h2;cases h2),h3,h4,h5,h6⟩
theorem checkV_zero {d : Int} {l : List Am} (h : checkV d l = 0) : l.length ≤ 20 ∧ (∀ a ∈ l,a.beds.length ≤ 10) ∧ l ≠ [] ∧ (1 ≤ d ∧ d ≤ 3000) ∧ ∀ a ∈ l,aimOk d a = true:=by
 unfold checkV at h
 split at h
 · cases h
 rename_i h1
 split at h
 · cases h
 rename_i h2
 split at h
 · rename_i h3
   simp only [Bool.or_eq_true,decide_eq_true_eq,List.any_eq_true,not_or,not_exists,not_and,Nat.not_lt,Bool.not_eq_true,Bool.not_eq_false',Bool.and_eq_true] at h1 h2
   refine ⟨h1.1,h1.2,fun e=>?_,by simpa using h2.2,List.all_eq_true.1 h3⟩
   rw [e] at h2
   simp at h2
 · cases h
def cmpI (x y : Int) : Int:=if x < y then -1 else if y < x then 1 else 0
theorem nan_ok (n : Int) : ACalls Tryz.prog 79 [i64 n] (.bo false):=by
 refine zas (rs:=[.bo false]) [.tmp 2] Tryz.func79 rfl (by kernel_rfl) Tryz.ntmps79 rfl (by simp) rfl fun C vs=>?_
 refine zq ?_
 refine zb fun K hK=>?_;simp only [go_sem];refine hK _ ?_;clear hK K
 refine zq ?_
 refine zb fun K hK=>?_;simp only [go_sem];refine hK _ ?_;clear hK K;refine ze ?_;simp only [go_sem]
 simp
theorem compare_ok (x y : Int) : ACalls Tryz.prog 52 [i64 x,i64 y] (i64 (cmpI x y)):=by
 refine zas (rs:=[i64 (cmpI x y)]) [.tmp 4] Tryz.func52 rfl (by kernel_rfl) Tryz.ntmps52 rfl (by simp) rfl fun C vs=>?_
 refine zq ?_
 refine zb fun K hK=>?_;simp only [go_sem];refine hK _ ?_;clear hK K
 refine zq ?_
 refine zb fun K hK=>?_;simp only [go_sem]
 refine zh (nan_ok x) rfl (by simp only [go_sem,i64,ints]) (by simp only [go_sem,i64,ints]) (by first | exact .inl rfl | exact .inr rfl) ?_
 (try simp only [go_sem]);refine hK _ ?_;clear hK K
 refine zq ?_
 refine zb fun K hK=>?_;simp only [go_sem]
 refine zh (nan_ok y) rfl (by simp only [go_sem,i64,ints]) (by simp only [go_sem,i64,ints]) (by first | exact .inl rfl | exact .inr rfl) ?_
 (try simp only [go_sem]);refine hK _ ?_;clear hK K
 repeat refine zq ?_
 refine zb fun K hK=>?_;simp only [go_sem];refine hK _ ?_;clear hK K
 refine zc rfl (fun hc=>?_) (fun hc=>?_) <;> (try simp only [go_sem] at hc)
 refine zx ?_
 try simp only [go_sem]
 repeat refine zq ?_
 refine zb fun K hK=>?_;simp only [go_sem];refine hK _ ?_;clear hK K
 refine zc rfl (fun hc=>?_) (fun hc=>?_) <;> (try simp only [go_sem] at hc)
 refine zx ?_
 try simp only [go_sem]
 repeat refine zq ?_
 refine zb fun K hK=>?_;simp only [go_sem];refine hK _ ?_;clear hK K
 refine zc rfl (fun hc=>?_) (fun hc=>?_) <;> (try simp only [go_sem] at hc)
 · refine zq ?_
   refine zb fun K hK=>?_;simp only [go_sem];refine hK _ ?_;clear hK K;refine ze ?_;simp only [go_sem]
   simp [cmpI,hc]
 refine zx ?_
 try simp only [go_sem]
 repeat refine zq ?_
 refine zb fun K hK=>?_;simp only [go_sem];refine hK _ ?_;clear hK K
 have h1:=hc
 refine zc rfl (fun hc=>?_) (fun hc=>?_) <;> (try simp only [go_sem] at hc)
 · refine zq ?_
   refine zb fun K hK=>?_;simp only [go_sem];refine hK _ ?_;clear hK K;refine ze ?_;simp only [go_sem]
   have : ¬ x < y:=by omega
   simp [cmpI,hc,this]
 refine zx ?_
 try simp only [go_sem]
 refine zq ?_
 refine zb fun K hK=>?_;simp only [go_sem];refine hK _ ?_;clear hK K;refine ze ?_;simp only [go_sem]
 have h2 : ¬ x < y:=by omega
 have h3 : ¬ y < x:=by omega
 simp [cmpI,h2,h3]
def insB (lt : Nat → Nat → Bool) (x : Nat) : List Nat → List Nat
 | []=>[x]
 | y :: ys=>if lt x y then y :: insB lt x ys else x :: y :: ys
def sortB (lt : Nat → Nat → Bool) : List Nat → List Nat → List Nat
 | [],R=>R
 | x :: xs,R=>sortB lt xs (insB lt x R)
def sortN (lt : Nat → Nat → Bool) (l : List Nat) : List Nat:=(sortB lt l []).reverse
theorem insB_len (lt : Nat → Nat → Bool) (x : Nat) : ∀ R,(insB lt x R).length = R.length + 1
 | []=>rfl
 | y :: R => by
   unfold insB
   split
   · simp [insB_len lt x R]
   · rfl
theorem insB_skip (lt : Nat → Nat → Bool) (x : Nat) : ∀ (R : List Nat) (k : Nat),(∀ y ∈ R.take k,lt x y = true) → insB lt x R = R.take k ++ insB lt x (R.drop k)
 | R,0,_=>by simp
 | [],k + 1,_=>by simp
 | y :: R, k + 1, h => by
   have hy : lt x y = true:=h y (by simp)
   have ih:=insB_skip lt x R k fun z hz=>h z (by simp [hz])
   simp only [List.take_succ_cons,List.drop_succ_cons,List.cons_append];rw [← ih]
   simp [insB,hy]
theorem sortB_snoc (lt : Nat → Nat → Bool) : ∀ (l : List Nat) (x : Nat) (R : List Nat),sortB lt (l ++ [x]) R = insB lt x (sortB lt l R)
 | [],_,_=>rfl
 | y :: l,x,R=>by simp only [List.cons_append,sortB];exact sortB_snoc lt l x _
theorem sortB_len (lt : Nat → Nat → Bool) : ∀ (l R : List Nat),(sortB lt l R).length = l.length + R.length
 | [],R=>by simp [sortB]
 | x :: l,R=>by simp only [sortB];rw [sortB_len lt l,insB_len];simp;omega
theorem mem_insB (lt : Nat → Nat → Bool) (x z : Nat) : ∀ R,z ∈ insB lt x R ↔ z = x ∨ z ∈ R
 | []=>by simp [insB]
 | y :: R => by
   unfold insB
   split
   · simp only [List.mem_cons,mem_insB lt x z R]
     constructor
     · rintro (h | h | h) <;> simp [h]
     · rintro (h | h | h) <;> simp [h]
   · simp
theorem mem_sortB (lt : Nat → Nat → Bool) (z : Nat) : ∀ l R,z ∈ sortB lt l R ↔ z ∈ l ∨ z ∈ R
 | [],R=>by simp [sortB]
 | x :: l, R => by
   simp only [sortB];rw [mem_sortB lt z l,mem_insB]
   simp only [List.mem_cons]
   constructor
   · rintro (h | h | h) <;> simp [h]
   · rintro ((h | h) | h) <;> simp [h]
def holeL (R : List Nat) (x k : Nat) (rest : List Nat) : List Nat:=(R.drop k).reverse ++ x :: ((R.take k).reverse ++ rest)
theorem hole_len (R : List Nat) (x k : Nat) (rest : List Nat) (hk : k ≤ R.length) : (holeL R x k rest).length = R.length + 1 + rest.length:=by
 simp [holeL];omega
theorem hole_at (R : List Nat) (x k : Nat) (rest : List Nat) (hk : k ≤ R.length) : (holeL R x k rest)[R.length - k]? = some x:=by
 unfold holeL
 rw [List.getElem?_append_right (by simp)]
 simp
theorem hole_next {R : List Nat} {x k y : Nat} {rest : List Nat} (hy : R[k]? = some y) : (holeL R x k rest)[R.length - k - 1]? = some y ∧ (holeL R x k rest) = (R.drop (k + 1)).reverse ++ y :: x :: ((R.take k).reverse ++ rest) ∧ holeL R x (k + 1) rest = (R.drop (k + 1)).reverse ++ x :: y :: ((R.take k).reverse ++ rest):=by
 have hk:=(List.getElem?_eq_some_iff.1 hy).1
 have hd:=drop_of_opt hy
 have ht:=zto hy
 have e1 : (holeL R x k rest) = (R.drop (k + 1)).reverse ++ y :: x :: ((R.take k).reverse ++ rest):=by
  unfold holeL;rw [hd];simp
 refine ⟨?_,e1,by unfold holeL;rw [ht];simp⟩
 rw [e1,List.getElem?_append_right (by simp;omega)]
 have : R.length - k - 1 - (R.drop (k + 1)).reverse.length = 0:=by simp;omega
 rw [this];rfl
theorem hole_swap {α : Type} (g : Nat → α) {R : List Nat} {x k y : Nat} {rest : List Nat} (hy : R[k]? = some y) :
 (((holeL R x k rest).map g).set (R.length - k) (g y)).set (R.length - k - 1) (g x) = (holeL R x (k + 1) rest).map g:=by
 obtain ⟨_,e1,e2⟩:=hole_next (x:=x) (rest:=rest) hy
 have hk:=(List.getElem?_eq_some_iff.1 hy).1
 rw [e1,e2,← List.map_set,← List.map_set]
 congr 1
 have hl : (R.drop (k + 1)).reverse.length = R.length - k - 1:=by simp;omega
 generalize (R.drop (k + 1)).reverse = A at hl
 generalize (R.take k).reverse ++ rest = B
 have e3 : R.length - k = A.length + 1:=by omega
 rw [e3,Nat.add_sub_cancel]
 rw [List.set_append_right _ _ (by omega)]
 simp only [Nat.add_sub_cancel_left,List.set_cons_succ,List.set_cons_zero];rw [List.set_append_right _ _ (by omega)]
 simp
theorem lent_put {vs : Nat → Nat} {k : Nat} (h : Lent vs) : Lent (upd vs k 0):=fun j hj=>by
 unfold upd;split
 · rfl
 · exact h j hj
abbrev idx (l : List Nat) : List (List RV):=l.map fun (x : Nat)=>[i64 (x : Int)]
theorem insertion_ok (lt : Nat → Nat → Bool) (c : Nat → Nat → Int) (f : Nat) (caps : List RV) (l : List Nat) (hl : l.length ≤ 1000) (hlt : ∀ x y,lt x y = decide (c x y < 0))
 (hcc : ∀ x ∈ l,∀ y ∈ l,ACalls Tryz.prog f (i64 (x : Int) :: i64 (y : Int) :: caps) (i64 (c x y))) :
 MCalls Tryz.prog 200 [(1000,.arr 3 1 (idx l))] [(1000,.arr 3 1 (idx (sortN lt l)))] [.os 1000 0 1 0 l.length,.r (i64 0),.r (i64 l.length),.r (.fn f caps)] (.tu []):=by
 refine mcalls_st (n:=53) (rs:=[]) _ _ [] Tryz.func200 rfl (by kernel_rfl) Tryz.ntmps200 rfl (by simp) rfl rfl fun C=>?_
 have hmem : ∀ i z,z ∈ sortB lt (l.take i) [] → z ∈ l:=fun i z hz=>by
  rw [mem_sortB] at hz
  rcases hz with hz | hz
  · exact List.mem_of_mem_take hz
  · cases hz
 refine zq ?_
 refine zb fun K hK=>?_;simp only [go_sem];(try simp (disch:=omega) only [zI]);refine hK _ ?_;clear hK K;refine zw (zk [0,1,2,3,8]) ?_;simp only [go_sem];refine zd ?_
 refine awp_upto0 (n:=53) (max l.length 1) (fun i vs=>[(0,.os 1000 0 1 0 l.length),(1,.r (i64 0)),(2,.r (i64 l.length)),(3,.r (.fn f caps)),(8,.r (i64 i))])
  (fun i=>[(1000,.arr 3 1 (idx ((sortB lt (l.take i) []).reverse ++ l.drop i)))]) (fun i=>1 ≤ i) 1 (fit0_of [] lent_zero ?_ ?_) (by omega) (Nat.le_refl _) ?_
 · try simp only [go_sem]
 · simp only [go_sem]
   cases l with
   | nil=>rfl
   | cons x l=>simp [sortB,insB]
 · intro i vs hv hi hi1
   have hv0:=hv 1000 (by omega)
   repeat refine zq ?_
   refine zb fun K hK=>?_;simp only [go_sem];refine hK _ ?_;clear hK K;refine zw (zk [0,1,2,3,8,14]) ?_;simp only [go_sem]
   refine zc rfl (fun hc=>?_) (fun hc=>?_) <;> (try simp only [go_sem] at hc)
   · have hci : i < l.length:=by omega
     obtain ⟨x,hx⟩:=zol hci
     obtain ⟨R,hR⟩ : ∃ R,R = sortB lt (l.take i) []:=⟨_,rfl⟩
     have hRl : R.length = i:=by rw [hR,sortB_len];simp;omega
     have hRm : ∀ z ∈ R,z ∈ l:=fun z hz=>hmem i z (hR ▸ hz)
     have hnx : sortB lt (l.take (i + 1)) [] = insB lt x R:=by rw [zto hx,sortB_snoc,hR]
     have hst : (sortB lt (l.take i) []).reverse ++ l.drop i = holeL R x 0 (l.drop (i + 1)):=by rw [← hR,drop_of_opt hx];simp [holeL]
     rw [hst]
     refine zx ?_
     refine zq ?_
     refine zd ?_
     refine zq ?_
     refine zb fun K hK=>?_;simp only [go_sem];refine hK _ ?_;clear hK K;refine zw (zk [0,1,2,3,8,9]) ?_;simp only [go_sem];refine zd ?_
     refine awp_upto0 (n:=53) i (fun k vs=>[(0,.os 1000 0 1 0 l.length),(1,.r (i64 0)),(2,.r (i64 l.length)),(3,.r (.fn f caps)),(8,.r (i64 i)),(9,.r (i64 (i - k : Nat)))])
      (fun k=>[(1000,.arr 3 1 (idx (holeL R x k (l.drop (i + 1)))))]) (fun k=>∀ y ∈ R.take k,lt x y = true) 0 (fit0_of [] hv ?_ ?_) (Nat.zero_le _) (by simp) ?_
     · try simp only [go_sem]
     · try simp only [go_sem]
     · intro k vs hv hk hI
       have hv0:=hv 1000 (by omega)
       have hins:=insB_skip lt x R k hI
       have done : insB lt x (R.drop k) = x :: R.drop k → sortB lt (l.take (i + 1)) [] = R.take k ++ x :: R.drop k:=fun h=>by rw [hnx,hins,h]
       by_cases hk0 : k = i
       · have e0 : i - k = 0:=by omega
         repeat refine zq ?_
         refine awp_dreg2 [(0,some 1000)] follows (by decide +kernel) (by kernel_rfl) (by simp only [keysOk,List.mem_cons,List.not_mem_nil,forall_eq_or_imp,Oc.keyOf,go_sem];simp) fun K hK=>?_
         simp only [go_sem,hv0,e0];refine hK _ ?_;clear hK K;refine zw (zk [0,1,2,3,8,9,34]) ?_;simp only [go_sem]
         refine zc rfl (fun hc=>?_) (fun hc=>?_) <;> (try simp only [go_sem] at hc)
         refine zf ?_;simp only [go_sem];refine zb fun K hK=>?_;simp only [go_sem];(try simp (disch:=omega) only [zI]);refine hK _ ?_;clear hK K
         try simp only [go_sem]
         refine ⟨by omega,fit0_of [] hv ?_ ?_⟩
         · try simp only [go_sem]
         · have hd0 : R.drop k = []:=List.drop_eq_nil_of_le (by omega)
           have:=done (by rw [hd0];rfl)
           simp only [go_sem,this]
           simp [holeL]
       · obtain ⟨y,hy⟩:=zol (l:=R) (i:=k) (by omega)
         obtain ⟨j,hj⟩ : ∃ j,i - k = j + 1:=⟨i - k - 1,by omega⟩
         have hjs : IntKind.i64.wrap ((j : Int) + 1 - 1) = j:=by rw [zI] <;> omega
         have hlen : (holeL R x k (l.drop (i + 1))).length = l.length:=by rw [hole_len _ _ _ _ (by omega),List.length_drop];omega
         have hxa : (holeL R x k (l.drop (i + 1)))[j + 1]? = some x:=by rw [← hj,← hRl];exact hole_at R x k _ (by omega)
         have hya : (holeL R x k (l.drop (i + 1)))[j]? = some y:=by
          have:=(hole_next (x:=x) (rest:=l.drop (i + 1)) hy).1
          rw [hRl,hj] at this
          exact this
         have hcall:=hcc x (zmo hx) y (hRm y (zmo hy))
         have hpos : (0 < (j : Int) + 1) = True:=by simp
         have hlxy:=hlt x y
         repeat refine zq ?_
         refine awp_dreg2 [(0,some 1000)] follows (by decide +kernel) (by kernel_rfl) (by simp only [keysOk,List.mem_cons,List.not_mem_nil,forall_eq_or_imp,Oc.keyOf,go_sem];simp) fun K hK=>?_
         simp only [go_sem,hv0,hj,hjs,hxa,hya,hlen,hpos]
         refine ⟨by omega,by omega,?_⟩
         refine zh (hcall) rfl (by simp only [go_sem,i64,ints,hv0]) (by simp only [go_sem,i64,ints,hv0]) (by first | exact .inl rfl | exact .inr rfl) ?_
         (try simp only [go_sem,hv0]);refine hK _ ?_;clear hK K;refine zw (zk [0,1,2,3,8,9,34]) ?_;simp only [go_sem]
         cases hcx : decide (c x y < 0)
         · skip
           refine zc rfl (fun hc=>?_) (fun hc=>?_) <;> (try simp only [go_sem] at hc)
           refine zf ?_;simp only [go_sem];refine zb fun K hK=>?_;simp only [go_sem];(try simp (disch:=omega) only [zI]);refine hK _ ?_;clear hK K
           try simp only [go_sem]
           refine ⟨by omega,fit0_of [] hv ?_ ?_⟩
           · try simp only [go_sem]
           · have:=done (by rw [drop_of_opt hy];simp [insB,hlxy,hcx])
             simp only [go_sem,this]
             simp [holeL]
         · skip
           refine zc rfl (fun hc=>?_) (fun hc=>?_) <;> (try simp only [go_sem] at hc)
           refine zx ?_
           try simp only [go_sem]
           refine zq ?_
           refine zd ?_
           have hset : ((idx (holeL R x k (l.drop (i + 1)))).set (j + 1) [i64 (y : Int)]).getD j [] = [i64 (y : Int)]:=by
            rw [List.getD_eq_getElem?_getD,List.getElem?_set_ne (by omega),List.getElem?_map,hya];rfl
           have hsw:=hole_swap (fun (x : Nat)=>[i64 (x : Int)]) (x:=x) (rest:=l.drop (i + 1)) hy
           rw [hRl,hj] at hsw
           simp only [Nat.add_sub_cancel] at hsw
           refine awp_dreg2 [(0,some 1000)] follows (by decide +kernel) (by kernel_rfl) (by simp only [keysOk,List.mem_cons,List.not_mem_nil,forall_eq_or_imp,Oc.keyOf,go_sem];simp) fun K hK=>?_
           simp only [go_sem,hv0,hj,hjs,hxa,hya,hlen,hset,List.length_set]
           repeat' first | intro _ | refine And.intro ?_ ?_
           all_goals first | omega | skip
           all_goals (refine hK _ ?_;clear hK K)
           refine zw (zk [0,1,2,3,8,9]) ?_;simp only [go_sem];refine zb fun K hK=>?_;simp only [go_sem,hjs];refine hK _ ?_;clear hK K
           try simp only [go_sem]
           have hj2 : i - (k + 1) = j:=by omega
           refine ⟨by omega,?_,fit0_of [] (lent_put (lent_put hv)) ?_ ?_⟩
           · rw [zto hy]
             intro z hz
             rcases List.mem_append.1 hz with hz | hz
             · exact hI z hz
             · simp only [List.mem_singleton] at hz
               subst hz
               rw [hlxy,hcx]
           · simp only [go_sem,hj2]
           · simp only [go_sem];exact congrArg (fun z=>[(1000,RowC.arr 3 1 z)]) hsw
   · refine zf ?_;simp only [go_sem]
     have h1 : l.take i = l:=List.take_of_length_le (by omega)
     have h2 : l.drop i = []:=List.drop_eq_nil_of_le (by omega)
     rw [h1,h2,List.append_nil]
     rfl
end Go.Proofs.YtgfbenanljjgaaaGreat.Du.Th

namespace Go.Proofs.YtgfbenanljjgaaaGreat.Du.Th.Ai
open Go Go.Oc
set_option maxRecDepth 8000
abbrev arrV (l : List Int) : List (List RV):=l.map fun n=>[i64 n]
abbrev fnS (s : Bool) : AV:=.fn 186 [.r (.rp [.bo s]),.pt 1001 0 0]
abbrev rowsV (l : List Nat) (vals : List Int) : List (Nat × RowC):=[(1000,.arr 3 1 (idx l)),(1001,.box [.os 1002 0 1 0 vals.length]),(1002,.arr 3 1 (arrV vals))]
theorem insertionV_ok (lt : Nat → Nat → Bool) (c : Nat → Nat → Int) (s : Bool) (vals : List Int) (l : List Nat) (hl : l.length ≤ 1000) (hlt : ∀ x y,lt x y = decide (c x y < 0))
 (hcc : ∀ x ∈ l,∀ y ∈ l,ACalls Tryz.prog 186 [i64 (x : Int),i64 (y : Int),.rp [.bo s],.rp [ints vals]] (i64 (c x y))) :
 MCalls Tryz.prog 200 (rowsV l vals) (rowsV (sortN lt l) vals) [.os 1000 0 1 0 l.length,.r (i64 0),.r (i64 l.length),fnS s] (.tu []):=by
 refine mcalls_st (n:=53) (rs:=[]) _ _ [] Tryz.func200 rfl (by kernel_rfl) Tryz.ntmps200 rfl (by simp) rfl rfl fun C=>?_
 have hmem : ∀ i z,z ∈ sortB lt (l.take i) [] → z ∈ l:=fun i z hz=>by
  rw [mem_sortB] at hz
  rcases hz with hz | hz
  · exact List.mem_of_mem_take hz
  · cases hz
 refine zq ?_
 refine zb fun K hK=>?_;simp only [go_sem];(try simp (disch:=omega) only [zI]);refine hK _ ?_;clear hK K;refine zw (zk [0,1,2,3,8]) ?_;simp only [go_sem];refine zd ?_
 refine awp_upto0 (n:=53) (max l.length 1) (fun i vs=>[(0,.os 1000 0 1 0 l.length),(1,.r (i64 0)),(2,.r (i64 l.length)),(3,fnS s),(8,.r (i64 i))])
  (fun i=>[(1000,.arr 3 1 (idx ((sortB lt (l.take i) []).reverse ++ l.drop i))),(1001,.box [.os 1002 0 1 0 vals.length]),(1002,.arr 3 1 (arrV vals))]) (fun i=>1 ≤ i) 1 (fit0_of [] lent_zero ?_ ?_) (by omega) (Nat.le_refl _) ?_
 · try simp only [go_sem]
 · simp only [go_sem]
   cases l with
   | nil=>rfl
   | cons x l=>simp [sortB,insB]
 · intro i vs hv hi hi1
   have hv0:=hv 1000 (by omega)
   have hv1:=hv 1001 (by omega)
   have hv2:=hv 1002 (by omega)
   repeat refine zq ?_
   refine zb fun K hK=>?_;simp only [go_sem];refine hK _ ?_;clear hK K;refine zw (zk [0,1,2,3,8,14]) ?_;simp only [go_sem]
   refine zc rfl (fun hc=>?_) (fun hc=>?_) <;> (try simp only [go_sem] at hc)
   · have hci : i < l.length:=by omega
     obtain ⟨x,hx⟩:=zol hci
     obtain ⟨R,hR⟩ : ∃ R,R = sortB lt (l.take i) []:=⟨_,rfl⟩
     have hRl : R.length = i:=by rw [hR,sortB_len];simp;omega
     have hRm : ∀ z ∈ R,z ∈ l:=fun z hz=>hmem i z (hR ▸ hz)
     have hnx : sortB lt (l.take (i + 1)) [] = insB lt x R:=by rw [zto hx,sortB_snoc,hR]
     have hst : (sortB lt (l.take i) []).reverse ++ l.drop i = holeL R x 0 (l.drop (i + 1)):=by rw [← hR,drop_of_opt hx];simp [holeL]
     rw [hst]
     refine zx ?_
     refine zq ?_
     refine zd ?_
     refine zq ?_
     refine zb fun K hK=>?_;simp only [go_sem];refine hK _ ?_;clear hK K;refine zw (zk [0,1,2,3,8,9]) ?_;simp only [go_sem];refine zd ?_
     refine awp_upto0 (n:=53) i (fun k vs=>[(0,.os 1000 0 1 0 l.length),(1,.r (i64 0)),(2,.r (i64 l.length)),(3,fnS s),(8,.r (i64 i)),(9,.r (i64 (i - k : Nat)))])
      (fun k=>[(1000,.arr 3 1 (idx (holeL R x k (l.drop (i + 1))))),(1001,.box [.os 1002 0 1 0 vals.length]),(1002,.arr 3 1 (arrV vals))]) (fun k=>∀ y ∈ R.take k,lt x y = true) 0 (fit0_of [] hv ?_ ?_) (Nat.zero_le _) (by simp) ?_
     · try simp only [go_sem]
     · try simp only [go_sem]
     · intro k vs hv hk hI
       have hv0:=hv 1000 (by omega)
       have hv1:=hv 1001 (by omega)
       have hv2:=hv 1002 (by omega)
       have hins:=insB_skip lt x R k hI
       have done : insB lt x (R.drop k) = x :: R.drop k → sortB lt (l.take (i + 1)) [] = R.take k ++ x :: R.drop k:=fun h=>by rw [hnx,hins,h]
       by_cases hk0 : k = i
       · have e0 : i - k = 0:=by omega
         repeat refine zq ?_
         refine awp_dreg2 [(0,some 1000)] follows (by decide +kernel) (by kernel_rfl) (by simp only [keysOk,List.mem_cons,List.not_mem_nil,forall_eq_or_imp,Oc.keyOf,go_sem];simp) fun K hK=>?_
         simp only [go_sem,hv0,hv1,hv2,e0];refine hK _ ?_;clear hK K;refine zw (zk [0,1,2,3,8,9,34]) ?_;simp only [go_sem]
         refine zc rfl (fun hc=>?_) (fun hc=>?_) <;> (try simp only [go_sem] at hc)
         refine zf ?_;simp only [go_sem];refine zb fun K hK=>?_;simp only [go_sem];(try simp (disch:=omega) only [zI]);refine hK _ ?_;clear hK K
         try simp only [go_sem]
         refine ⟨by omega,fit0_of [] hv ?_ ?_⟩
         · try simp only [go_sem]
         · have hd0 : R.drop k = []:=List.drop_eq_nil_of_le (by omega)
           have:=done (by rw [hd0];rfl)
           simp only [go_sem,this]
           simp [holeL]
       · obtain ⟨y,hy⟩:=zol (l:=R) (i:=k) (by omega)
         obtain ⟨j,hj⟩ : ∃ j,i - k = j + 1:=⟨i - k - 1,by omega⟩
         have hjs : IntKind.i64.wrap ((j : Int) + 1 - 1) = j:=by rw [zI] <;> omega
         have hlen : (holeL R x k (l.drop (i + 1))).length = l.length:=by rw [hole_len _ _ _ _ (by omega),List.length_drop];omega
         have hxa : (holeL R x k (l.drop (i + 1)))[j + 1]? = some x:=by rw [← hj,← hRl];exact hole_at R x k _ (by omega)
         have hya : (holeL R x k (l.drop (i + 1)))[j]? = some y:=by
          have:=(hole_next (x:=x) (rest:=l.drop (i + 1)) hy).1
          rw [hRl,hj] at this
          exact this
         have hcall:=hcc x (zmo hx) y (hRm y (zmo hy))
         have hpos : (0 < (j : Int) + 1) = True:=by simp
         have hlxy:=hlt x y
         repeat refine zq ?_
         refine awp_dreg2 [(0,some 1000)] follows (by decide +kernel) (by kernel_rfl) (by simp only [keysOk,List.mem_cons,List.not_mem_nil,forall_eq_or_imp,Oc.keyOf,go_sem];simp) fun K hK=>?_
         simp only [go_sem,hv0,hv1,hv2,hj,hjs,hxa,hya,hlen,hpos]
         refine ⟨by omega,by omega,?_⟩
         refine zh (hcall) rfl (by simp only [go_sem,i64,ints,hv0,hv1,hv2,fnS]) (by simp only [go_sem,i64,ints,hv0,hv1,hv2,fnS]) (by first | exact .inl rfl | exact .inr rfl) ?_
         (try simp only [go_sem,hv0,hv1,hv2,fnS]);refine hK _ ?_;clear hK K;refine zw (zk [0,1,2,3,8,9,34]) ?_;simp only [go_sem]
         cases hcx : decide (c x y < 0)
         · skip
           refine zc rfl (fun hc=>?_) (fun hc=>?_) <;> (try simp only [go_sem] at hc)
           refine zf ?_;simp only [go_sem];refine zb fun K hK=>?_;simp only [go_sem];(try simp (disch:=omega) only [zI]);refine hK _ ?_;clear hK K
           try simp only [go_sem]
           refine ⟨by omega,fit0_of [] hv ?_ ?_⟩
           · try simp only [go_sem]
           · have:=done (by rw [drop_of_opt hy];simp [insB,hlxy,hcx])
             simp only [go_sem,this]
             simp [holeL]
         · skip
           refine zc rfl (fun hc=>?_) (fun hc=>?_) <;> (try simp only [go_sem] at hc)
           refine zx ?_
           try simp only [go_sem]
           refine zq ?_
           refine zd ?_
           have hset : ((idx (holeL R x k (l.drop (i + 1)))).set (j + 1) [i64 (y : Int)]).getD j [] = [i64 (y : Int)]:=by
            rw [List.getD_eq_getElem?_getD,List.getElem?_set_ne (by omega),List.getElem?_map,hya];rfl
           have hsw:=hole_swap (fun (x : Nat)=>[i64 (x : Int)]) (x:=x) (rest:=l.drop (i + 1)) hy
           rw [hRl,hj] at hsw
           simp only [Nat.add_sub_cancel] at hsw
           refine awp_dreg2 [(0,some 1000)] follows (by decide +kernel) (by kernel_rfl) (by simp only [keysOk,List.mem_cons,List.not_mem_nil,forall_eq_or_imp,Oc.keyOf,go_sem];simp) fun K hK=>?_
           simp only [go_sem,hv0,hv1,hv2,hj,hjs,hxa,hya,hlen,hset,List.length_set]
           repeat' first | intro _ | refine And.intro ?_ ?_
           all_goals first | omega | skip
           all_goals (refine hK _ ?_;clear hK K)
           refine zw (zk [0,1,2,3,8,9]) ?_;simp only [go_sem];refine zb fun K hK=>?_;simp only [go_sem,hjs];refine hK _ ?_;clear hK K
           try simp only [go_sem]
           have hj2 : i - (k + 1) = j:=by omega
           refine ⟨by omega,?_,fit0_of [] (lent_put (lent_put hv)) ?_ ?_⟩
           · rw [zto hy]
             intro z hz
             rcases List.mem_append.1 hz with hz | hz
             · exact hI z hz
             · simp only [List.mem_singleton] at hz
               subst hz
               rw [hlxy,hcx]
           · simp only [go_sem,hj2]
           · simp only [go_sem];exact congrArg (fun z=>[(1000,RowC.arr 3 1 z),(1001,RowC.box [.os 1002 0 1 0 vals.length]),(1002,RowC.arr 3 1 (arrV vals))]) hsw
   · refine zf ?_;simp only [go_sem]
     have h1 : l.take i = l:=List.take_of_length_le (by omega)
     have h2 : l.drop i = []:=List.drop_eq_nil_of_le (by omega)
     rw [h1,h2,List.append_nil]
     rfl
set_option maxHeartbeats 4000000
theorem ascore_ok (b : Int) (hb : 0 ≤ b ∧ b ≤ 499) : ACalls Tryz.prog 182 [i64 b] (i64 (scoreOf b)):=by
 have e1 : Int.tdiv b 100 = b / 100:=Int.tdiv_eq_ediv_of_nonneg hb.1
 have e2 : Int.tmod b 100 = b % 100:=Int.tmod_eq_emod_of_nonneg hb.1
 have h1 : 0 ≤ b / 100 ∧ b / 100 ≤ 4:=by omega
 have h2 : 0 ≤ b % 100 ∧ b % 100 ≤ 99:=by omega
 have h3:=Int.mul_nonneg h1.1 h2.1
 have h4:=Int.mul_le_mul h1.2 h2.2 h2.1 (show (0 : Int) ≤ 4 by omega)
 have w1 : IntKind.i64.wrap (b / 100) = b / 100:=by rw [zI] <;> omega
 have w2 : IntKind.i64.wrap (b % 100) = b % 100:=by rw [zI] <;> omega
 have w3 : IntKind.i64.wrap (b / 100 * (b % 100)) = b / 100 * (b % 100):=by rw [zI] <;> omega
 have hs : scoreOf b = b / 100 * (b % 100):=rfl
 rw [hs]
 refine zas (rs:=[i64 (b / 100 * (b % 100))]) [.tmp 2] Tryz.func182 rfl (by kernel_rfl) Tryz.ntmps182 rfl (by simp) rfl fun C vs=>?_
 refine zq ?_
 refine zb fun K hK=>?_;simp only [go_sem];refine hK _ ?_;clear hK K;refine zw (zk [0]) ?_;simp only [go_sem]
 refine zq ?_
 refine zb fun K hK=>?_;simp only [go_sem,e1,e2,w1,w2,w3];refine hK _ ?_;clear hK K;refine zw (zk [2]) ?_;simp only [go_sem];refine ze ?_;simp only [go_sem]
def opA (g b : Int) : Bool:=if g = 1 then decide (b / 100 = 2) else if g = 2 then decide (2 ≤ b / 100) else decide (b ≠ 0)
theorem aopens_ok (b g : Int) (hb : 0 ≤ b ∧ b ≤ 499) : ACalls Tryz.prog 183 [i64 b,i64 g] (.bo (opA g b)):=by
 have e1 : Int.tdiv b 100 = b / 100:=Int.tdiv_eq_ediv_of_nonneg hb.1
 have w1 : IntKind.i64.wrap (b / 100) = b / 100:=by rw [zI] <;> omega
 refine zas (rs:=[.bo (opA g b)]) [.tmp 4] Tryz.func183 rfl (by kernel_rfl) Tryz.ntmps183 rfl (by simp) rfl fun C vs=>?_
 refine zq ?_
 refine zb fun K hK=>?_;simp only [go_sem];refine hK _ ?_;clear hK K;refine zw (zk [0,1]) ?_;simp only [go_sem]
 refine zq ?_
 refine zb fun K hK=>?_;simp only [go_sem,e1,w1];refine hK _ ?_;clear hK K;refine zw (zk [0,1,5]) ?_;simp only [go_sem]
 repeat refine zq ?_
 refine zb fun K hK=>?_;simp only [go_sem];refine hK _ ?_;clear hK K;refine zw (zk [0,5,8]) ?_;simp only [go_sem];refine zd ?_
 refine zq ?_
 refine zb fun K hK=>?_;simp only [go_sem];refine hK _ ?_;clear hK K;refine zw (zk [0,5,8,9]) ?_;simp only [go_sem]
 by_cases h1 : g = 1
 · subst h1
   refine zc rfl (fun hc=>?_) (fun hc=>?_) <;> (try simp only [go_sem] at hc)
   refine zq ?_
   refine zb fun K hK=>?_;simp only [go_sem];refine hK _ ?_;clear hK K;refine zw (zk [4]) ?_;simp only [go_sem];refine ze ?_;simp only [go_sem];rw [Bool.eq_iff_iff]
   simp [opA]
 · have e1 : (g == 1) = false:=by simpa using h1
   rw [e1]
   refine zc rfl (fun hc=>?_) (fun hc=>?_) <;> (try simp only [go_sem] at hc)
   refine zq ?_
   refine zb fun K hK=>?_;simp only [go_sem];refine hK _ ?_;clear hK K;refine zw (zk [0,5,13]) ?_;simp only [go_sem]
   by_cases h2 : g = 2
   · subst h2
     refine zc rfl (fun hc=>?_) (fun hc=>?_) <;> (try simp only [go_sem] at hc)
     refine zq ?_
     refine zb fun K hK=>?_;simp only [go_sem];refine hK _ ?_;clear hK K;refine zw (zk [4]) ?_;simp only [go_sem];refine ze ?_;simp only [go_sem]
     simp [opA]
   · have e2 : (g == 2) = false:=by simpa using h2
     rw [e2]
     refine zc rfl (fun hc=>?_) (fun hc=>?_) <;> (try simp only [go_sem] at hc)
     refine zx ?_
     try simp only [go_sem]
     refine zq ?_
     refine zb fun K hK=>?_;simp only [go_sem];refine hK _ ?_;clear hK K;refine zw (zk [4]) ?_;simp only [go_sem];refine ze ?_;simp only [go_sem];rw [Bool.eq_iff_iff]
     simp [opA,h1,h2]
def lowG (g : Int) : Int:=if g = 0 then 1 else 2
theorem alow_ok (g : Int) : ACalls Tryz.prog 110 [i64 g] (i64 (lowG g)):=by
 refine zas (rs:=[i64 (lowG g)]) [.tmp 2] Tryz.func110 rfl (by kernel_rfl) Tryz.ntmps110 rfl (by simp) rfl fun C vs=>?_
 refine zq ?_
 refine zb fun K hK=>?_;simp only [go_sem];refine hK _ ?_;clear hK K;refine zw (zk [0]) ?_;simp only [go_sem]
 repeat refine zq ?_
 refine zb fun K hK=>?_;simp only [go_sem];refine hK _ ?_;clear hK K;refine zw (zk [4]) ?_;simp only [go_sem]
 by_cases h : g = 0
 · subst h
   refine zc rfl (fun hc=>?_) (fun hc=>?_) <;> (try simp only [go_sem] at hc)
   refine zq ?_
   refine zb fun K hK=>?_;simp only [go_sem];refine hK _ ?_;clear hK K;refine ze ?_;simp only [go_sem]
   rfl
 · have e : (g == 0) = false:=by simpa using h
   rw [e]
   refine zc rfl (fun hc=>?_) (fun hc=>?_) <;> (try simp only [go_sem] at hc)
   refine zx ?_
   try simp only [go_sem]
   refine zq ?_
   refine zb fun K hK=>?_;simp only [go_sem];refine hK _ ?_;clear hK K;refine ze ?_;simp only [go_sem]
   simp [lowG,h]
theorem awithin1_ok (n a b : Int) : ACalls Tryz.prog 117 [i64 n,.rp [i64 a],.rp [i64 b]] (.bo (decide (n < a) || decide (b < n))):=by
 refine zas (rs:=[.bo (decide (n < a) || decide (b < n))]) [.tmp 4] Tryz.func117 rfl (by kernel_rfl) Tryz.ntmps117 rfl (by simp) rfl fun C vs=>?_
 refine zq ?_
 refine zb fun K hK=>?_;simp only [go_sem];refine hK _ ?_;clear hK K
 refine zq ?_
 refine zb fun K hK=>?_;simp only [go_sem]
 refine ⟨fun h=>?_,fun h=>?_⟩ <;>
 · skip
   refine hK _ ?_;clear hK K;refine ze ?_;simp only [go_sem]
   try simp [h]
theorem awithin_ok (a b : Int) (l : List Int) : ACalls Tryz.prog 84 [i64 a,i64 b,ints l] (.bo (withinL a b l)):=by
 refine zas (rs:=[.bo (withinL a b l)]) [.tmp 6] Tryz.func84 rfl (by kernel_rfl) Tryz.ntmps84 rfl (by simp) rfl fun C vs=>?_
 refine zq ?_
 refine zb fun K hK=>?_;simp only [go_sem];refine hK _ ?_;clear hK K
 refine zq ?_
 refine zb fun K hK=>?_;simp only [go_sem]
 refine zh (contains_ok (fun n=>decide (n < a) || decide (b < n)) 117 [.rp [i64 a],.rp [i64 b]] l fun x _=>awithin1_ok x a b) rfl (by simp only [go_sem,i64,ints]) (by simp only [go_sem,i64,ints]) (by first | exact .inl rfl | exact .inr rfl) ?_
 (try simp only [go_sem]);refine hK _ ?_;clear hK K;refine ze ?_;simp only [go_sem];rw [← withinL_not]
def canA (beds : List Bd) (i : Nat) (d : Int) : Int:=min (d - (loS beds - (beds.getD i ⟨0,0,0⟩).lo)) (beds.getD i ⟨0,0,0⟩).hi
def denA (beds : List Bd) (i : Nat) (d : Int) (k : Nat) : Int:=d - (loS (beds.take k) - if i < k then (beds.getD i ⟨0,0,0⟩).lo else 0)
theorem can_ok (beds : List Bd) (i : Nat) (d : Int) (hi : i < beds.length) (hl : beds.length ≤ 1000) (hs : Small beds) (hd : 0 ≤ d ∧ d ≤ 6000) : ACalls Tryz.prog 184 [bedsR beds,i64 (i : Int),i64 d] (i64 (canA beds i d)):=by
 obtain ⟨bi,hbi⟩:=zol hi
 have hgi : beds.getD i ⟨0,0,0⟩ = bi:=by rw [List.getD_eq_getElem?_getD,hbi];rfl
 have hbis:=hs bi (zmo hbi)
 have hbnd : ∀ k,k ≤ beds.length → -6000000 ≤ denA beds i d k ∧ denA beds i d k ≤ 12000:=fun k hk=>by
  have h1:=(sums_le (hs.take k)).1
  have h2 : (beds.take k).length ≤ 1000:=by rw [List.length_take];omega
  unfold denA
  rw [hgi]
  have h3 : (6000 : Int) * ((beds.take k).length : Int) ≤ 6000 * 1000:=Int.mul_le_mul_of_nonneg_left (by omega) (by omega)
  split <;> omega
 refine zas (rs:=[i64 (canA beds i d)]) [.tmp 6] Tryz.func184 rfl (by kernel_rfl) Tryz.ntmps184 rfl (by simp) rfl fun C vs=>?_
 refine zq ?_
 refine zb fun K hK=>?_;simp only [go_sem];refine hK _ ?_;clear hK K;refine zw (zk [0,1,2]) ?_;simp only [go_sem]
 repeat refine zq ?_
 refine zb fun K hK=>?_;simp only [go_sem,List.length_map]
 intro _
 refine hK _ ?_;clear hK K;refine zw (zk [0,1,2,9,10,11]) ?_;simp only [go_sem];refine zd ?_
 refine zup (n:=33) beds.length (fun k vs=>[(0,.r (bedsR beds)),(1,.r (i64 (i : Int))),(2,.r (i64 (denA beds i d k))),(9,.r (bedsR beds)),(10,.r (i64 (beds.length : Int))),(11,.r (i64 (k : Int)))])
  (fun k=>[]) (fun _=>True) 0 (zfo [] ?_ ?_) (Nat.zero_le _) trivial ?_
 · try simp only [go_sem]
   try simp [denA,loS]
 · try simp only [go_sem]
 · intro k vs hk _
   by_cases hkn : k < beds.length
   · obtain ⟨c,hcb⟩:=zol hkn
     have hcs:=hs c (zmo hcb)
     have hb0:=hbnd k (by omega)
     have hb1:=hbnd (k + 1) (by omega)
     have hlo : loS (beds.take (k + 1)) = loS (beds.take k) + c.lo:=by rw [zto hcb,loS_snoc]
     refine zq ?_
     refine zb fun K hK=>?_;simp only [go_sem,hkn];refine hK _ ?_;clear hK K;refine zw (zk [0,1,2,9,10,11,12]) ?_;simp only [go_sem]
     refine zq ?_
     refine zc rfl (fun hc=>?_) (fun hc=>?_) <;> (try simp only [go_sem] at hc)
     refine zx ?_
     try simp only [go_sem]
     refine zq ?_
     refine zd ?_
     refine zq ?_
     refine zb fun K hK=>?_;simp only [go_sem,hcb,hkn,bedR,List.length_map];refine hK _ ?_;clear hK K;refine zw (zfP 8 8 [i64 c.b,i64 c.lo,i64 c.hi] (by omega) rfl rfl) ?_;refine zw (zk [0,1,2,7,8,9,10,11]) ?_;simp only [go_sem]
     by_cases hki : k = i
     · subst hki
       have hcbi : c = bi:=by rw [hcb] at hbi;injection hbi
       have hnx : denA beds k d (k + 1) = denA beds k d k:=by
        unfold denA
        rw [hlo,hgi,if_pos (by omega),if_neg (by omega),hcbi];omega
       rw [hnx]
       refine zq ?_
       refine zb fun K hK=>?_;simp only [go_sem,bne_self_eq_false];refine hK _ ?_;clear hK K;refine zw (zk [0,1,2,9,10,11,18]) ?_;simp only [go_sem]
       refine zc rfl (fun hc=>?_) (fun hc=>?_) <;> (try simp only [go_sem] at hc)
       refine zx ?_
       try simp only [go_sem]
       refine zb fun K hK=>?_;simp only [go_sem];(try simp (disch:=omega) only [zI]);refine hK _ ?_;clear hK K
       try simp only [go_sem]
       refine ⟨by omega,zfo [] ?_ ?_⟩
       · try simp only [go_sem]
       · try simp only [go_sem]
     · have hne : ((k : Int) != (i : Int)) = true:=by rw [bne_iff_ne];omega
       have hne' : (k != i) = true:=by simpa using hki
       have hnx : denA beds i d (k + 1) = denA beds i d k - c.lo:=by
        unfold denA
        rw [hlo]
        by_cases h : i < k
        · rw [if_pos (by omega),if_pos h];omega
        · rw [if_neg (by omega),if_neg h];omega
       rw [hnx] at hb1 ⊢
       generalize denA beds i d k = Z at *
       have wz : IntKind.i64.wrap (Z - c.lo) = Z - c.lo:=by rw [zI] <;> omega
       refine zq ?_
       refine zb fun K hK=>?_;simp only [go_sem,hne,hne'];refine hK _ ?_;clear hK K;refine zw (zk [0,1,2,8,9,10,11,18]) ?_;simp only [go_sem]
       refine zc rfl (fun hc=>?_) (fun hc=>?_) <;> (try simp only [go_sem] at hc)
       refine zb fun K hK=>?_;simp only [go_sem,wz];refine hK _ ?_;clear hK K;refine zw (zk [0,1,2,9,10,11]) ?_;simp only [go_sem];refine zb fun K hK=>?_;simp only [go_sem];(try simp (disch:=omega) only [zI]);refine hK _ ?_;clear hK K
       try simp only [go_sem]
       refine ⟨by omega,zfo [] ?_ ?_⟩
       · try simp only [go_sem]
       · try simp only [go_sem]
   · have hke : k = beds.length:=by omega
     subst hke
     have hfin : denA beds i d beds.length = d - (loS beds - bi.lo):=by unfold denA;rw [List.take_length,if_pos hi,hgi]
     rw [hfin]
     have hcan : canA beds i d = min (d - (loS beds - bi.lo)) bi.hi:=by unfold canA;rw [hgi]
     rw [hcan]
     refine zq ?_
     refine zb fun K hK=>?_;simp only [go_sem,Nat.lt_irrefl];refine hK _ ?_;clear hK K;refine zw (zk [0,1,2,12]) ?_;simp only [go_sem]
     refine zq ?_
     refine zc rfl (fun hc=>?_) (fun hc=>?_) <;> (try simp only [go_sem] at hc)
     refine zf ?_;simp only [go_sem]
     refine zq ?_
     refine zb fun K hK=>?_;simp only [go_sem,hbi,hi,bedR,List.length_map];refine hK _ ?_;clear hK K;refine zw (zk [6]) ?_;simp only [go_sem];refine ze ?_;simp only [go_sem]
def cmpS (s : Bool) (vals : List Int) (x y : Nat) : Int:=if s then cmpI (vals.getD x 0) (vals.getD y 0) else cmpI (vals.getD y 0) (vals.getD x 0)
theorem cmpS_ok (s : Bool) (vals : List Int) (x y : Nat) (hx : x < vals.length) (hy : y < vals.length) : ACalls Tryz.prog 186 [i64 (x : Int),i64 (y : Int),.rp [.bo s],.rp [ints vals]] (i64 (cmpS s vals x y)):=by
 obtain ⟨a,ha⟩:=zol hx
 obtain ⟨b,hb⟩:=zol hy
 have ga : vals.getD x 0 = a:=by rw [List.getD_eq_getElem?_getD,ha];rfl
 have gb : vals.getD y 0 = b:=by rw [List.getD_eq_getElem?_getD,hb];rfl
 have h1:=compare_ok a b
 have h2:=compare_ok b a
 unfold cmpS
 rw [ga,gb]
 refine zas (rs:=[i64 (if s = true then cmpI a b else cmpI b a)]) [.tmp 6] Tryz.func186 rfl (by kernel_rfl) Tryz.ntmps186 rfl (by simp) rfl fun C vs=>?_
 refine zq ?_
 refine zb fun K hK=>?_;simp only [go_sem];refine hK _ ?_;clear hK K;refine zw (zk [0,1,2,3]) ?_;simp only [go_sem]
 repeat refine zq ?_
 refine zb fun K hK=>?_;simp only [go_sem];refine hK _ ?_;clear hK K;refine zw (zk [0,1,3,8]) ?_;simp only [go_sem]
 cases s
 · skip
   refine zc rfl (fun hc=>?_) (fun hc=>?_) <;> (try simp only [go_sem] at hc)
   refine zx ?_
   try simp only [go_sem]
   refine zq ?_
   refine zg follows (by decide +kernel) (by kernel_rfl) fun K hK=>?_;simp only [go_sem,ha,hb,hx,hy,List.length_map]
   refine zh (h2) rfl (by simp only [go_sem,i64,ints,ha,hb,hx,hy,List.length_map]) (by simp only [go_sem,i64,ints,ha,hb,hx,hy,List.length_map]) (by first | exact .inl rfl | exact .inr rfl) ?_
   (try simp only [go_sem,ha,hb,hx,hy,List.length_map]);refine hK _ ?_;clear hK K;refine zw (zk [6]) ?_;simp only [go_sem];refine ze ?_;simp only [go_sem]
   try rfl
 · have hss:=(rfl : true = true)
   refine zc rfl (fun hc=>?_) (fun hc=>?_) <;> (try simp only [go_sem] at hc)
   rotate_left
   · exact absurd rfl hc
   refine zq ?_
   refine zg follows (by decide +kernel) (by kernel_rfl) fun K hK=>?_;simp only [go_sem,ha,hb,hx,hy,List.length_map]
   refine zh (h1) rfl (by simp only [go_sem,i64,ints,ha,hb,hx,hy,List.length_map]) (by simp only [go_sem,i64,ints,ha,hb,hx,hy,List.length_map]) (by first | exact .inl rfl | exact .inr rfl) ?_
   (try simp only [go_sem,ha,hb,hx,hy,List.length_map]);refine hK _ ?_;clear hK K;refine zw (zk [6]) ?_;simp only [go_sem];refine ze ?_;simp only [go_sem]
   try rfl
end Go.Proofs.YtgfbenanljjgaaaGreat.Du.Th.Ai

namespace Go.Oc
open Go Go.RowKit
def unl (listed : Array Bool) : Nat → Nat
 | 0=>0
 | m + 1=>unl listed m + if listed.getD m true then 0 else 1
theorem getD_setT {listed : Array Bool} {i j : Nat} : (listed.setIfInBounds i true).getD j true = if j = i then true else listed.getD j true:=by
 split
 · rename_i e
   subst e
   simp only [Array.getD_eq_getD_getElem?,Array.getElem?_setIfInBounds]
   split
   · split <;> simp_all
   · simp_all
 · rename_i e
   simp only [Array.getD_eq_getD_getElem?,Array.getElem?_setIfInBounds];rw [if_neg (fun h=>e h.symm)]
theorem unl_same {listed : Array Bool} {i : Nat} : ∀ m,m ≤ i → unl (listed.setIfInBounds i true) m = unl listed m
 | 0,_=>rfl
 | m + 1, h => by
   have e2 : m ≠ i:=by omega
   have e3:=unl_same (listed:=listed) (i:=i) m (by omega)
   simp only [unl,getD_setT,e3,if_neg e2]
theorem unl_set {listed : Array Bool} {i : Nat} (hi : listed.getD i true = false) : ∀ m,i < m → unl (listed.setIfInBounds i true) m + 1 = unl listed m
 | 0,h=>by omega
 | m + 1, h => by
   simp only [unl,getD_setT]
   by_cases e : i = m
   · subst e
     rw [unl_same _ (Nat.le_refl _)]
     simp [hi]
   · have:=unl_set hi m (by omega)
     have e2 : m ≠ i:=fun h=>e h.symm
     rw [if_neg e2]
     omega
theorem unl_zero {listed : Array Bool} : ∀ m,unl listed m = 0 → ∀ j,j < m → listed.getD j true = true
 | 0,_,j,h=>by omega
 | m + 1, h, j, hj => by
   simp only [unl] at h
   by_cases e : j = m
   · subst e
     by_cases hx : listed.getD j true = true
     · exact hx
     · simp [hx] at h
   · exact unl_zero m (by omega) j (by omega)
def stepAll (P : Program) (ops : Array Oper) (n : Nat) (F : (Nat → Bool) → (Nat → Nat) → List (Nat × AV)) (R : (Nat → Bool) → (Nat → Nat) → List (Nat × RowC)) : Nat → List Oper → Prop
 | _,[]=>True
 | k,o :: rest=>(∀ b vs,(∀ j e,j < ops.size → (deps ops j).contains e = true → b j = true → b e = true) → b k = false → (∀ e ∈ deps ops k,b e = true) →
  xop P false o (FitV n (F (upd b k true)) (R (upd b k true))) (st n (F b vs) vs (R b vs))) ∧ stepAll P ops n F R (k + 1) rest
theorem stepAll_get {P : Program} {ops : Array Oper} {n : Nat} {F : (Nat → Bool) → (Nat → Nat) → List (Nat × AV)} {R : (Nat → Bool) → (Nat → Nat) → List (Nat × RowC)} : ∀ {l : List Oper} {k i : Nat} {o : Oper},stepAll P ops n F R k l → l[i]? = some o →
 ∀ b vs, (∀ j e, j < ops.size → (deps ops j).contains e = true → b j = true → b e = true) → b (k + i) = false → (∀ e ∈ deps ops (k + i), b e = true) →
   xop P false o (FitV n (F (upd b (k + i) true)) (R (upd b (k + i) true))) (st n (F b vs) vs (R b vs))
 | [],_,_,_,_,h=>by simp at h
 | x :: l, k, 0, o, hs, h => by
   simp only [List.getElem?_cons_zero,Option.some.injEq] at h
   subst h
   exact hs.1
 | x :: l, k, i + 1, o, hs, h => by
   have:=stepAll_get (k:=k + 1) (i:=i) hs.2 (by simpa using h)
   rwa [show k + 1 + i = k + (i + 1) by omega] at this
def upOk (ops : Array Oper) : Bool:=(List.range ops.size).all fun j=>(deps ops j).all fun e=>decide (e < j)
section
variable {P : Program} {C : Ctx} {s : AS} {a : Act} {w : World} {ops : Array Oper}
theorem ready_nil {listed : Array Bool} (hu : upOk ops = true) (h : Region.ready .any ops listed = []) (hsz : listed.size = ops.size) : ∀ j,j < ops.size → listed.getD j true = true:=by
 intro j
 induction j using Nat.strongRecOn with
 | _ j ih =>
   intro hj
   by_cases hx : listed.getD j true = true
   · exact hx
   · exfalso
     have ho : ops[j]? = some ops[j]:=Array.getElem?_eq_getElem hj
     have hr : j ∈ Region.ready .any ops listed:=by
      refine mem_ready.2 ⟨by simpa using hx,ops[j],ho,fun e he hb=>?_⟩
      have hm : e.on ∈ deps ops j:=by unfold deps;rw [ho];exact List.mem_map.2 ⟨e,List.mem_filter.2 ⟨by simpa using he,hb⟩,rfl⟩
      have hlt:=List.all_eq_true.1 (List.all_eq_true.1 hu j (by simpa using hj)) e.on hm
      simp only [decide_eq_true_eq] at hlt
      have:=ih e.on hlt (by omega)
      have h2 : e.on < listed.size:=by omega
      simpa [h2] using this
     rw [h] at hr
     cases hr
theorem inv_any {Q : AS → Prop} {Q' : Exit → Act → World → Prop} (hQ : ∀ s a w,Q s → SRel C s a w → Q' .normal a w) {n : Nat} {F : (Nat → Bool) → (Nat → Nat) → List (Nat × AV)} {R : (Nat → Bool) → (Nat → Nat) → List (Nat × RowC)}
 (hd : dstOk ops n = true) (hg : ops.all (fun o=>o.guard.isNone) = true) (hu : upOk ops = true) (hstep : stepAll P ops n F R 0 ops.toList)
 (hend : ∀ b vs,(∀ j,b j = true) → Q (st n (F b vs) vs (R b vs))) :
 ∀ (fuel : Nat) (vs : Nat → Nat) (listed : Array Bool) (a : Act) (w : World), listed.size = ops.size → down ops listed → unl listed ops.size ≤ fuel → SRel C (st n (F (fun j => listed.getD j true) vs) vs (R (fun j => listed.getD j true) vs)) a w →
   wpAnyIn (fnc C.rd) 0 P .any ops Q' fuel listed a w:=by
 have all : ∀ {listed : Array Bool},listed.size = ops.size → (∀ j,j < ops.size → listed.getD j true = true) → ∀ j,(fun j=>listed.getD j true) j = true:=fun {listed} hsz h j=>by
  by_cases hj : j < ops.size
  · exact h j hj
  · show listed.getD j true = true
    have : ¬ j < listed.size:=by omega
    simp [this]
 intro fuel
 induction fuel with
 | zero =>
   intro vs listed a w hsz hdn hf hs
   have h0:=unl_zero (listed:=listed) ops.size (by omega)
   refine ⟨List.eq_nil_iff_forall_not_mem.2 fun j hj=>?_,hQ _ _ _ (hend _ _ (all hsz h0)) hs⟩
   obtain ⟨h1,o,ho,_⟩:=mem_ready.1 hj
   have:=h0 j (Array.getElem?_eq_some_iff.1 ho).1
   rw [this] at h1
   cases h1
 | succ fuel ih =>
   intro vs listed a w hsz hdn hf hs
   refine ⟨fun h0=>hQ _ _ _ (hend _ _ (all hsz (ready_nil hu h0 hsz))) hs,fun i hi=>?_⟩
   obtain ⟨hi1,o,ho,hall⟩:=mem_ready.1 hi
   unfold wpOpIn
   rw [ho]
   simp only
   have hil : i < ops.size:=(Array.getElem?_eq_some_iff.1 ho).1
   have hgo : o.guard = none:=by
    have:=Array.all_eq_true_iff_forall_mem.1 hg o (Array.mem_of_getElem? ho)
    simpa using this
   obtain ⟨p,hp⟩:=hs
   rw [if_pos (wantA_sound hp (by simp [wantA,hgo]))]
   have hx:=stepAll_get (k:=0) (i:=i) hstep (by rw [Array.getElem?_toList];exact ho) (fun j=>listed.getD j true) vs (fun j e hj he hb=>?_) (by rw [Nat.zero_add];exact hi1) (fun e he=>?_)
   · rw [Nat.zero_add] at hx
     refine xop_sound hp hx (dstOk_get hd ho) (fun a' w' p' s' hs' hn hK=>?_) (dstOk_nd hd ho)
     obtain ⟨vs',hsub⟩:=hK
     have e : upd (fun j=>listed.getD j true) i true = fun j=>(listed.setIfInBounds i true).getD j true:=by
      funext j
      rw [getD_setT]
      rfl
     rw [e] at hsub
     exact ih vs' _ a' w' (by simpa using hsz) (down_set hdn hi) (by have:=unl_set hi1 ops.size hil;omega) (hsub C a' w' ⟨p',hs'⟩)
   · have hjs : j < listed.size:=by omega
     have hb' : listed.getD j true = true:=hb
     have h2:=hdn j (by simpa [hjs] using hb') e (by simpa using he)
     show listed.getD e true = true
     by_cases hes : e < listed.size
     · simpa [hes] using h2
     · simp [hes]
   · have h2:=ready_deps hi e (by simpa using he)
     show listed.getD e true = true
     by_cases hes : e < listed.size
     · simpa [hes] using h2
     · simp [hes]
end
theorem awp_inv {P : Program} {C : Ctx} {id : Nat} {l : List Oper} {n : Nat} {Q : Exit → AS → Prop} {s : AS} (F : (Nat → Bool) → (Nat → Nat) → List (Nat × AV)) (R : (Nat → Bool) → (Nat → Nat) → List (Nat × RowC)) (hm : P.follows .mixedOrders = true)
 (hd : dstOk l.toArray n = true) (hg : l.toArray.all (fun o=>o.guard.isNone) = true) (hu : upOk l.toArray = true) (h0 : FitV n (F fun j=>decide (l.length ≤ j)) (R fun j=>decide (l.length ≤ j)) s)
 (hstep : stepAll P l.toArray n F R 0 l) (hend : ∀ b vs,(∀ j,b j = true) → Q .normal (st n (F b vs) vs (R b vs))) : awp P C (.region id l.toArray true) Q s:=fun a w hs=>by
 obtain ⟨vs,hsub⟩:=h0
 obtain ⟨p,hp⟩:=hsub C a w hs
 have hs' : SR C p _ a { w with drawn:=w.drawn + 1 }:=hp.below (w':=w.drew) ((Below.refl _ _).drew) (fun _ h=>h) (fun _ h=>.inl h) hp.rb
 refine wpIn_region_any hm ?_
 have e : (fun j=>(Array.replicate l.toArray.size false).getD j true) = fun j=>decide (l.length ≤ j):=by
  funext j
  by_cases h : j < l.length
  · have : ¬ l.length ≤ j:=by omega
    simp [h,this]
  · have : l.length ≤ j:=by omega
    simp [h,this]
 refine inv_any (Q:=fun s=>Q .normal s) (n:=n) (F:=F) (R:=R) (fun s a w hq hs=>⟨s,hs,hq⟩) hd hg hu (by simpa using hstep) hend _ vs _ _ _ (by simp) (fun j hj=>?_) ?_ ?_
 · exfalso
   simp only [Array.getD_eq_getD_getElem?,Array.getElem?_replicate] at hj
   split at hj <;> simp at hj
 · have : ∀ m,unl (Array.replicate l.toArray.size false) m ≤ m:=by
    intro m
    induction m with
    | zero=>exact Nat.le_refl _
    | succ m ih=>simp only [unl];split <;> omega
   exact this _
 · rw [e]
   exact ⟨p,hs'⟩
def allB (b : Nat → Bool) (v : Bool) : List Nat → Prop
 | []=>True
 | e :: es=>b e = v ∧ allB b v es
def chU (ops : Array Oper) (n : Nat) : List Nat → List Nat → Bool
 | _,[]=>true
 | seen,e :: es=>((deps ops n).contains e || seen.any fun j=>decide (j < ops.size) && (deps ops j).contains e) && chU ops n (e :: seen) es
def chD (ops : Array Oper) (n : Nat) : List Nat → List Nat → Bool
 | _,[]=>true
 | seen,e :: es=>(decide (e < ops.size) && ((deps ops e).contains n || seen.any fun j=>(deps ops e).contains j)) && chD ops n (e :: seen) es
theorem upT0 {ops : Array Oper} {b : Nat → Bool} {n : Nat} (hdn : ∀ j e,j < ops.size → (deps ops j).contains e = true → b j = true → b e = true) (hde : ∀ e ∈ deps ops n,b e = true) : ∀ (es seen : List Nat),(∀ j ∈ seen,b j = true) → chU ops n seen es = true → allB b true es
 | [],_,_,_=>trivial
 | e :: es, seen, hs, h => by
   simp only [chU,Bool.and_eq_true,Bool.or_eq_true,List.any_eq_true,decide_eq_true_eq] at h
   have he : b e = true:=by
    rcases h.1 with h1 | ⟨j,hj,h1,h2⟩
    · exact hde e (by simpa using h1)
    · exact hdn j e h1 h2 (hs j hj)
   refine ⟨he,upT0 hdn hde es (e :: seen) (fun j hj=>?_) h.2⟩
   rcases List.mem_cons.1 hj with rfl | hj
   · exact he
   · exact hs j hj
theorem upT {ops : Array Oper} {b : Nat → Bool} {n : Nat} (hdn : ∀ j e,j < ops.size → (deps ops j).contains e = true → b j = true → b e = true) (hde : ∀ e ∈ deps ops n,b e = true) (es : List Nat) (h : chU ops n [] es = true) : allB b true es:=upT0 hdn hde es [] (by simp) h
theorem dnT0 {ops : Array Oper} {b : Nat → Bool} {n : Nat} (hdn : ∀ j e,j < ops.size → (deps ops j).contains e = true → b j = true → b e = true) (hbk : b n = false) : ∀ (es seen : List Nat),(∀ j ∈ seen,b j = false) → chD ops n seen es = true → allB b false es
 | [],_,_,_=>trivial
 | e :: es, seen, hs, h => by
   simp only [chD,Bool.and_eq_true,Bool.or_eq_true,List.any_eq_true,decide_eq_true_eq] at h
   have he : b e = false:=by
    cases hb : b e
    · rfl
    · rcases h.1.2 with h1 | ⟨j,hj,h2⟩
      · rw [hdn e n h.1.1 h1 hb] at hbk;cases hbk
      · have:=hs j hj
        rw [hdn e j h.1.1 h2 hb] at this;cases this
   refine ⟨he,dnT0 hdn hbk es (e :: seen) (fun j hj=>?_) h.2⟩
   rcases List.mem_cons.1 hj with rfl | hj
   · exact he
   · exact hs j hj
theorem dnT {ops : Array Oper} {b : Nat → Bool} {n : Nat} (hdn : ∀ j e,j < ops.size → (deps ops j).contains e = true → b j = true → b e = true) (hbk : b n = false) (es : List Nat) (h : chD ops n [] es = true) : allB b false es:=dnT0 hdn hbk es [] (by simp) h
end Go.Oc
