/- Part 11 of the texts of this claim. -/
import Derived.Test.YtgfbenanljjgaaaGreatVC10
import Derived.Test.YtgfbenanljjgaaaGreatVC9
import Derived.Test.YtgfbenanljjgaaaGreatVC6
import Derived.Test.YtgfbenanljjgaaaGreatVC7
set_option linter.unusedSimpArgs false
set_option linter.unusedVariables false
namespace Go.Proofs.YtgfbenanljjgaaaGreat.Du
open Go Go.Oc
set_option maxRecDepth 8000
abbrev bAt (l : List Bd) (i : Nat) : Bd:=l.getD i ⟨0,0,0⟩
def dotF (l : List Bd) (x : Nat → Int) : Int:=((List.range l.length).map fun i=>x i * (bAt l i).b).sum
structure TruthN (den : Int) (l : List Bd) (x : Nat → Int) : Prop where
 each : ∀ i,i < l.length → (bAt l i).lo ≤ x i ∧ x i ≤ (bAt l i).hi
 sum : ((List.range l.length).map x).sum = den
theorem range_bAt (l : List Bd) : (List.range l.length).map (bAt l) = l:=by
 refine List.ext_getElem (by simp) fun i h1 h2=>?_
 simp [bAt,List.getD,List.getElem?_eq_getElem h2]
theorem sum_bAt (l : List Bd) (F : Bd → Int) : ((List.range l.length).map fun i=>F (bAt l i)).sum = (l.map F).sum:=by
 conv=>rhs;rw [← range_bAt l]
 rw [List.map_map];rfl
theorem sum_add {f g : Nat → Int} : ∀ I : List Nat,(I.map fun i=>f i + g i).sum = (I.map f).sum + (I.map g).sum
 | []=>by simp
 | i :: I=>by simp only [List.map_cons,List.sum_cons,sum_add I];omega
theorem sum_sub {f g : Nat → Int} : ∀ I : List Nat,(I.map fun i=>f i - g i).sum = (I.map f).sum - (I.map g).sum
 | []=>by simp
 | i :: I=>by simp only [List.map_cons,List.sum_cons,sum_sub I];omega
theorem bAt_mem {l : List Bd} {i : Nat} (h : i < l.length) : bAt l i ∈ l:=by
 unfold bAt
 rw [List.getD_eq_getElem?_getD,List.getElem?_eq_getElem h];exact List.getElem_mem h
theorem mean_opt {most : Bool} {den : Int} {l : List Bd} (h : ChG den l) (hh : den ≤ hiS l) : ∃ x,TruthN den l x ∧ meanD most den l = overD most (dotF l x) den ∧ ∀ y,TruthN den l y → leD most (dotF l x) (dotF l y):=by
 obtain ⟨I,p,n,w,e⟩:=mean_idx (most:=most) h hh
 have hI : ∀ i ∈ I,i < l.length:=fun i hi=>List.mem_range.1 (p.mem_iff.1 hi)
 have hlow:=h.low
 have hm0 : ∀ i ∈ I,0 ≤ (bAt l i).hi - (bAt l i).lo:=fun i hi=>by
  have:=(h.each _ (bAt_mem (hI i hi))).2
  omega
 have hsm : (I.map fun i=>(bAt l i).hi - (bAt l i).lo).sum = hiS l - loS l:=by
  rw [perm_sum (f:=fun i=>(bAt l i).hi - (bAt l i).lo) p,sum_sub]
  rw [sum_bAt l (·.hi),sum_bAt l (·.lo)];rfl
 have hlo : loS l = (I.map fun i=>(bAt l i).lo).sum:=by
  rw [perm_sum (f:=fun i=>(bAt l i).lo) p,sum_bAt l (·.lo)];rfl
 have hlv : loV l = (I.map fun i=>(bAt l i).lo * (bAt l i).b).sum:=by
  rw [perm_sum (f:=fun i=>(bAt l i).lo * (bAt l i).b) p,sum_bAt l fun c=>c.lo * c.b];rfl
 have hdot : ∀ x,dotF l x = (I.map fun i=>x i * (bAt l i).b).sum:=fun x=>(perm_sum (f:=fun i=>x i * (bAt l i).b) p).symm
 have hsum : ∀ x : Nat → Int,((List.range l.length).map x).sum = (I.map x).sum:=fun x=>(perm_sum (f:=x) p).symm
 obtain ⟨x,x1,x2,x3⟩:=greedy_amt (m:=fun i=>(bAt l i).hi - (bAt l i).lo) (v:=fun i=>(bAt l i).b) (I:=I) (left:=den - loS l) (s:=loV l) n hm0 (by omega) (by omega)
 have hd : dotF l (fun i=>(bAt l i).lo + x i) = loV l + (I.map fun i=>x i * (bAt l i).b).sum:=by
  rw [hdot,hlv,← sum_add]
  congr 1
  exact List.map_congr_left fun i _=>by rw [Int.add_mul]
 refine ⟨fun i=>(bAt l i).lo + x i,⟨fun i hi=>?_,?_⟩,?_,fun y hy=>?_⟩
 · have:=x1 i (p.mem_iff.2 (List.mem_range.2 hi))
   omega
 · rw [hsum,sum_add,x2,← hlo];omega
 · rw [e,hd,x3]
 · have hfe : ∀ i ∈ I,0 ≤ y i - (bAt l i).lo ∧ y i - (bAt l i).lo ≤ (bAt l i).hi - (bAt l i).lo:=fun i hi=>by
    have:=hy.each i (hI i hi)
    omega
   have hys : (I.map fun i=>y i - (bAt l i).lo).sum = den - loS l:=by
    rw [sum_sub,← hsum y,hy.sum,← hlo]
   have hyd : dotF l y = loV l + (I.map fun i=>(y i - (bAt l i).lo) * (bAt l i).b).sum:=by
    rw [hdot,hlv,← sum_add]
    congr 1
    exact List.map_congr_left fun i _=>by rw [Int.sub_mul];omega
   rw [hd,hyd]
   have hf:=feas_map (m:=fun i=>(bAt l i).hi - (bAt l i).lo) (v:=fun i=>(bAt l i).b) (x:=fun i=>y i - (bAt l i).lo) hfe
   have hdm:=dot_map (m:=fun i=>(bAt l i).hi - (bAt l i).lo) (v:=fun i=>(bAt l i).b) (x:=fun i=>y i - (bAt l i).lo) I
   cases most with
   | false =>
     have:=fill_min hf (den - loS l) (loV l) (List.pairwise_map.2 (w.imp fun h=>by simpa [leD] using h)) hys
     rw [hdm,x3] at this
     simp only [leD,Bool.false_eq_true,if_false]
     omega
   | true =>
     have:=fill_max hf (den - loS l) (loV l) (List.pairwise_map.2 (w.imp fun h=>by simpa [leD] using h)) hys
     rw [hdm,x3] at this
     simp only [leD,if_true]
     omega
theorem bAt_chW (f : Int → Int) (l : List Bd) {i : Nat} (hi : i < l.length) : bAt (chW f l) i = ⟨f (bAt l i).b,(bAt l i).lo,(bAt l i).hi⟩:=by simp [chW,bAt,List.getD,List.getElem?_eq_getElem hi]
theorem chW_len (f : Int → Int) (l : List Bd) : (chW f l).length = l.length:=by simp [chW]
theorem dotF_chW (f : Int → Int) (l : List Bd) (x : Nat → Int) : dotF (chW f l) x = ((List.range l.length).map fun i=>x i * f (bAt l i).b).sum:=by
 unfold dotF
 rw [chW_len]
 congr 1
 exact List.map_congr_left fun i hi=>by rw [bAt_chW f l (List.mem_range.1 hi)]
theorem TruthN.chW {den : Int} {l : List Bd} {x : Nat → Int} {f g : Int → Int} (h : TruthN den (chW f l) x) : TruthN den (chW g l) x:=by
 refine ⟨fun i hi=>?_,?_⟩
 · rw [chW_len] at hi
   have:=h.each i (by rw [chW_len];exact hi)
   rw [bAt_chW f l hi] at this
   rw [bAt_chW g l hi]
   exact this
 · have:=h.sum
   rw [chW_len] at this ⊢
   exact this
theorem lowest_eq {r1 r2 : Ru} (h : r1.out = r2.out) : lowestR r1 = lowestR r2:=by unfold lowestR;rw [h]
structure LeR (r1 r2 : Ru) (m : Bool) : Prop where
 start : r1.start = r2.start
 out : r1.out = r2.out
 n : r1.ends.length = r2.ends.length
 aims : ∀ a1 ∈ r1.aims,∃ a2 ∈ r2.aims,∀ f g : Int → Int,(∀ b,0 ≤ b → b ≤ 499 → 0 ≤ f b ∧ f b ≤ 1000000) → (∀ b,0 ≤ b → b ≤ 499 → 0 ≤ g b ∧ g b ≤ 1000000) → (∀ b,0 ≤ b → b ≤ 499 → f b ≤ g b) → meanD m r1.d (chW f a1.beds) ≤ meanD m r2.d (chW g a2.beds)
 ends : ∀ k,k < r1.ends.length → endsD m (r2.ends.getD k (0,0)) ≤ endsD m (r1.ends.getD k (0,0))
theorem LeR.means {r1 r2 : Ru} {m : Bool} (h : LeR r1 r2 m) (hne : r1.aims ≠ []) {f g : Int → Int} (hf : ∀ b,0 ≤ b → b ≤ 499 → 0 ≤ f b ∧ f b ≤ 1000000) (hg : ∀ b,0 ≤ b → b ≤ 499 → 0 ≤ g b ∧ g b ≤ 1000000) (hfg : ∀ b,0 ≤ b → b ≤ 499 → f b ≤ g b) :
 maxL (meansV r1 m f) ≤ maxL (meansV r2 m g):=by
 obtain ⟨a,ha,e⟩:=List.mem_map.1 (maxL_mem (l:=meansV r1 m f) (by simpa [meansV] using hne))
 obtain ⟨a2,h2,h3⟩:=h.aims a ha
 rw [← e]
 exact Int.le_trans (h3 f g hf hg hfg) (le_maxL (List.mem_map.2 ⟨a2,h2,rfl⟩))
theorem LeR.after {r1 r2 : Ru} {m : Bool} (h : LeR r1 r2 m) (he : ∀ x ∈ r1.ends,endOk x = true) {T T' : List (List Int)} {k y : Nat} (hk : k < r1.ends.length)
 (hT : k + 1 < r1.ends.length → 0 ≤ (T.getD (k + 1) []).getD y 0 ∧ (T.getD (k + 1) []).getD y 0 ≤ (T'.getD (k + 1) []).getD y 0) : afterD r1 m T k y ≤ afterD r2 m T' k y:=by
 unfold afterD
 rw [← h.n]
 split
 · omega
 · rename_i hn
   obtain ⟨h0,h1⟩:=hT (by omega)
   have hm : r1.ends.getD k (0,0) ∈ r1.ends:=by
    rw [List.getD_eq_getElem?_getD,List.getElem?_eq_getElem hk];exact List.getElem_mem _
   obtain ⟨g1,g2,g3⟩:=endOk_le (he _ hm)
   have hd:=h.ends k hk
   refine overD_mono (fun h=>h) (by omega) ?_
   have h3 : 0 ≤ 1000000 - endsD m (r1.ends.getD k (0,0)):=by unfold endsD;split <;> omega
   exact Int.mul_le_mul h1 (by omega) h3 (by omega)
theorem next_le2 {r1 r2 : Ru} {m : Bool} {T T' : List (List Int)} {k st left : Nat} {val val' : Nat → Int} {last : Bool} {b : Int} (ho : r1.out = r2.out) (b0 : 0 ≤ b) (b1 : b ≤ 499) (hst : (st : Int) ≤ r1.start) (hl : (left : Int) ≤ r1.start)
 (hA : ∀ y : Nat,(y : Int) ≤ r1.start → afterD r1 m T k y ≤ afterD r2 m T' k y) (hv : last = false → ∀ y : Nat,(y : Int) ≤ r1.start → val y ≤ val' y) :
 nextV r1 m T k st val last left b ≤ nextV r2 m T' k st val' last left b:=by
 obtain ⟨s0,s1⟩:=score_le b0 b1
 unfold nextV
 rw [lowest_eq ho,ho]
 split
 · omega
 · split
   · exact hA st hst
   · split
     · exact hA _ (by omega)
     · rename_i hn
       exact hv (by simpa using hn) _ (by omega)
theorem LeR.val {r1 r2 : Ru} {m : Bool} (hL : LeR r1 r2 m) (hA : AimsG r1) (hA2 : AimsG r2) {T T' : List (List Int)} {k st : Nat} (h : VisG r1 T k st) (h' : VisG r2 T' k st) (hT : RowLe r1 T T' k) :
 ∀ n left : Nat,(left : Int) ≤ r1.start → valV r1 m T k st n left ≤ valV r2 m T' k st n left
 | 0,_,_=>by simp only [valV];omega
 | n + 1, left, hl => by
   simp only [valV]
   have hl2 : (left : Int) ≤ r2.start:=by rw [← hL.start];exact hl
   exact hL.means hA.ne (fun b b0 b1=>nextV_le h hl b0 b1 fun _ x hx=>valV_le h hA n x hx) (fun b b0 b1=>nextV_le h' hl2 b0 b1 fun _ x hx=>valV_le h' hA2 n x hx)
    fun b b0 b1=>next_le2 hL.out b0 b1 h.st40 hl (fun y hy=>hL.after h.ends h.kk fun hk=>⟨h.row0 hy hk,hT hk y hy⟩) fun _ y hy=>hL.val hA hA2 h h' hT n y hy
theorem LeR.tab {r1 r2 : Ru} {m : Bool} (hL : LeR r1 r2 m) (h1 : RuG r1) (h2 : RuG r2) : ∀ i,i ≤ r1.ends.length → ∀ j y : Nat,(y : Int) ≤ r1.start → ((tabI r1 m i).getD j []).getD y 0 ≤ ((tabI r2 m i).getD j []).getD y 0
 | 0,_,j,y,_=>by simp only [tabI,hL.n];omega
 | i + 1, hi, j, y, hy => by
   have ih:=hL.tab h1 h2 i (by omega)
   have hy2 : (y : Int) ≤ r2.start:=by rw [← hL.start];exact hy
   have hn:=hL.n
   simp only [tabI];rw [← hn]
   by_cases e : j = r1.ends.length - 1 - i
   · subst e
     have g0 : ((tabI r1 m i).set (r1.ends.length - 1 - i) (rowV r1 m (tabI r1 m i) (r1.ends.length - 1 - i))).getD (r1.ends.length - 1 - i) [] = rowV r1 m (tabI r1 m i) (r1.ends.length - 1 - i):=by
      rw [List.getD_eq_getElem?_getD,List.getElem?_set_self (by rw [tabI_len];omega)];rfl
     have g1 : ((tabI r2 m i).set (r1.ends.length - 1 - i) (rowV r2 m (tabI r2 m i) (r1.ends.length - 1 - i))).getD (r1.ends.length - 1 - i) [] = rowV r2 m (tabI r2 m i) (r1.ends.length - 1 - i):=by
      rw [List.getD_eq_getElem?_getD,List.getElem?_set_self (by rw [tabI_len];omega)];rfl
     rw [g0,g1,rowV_getD _ _ _ _ _ hy,rowV_getD _ _ _ _ _ hy2,lowest_eq hL.out]
     split
     · omega
     · have v2:=vis_at h2 m i (by omega) y hy2
       rw [← hn] at v2
       exact hL.val h1.aims h2.aims (vis_at h1 m i (by omega) y hy) v2 (fun _ z hz=>ih _ z hz) 3 y hy
   · have g0 : ∀ (A : List (List Int)) (x : List Int),(A.set (r1.ends.length - 1 - i) x).getD j [] = A.getD j []:=fun A x=>by
      rw [List.getD_eq_getElem?_getD,List.getD_eq_getElem?_getD,List.getElem?_set_ne (fun h=>e h.symm)]
     rw [g0,g0]
     exact ih j y hy
theorem LeR.tabF {r1 r2 : Ru} {m : Bool} (hL : LeR r1 r2 m) (h1 : RuG r1) (h2 : RuG r2) {j y : Nat} (hy : (y : Int) ≤ r1.start) : ((Go.Proofs.YtgfbenanljjgaaaGreat.Du.tabF r1 m).getD j []).getD y 0 ≤ ((Go.Proofs.YtgfbenanljjgaaaGreat.Du.tabF r2 m).getD j []).getD y 0:=by
 unfold Go.Proofs.YtgfbenanljjgaaaGreat.Du.tabF
 rw [← hL.n]
 exact hL.tab h1 h2 _ (Nat.le_refl _) j y hy
theorem same_means {r : Ru} {m : Bool} (hA : AimsG r) (hH : RefH r) {a : Am} (ha : a ∈ r.aims) {f g : Int → Int} (hf : ∀ b,0 ≤ b → b ≤ 499 → 0 ≤ f b ∧ f b ≤ 1000000) (hg : ∀ b,0 ≤ b → b ≤ 499 → 0 ≤ g b ∧ g b ≤ 1000000) (hfg : ∀ b,0 ≤ b → b ≤ 499 → f b ≤ g b) :
 meanD m r.d (chW f a.beds) ≤ meanD m r.d (chW g a.beds):=means_mono (fun h=>h) hA hH hf hg hfg a ha
structure NarB (l l' : List Bd) : Prop where
 len : l'.length = l.length
 each : ∀ i,i < l.length → (bAt l' i).b = (bAt l i).b ∧ (bAt l i).lo ≤ (bAt l' i).lo ∧ (bAt l' i).hi ≤ (bAt l i).hi
theorem TruthN.wide {den : Int} {l l' : List Bd} {x : Nat → Int} {f g : Int → Int} (hN : NarB l l') (h : TruthN den (Go.Proofs.YtgfbenanljjgaaaGreat.Du.chW f l') x) : TruthN den (Go.Proofs.YtgfbenanljjgaaaGreat.Du.chW g l) x:=by
 refine ⟨fun i hi=>?_,?_⟩
 · rw [chW_len] at hi
   have h1:=h.each i (by rw [chW_len,hN.len];exact hi)
   rw [bAt_chW f l' (by rw [hN.len];exact hi)] at h1
   rw [bAt_chW g l hi]
   have h2:=hN.each i hi
   simp only at h1 ⊢
   omega
 · have:=h.sum
   rw [chW_len,hN.len] at this
   rw [chW_len];exact this
theorem endOk_mk {x : Int × Int} (h : 0 ≤ x.1 ∧ x.1 ≤ x.2 ∧ x.2 ≤ 1000000) : endOk x = true:=by
 simp only [endOk,withinL,List.all_cons,List.all_nil,Bool.and_true,Bool.and_eq_true,decide_eq_true_eq]
 omega
theorem checkV_of {d : Int} {l l' : List Am} (h : checkV d l = 0) (hlen : l'.length ≤ l.length) (hne : l' ≠ []) (hb : ∀ a' ∈ l',∃ a ∈ l,a'.beds.length = a.beds.length) (ha : ∀ a' ∈ l',aimOk d a' = true) : checkV d l' = 0:=by
 unfold checkV at h ⊢
 split at h
 · cases h
 · rename_i h1
   split at h
   · cases h
   · rename_i h2
     rw [Bool.not_eq_true,Bool.or_eq_false_iff,decide_eq_false_iff_not,List.any_eq_false] at h1
     rw [if_neg,if_neg,if_pos]
     · exact List.all_eq_true.2 ha
     · rw [Bool.not_eq_true,Bool.or_eq_false_iff] at h2 ⊢
       refine ⟨?_,h2.2⟩
       cases l' with
       | nil=>exact absurd rfl hne
       | cons=>rfl
     · rw [Bool.not_eq_true,Bool.or_eq_false_iff,decide_eq_false_iff_not,List.any_eq_false]
       refine ⟨by omega,fun a' ha'=>?_⟩
       obtain ⟨a,g1,g2⟩:=hb a' ha'
       rw [g2]
       exact h1.2 a g1
theorem ruE_of {r : Ru} (hc : checkV r.d r.aims = 0) (hs : 2 ≤ r.start ∧ r.start ≤ 40) (ho : 0 ≤ r.out ∧ r.out ≤ 2) (hn : 1 ≤ r.ends.length ∧ r.ends.length ≤ 10) (he : ∀ x ∈ r.ends,endOk x = true) (hl : lastE r = 1000000) : ruE r = 0:=by
 have he':=List.all_eq_true.2 he
 simp [ruE,hc,he',hl,hs,ho,hn]
theorem aims_all {r : Ru} (h : checkV r.d r.aims = 0) : ∀ a ∈ r.aims,aimOk r.d a = true:=by
 unfold checkV at h
 split at h
 · cases h
 · split at h
   · cases h
   · split at h
     · rename_i h3;exact List.all_eq_true.1 h3
     · cases h
theorem seqOk_map : ∀ {l l' : List Bd} {p : Option Int},l'.map (·.b) = l.map (·.b) → seqOk p l' = seqOk p l
 | [],[],_,_=>rfl
 | [],c :: l',_,h=>by simp at h
 | c :: l,[],_,h=>by simp at h
 | c :: l, c' :: l', p, h => by
   simp only [List.map_cons,List.cons.injEq] at h
   unfold seqOk
   rw [h.1,seqOk_map h.2]
theorem aimOk_parts {d : Int} {a : Am} (h : aimOk d a = true) : bedOk a.at_ = true ∧ a.beds ≠ [] ∧ seqOk none a.beds = true ∧ (∀ x ∈ a.beds,0 ≤ x.lo ∧ x.lo ≤ x.hi ∧ x.hi ≤ d) ∧ loS a.beds ≤ d ∧ d ≤ hiS a.beds:=by
 simp only [aimOk,Bool.and_eq_true,decide_eq_true_eq] at h
 obtain ⟨⟨⟨⟨⟨h1,h2⟩,h3⟩,h4⟩,h5⟩,h6⟩:=h
 refine ⟨h1,fun e=>by rw [e] at h2;simp at h2,h3,fun x hx=>?_,h5,h6⟩
 simp only [chOk,List.all_eq_true,Bool.and_eq_true,decide_eq_true_eq] at h4
 have:=h4 x hx
 omega
set_option maxHeartbeats 4000000
theorem tables_ok (A B : List (List Int)) (n st : Nat) (hn : n ≤ 1000) (hs : st ≤ 1000) (h1 : A.length = n ∧ ∀ r ∈ A,r.length = st + 1) (h2 : B.length = n ∧ ∀ r ∈ B,r.length = st + 1) :
 ACalls Tryz.prog 26 [tabR A,tabR B,i64 (n : Int),i64 (st : Int)] (.bo true):=by
 have w1 : IntKind.i64.wrap ((st : Int) + 1) = (st : Int) + 1:=by rw [zI] <;> omega
 refine zas (rs:=[.bo true]) [.tmp 8] Tryz.func26 rfl (by kernel_rfl) Tryz.ntmps26 rfl (by simp) rfl fun C vs=>?_
 apply zq
 refine zb fun K hK=>?_;simp only [go_sem];apply hK;apply zw (zk [0,1,2,3]);simp only [go_sem]
 repeat apply zq
 refine zb fun K hK=>?_;simp only [go_sem,h1.1,h2.1,List.length_map,bne_self_eq_false]
 repeat intro _
 apply hK;apply zw (zk [0,1,2,3,19]);simp only [go_sem]
 apply zc rfl <;> intro hc <;> (try simp only [go_sem] at hc)
 apply zx
 try simp only [go_sem]
 repeat apply zq
 refine zb fun K hK=>?_;simp only [go_sem];apply hK;apply zw (zk [0,1,2,3,9]);simp only [go_sem];apply zd
 refine zup (n:=43) n (fun i vs=>[(0,.r (tabR A)),(1,.r (tabR B)),(2,.r (i64 (n : Int))),(3,.r (i64 (st : Int))),(9,.r (i64 (i : Int)))])
  (fun i=>[]) (fun _=>True) 0 (zfo [] ?_ ?_) (Nat.zero_le _) trivial ?_
 · try simp only [go_sem]
 · try simp only [go_sem]
 · intro i vs hi _
   by_cases hin : i < n
   · obtain ⟨ra,hra⟩:=zol (l:=A) (i:=i) (by omega)
     obtain ⟨rb,hrb⟩:=zol (l:=B) (i:=i) (by omega)
     have la:=h1.2 ra (zmo hra)
     have lb:=h2.2 rb (zmo hrb)
     have hiA : i < A.length:=by omega
     have hiB : i < B.length:=by omega
     have g1 : decide ((i : Int) < (n : Int)) = true:=decide_eq_true (by omega)
     have e1 : (((st + 1 : Nat) : Int) != (st : Int) + 1) = false:=by simp
     repeat apply zq
     refine zb fun K hK=>?_;simp only [go_sem,hin];apply hK;apply zw (zk [0,1,2,3,9,22]);simp only [go_sem]
     apply zc rfl <;> intro hc <;> (try simp only [go_sem] at hc)
     apply zx
     try simp only [go_sem]
     apply zq
     apply zd
     apply zq
     refine zb fun K hK=>?_;simp only [go_sem,hra,hrb,la,lb,hiA,hiB,w1,e1,List.length_map,bne_self_eq_false]
     repeat intro _
     apply hK;apply zw (zk [0,1,2,3,9,42]);simp only [go_sem]
     apply zc rfl <;> intro hc <;> (try simp only [go_sem] at hc)
     apply zx
     try simp only [go_sem]
     refine zb fun K hK=>?_;simp only [go_sem];(try simp (disch:=omega) only [zI]);apply hK
     try simp only [go_sem]
     refine ⟨by omega,zfo [] ?_ ?_⟩
     · try simp only [go_sem]
     · try simp only [go_sem]
   · have hie : i = n:=by omega
     subst hie
     repeat apply zq
     refine zb fun K hK=>?_;simp only [go_sem,Nat.lt_irrefl];apply hK;apply zw (zk [22]);simp only [go_sem]
     apply zc rfl <;> intro hc <;> (try simp only [go_sem] at hc)
     apply zf;simp only [go_sem]
     apply zq
     refine zb fun K hK=>?_;simp only [go_sem];apply hK;apply zw (zk [8]);simp only [go_sem];apply ze;simp only [go_sem]
theorem tab_rows {r : Ru} (h : ruE r = 0) (most : Bool) : (tabF r most).length = r.ends.length ∧ ∀ row ∈ tabF r most,row.length = r.start.toNat + 1:=by
 have hl : (tabF r most).length = r.ends.length:=tabI_len r most _
 refine ⟨hl,fun row hr=>?_⟩
 obtain ⟨j,hj⟩:=List.getElem?_of_mem hr
 have hjl:=(List.getElem?_eq_some_iff.1 hj).1
 have:=tabI_get r most r.ends.length (Nat.le_refl _) j (by omega) (by omega)
 unfold tabF at hj
 rw [hj] at this
 injection this with this
 rw [this]
 simp [rowV]
abbrev u8Q (n : Nat) : RV:=.it .u8 (n : Int)
def bedN (v : Nat) : Nat:=if v % 16 = 0 then 0 else 100 * (1 + v % 3) + 1 + v / 3 % 10
def posN (b : Int) : List Bd → Nat
 | []=>0
 | x :: L=>if x.b ≤ b then posN b L + 1 else 0
def seenB (b : Int) (L : List Bd) (k : Nat) : Bool:=(L.take k).any fun x=>x.b == b
def scN (d left : Int) (v : Nat × Nat × Nat) : Bd:=⟨bedN v.1,left * v.2.1 / 512,min d (left * v.2.1 / 512 + ((v.2.2 % 20 : Nat) : Int))⟩
def scS (d : Int) (s : List Bd × Int) (v : Nat × Nat × Nat) : List Bd × Int :=
 if seenB (bedN v.1) s.1 (posN (bedN v.1) s.1) then s
 else (s.1.take (posN (bedN v.1) s.1) ++ [scN d s.2 v] ++ s.1.drop (posN (bedN v.1) s.1),s.2 - s.2 * v.2.1 / 512)
def triK (a : List Nat) (k : Nat) : Nat × Nat × Nat:=(a.getD (3 * k) 0,a.getD (3 * k + 1) 0,a.getD (3 * k + 2) 0)
def scF (d : Int) (a : List Nat) : Nat → List Bd × Int
 | 0=>([],d)
 | k + 1=>scS d (scF d a k) (triK a k)
def headD (d : Int) : List Bd → List Bd
 | []=>[⟨201,0,d⟩]
 | x :: L=>⟨x.b,x.lo,d⟩ :: L
def scA (d : Int) (a : List Nat) : Am:=⟨201,headD d (scF d a 4).1⟩
def scL (d : Int) (as_ : List (List Nat)) : List Am:=if as_.length = 0 then [⟨201,headD d []⟩] else (as_.take 3).map (scA d)
structure ScI (d : Int) (s : List Bd × Int) : Prop where
 left : 0 ≤ s.2 ∧ s.2 ≤ d
 lo : loS s.1 + s.2 = d
 ok : ∀ x ∈ s.1,0 ≤ x.lo ∧ x.lo ≤ x.hi ∧ x.hi ≤ d ∧ (x.b = 0 ∨ bedOk x.b = true)
 asc : s.1.Pairwise fun x y=>x.b < y.b
theorem bedN_ok (v : Nat) : (bedN v : Int) = 0 ∨ bedOk (bedN v) = true:=by
 unfold bedN
 split
 · exact .inl rfl
 · right
   have h1:=Nat.mod_lt v (show 3 > 0 by omega)
   have h2:=Nat.mod_lt (v / 3) (show 10 > 0 by omega)
   generalize v % 3 = x at *
   generalize v / 3 % 10 = y at *
   unfold bedOk
   simp only [Bool.or_eq_true,Bool.and_eq_true,decide_eq_true_eq]
   right
   refine ⟨⟨⟨by omega,by omega⟩,by omega⟩,by omega⟩
theorem pos_split {b : Int} : ∀ {L : List Bd},L.Pairwise (fun x y=>x.b < y.b) → posN b L ≤ L.length ∧ (∀ x ∈ L.take (posN b L),x.b ≤ b) ∧ (∀ x ∈ L.drop (posN b L),b < x.b)
 | [],_=>by simp [posN]
 | x :: L, h => by
   obtain ⟨h1,h2⟩:=List.pairwise_cons.1 h
   obtain ⟨i1,i2,i3⟩:=pos_split (b:=b) h2
   unfold posN
   by_cases c : x.b ≤ b
   · rw [if_pos c]
     refine ⟨by simp;omega,?_,?_⟩
     · intro y hy
       rw [List.take_succ_cons,List.mem_cons] at hy
       rcases hy with rfl | hy
       · exact c
       · exact i2 y hy
     · intro y hy
       rw [List.drop_succ_cons] at hy
       exact i3 y hy
   · rw [if_neg c]
     refine ⟨by simp,by simp,?_⟩
     intro y hy
     rw [List.drop_zero,List.mem_cons] at hy
     rcases hy with rfl | hy
     · omega
     · have:=h1 y hy;omega
theorem loS_app (l m : List Bd) : loS (l ++ m) = loS l + loS m:=by simp [loS]
theorem scS_ok {d : Int} (hd : 0 ≤ d) {s : List Bd × Int} (h : ScI d s) (v : Nat × Nat × Nat) (hv : v.2.1 < 256) : ScI d (scS d s v):=by
 obtain ⟨h1,h2,h3,h4⟩:=h
 obtain ⟨p1,p2,p3⟩:=pos_split (b:=bedN v.1) h4
 unfold scS
 split
 · exact ⟨h1,h2,h3,h4⟩
 · rename_i hs
   have hne : ∀ x ∈ s.1.take (posN (bedN v.1) s.1),x.b < bedN v.1:=fun x hx=>by
    have:=p2 x hx
    by_cases e : x.b = bedN v.1
    · exfalso
      apply hs
      unfold seenB
      rw [List.any_eq_true]
      exact ⟨x,hx,by simp [e]⟩
    · omega
   have c1:=Int.mul_nonneg h1.1 (show (0 : Int) ≤ v.2.1 by omega)
   have c2 : s.2 * (v.2.1 : Int) ≤ s.2 * 255:=Int.mul_le_mul_of_nonneg_left (by omega) h1.1
   have c3 : 0 ≤ s.2 * (v.2.1 : Int) / 512 ∧ s.2 * (v.2.1 : Int) / 512 ≤ s.2:=⟨by omega,by omega⟩
   have hsplit:=List.take_append_drop (posN (bedN v.1) s.1) s.1
   refine ⟨⟨by simp only;omega,by simp only;omega⟩,?_,?_,?_⟩
   · have e1 : loS (s.1.take (posN (bedN v.1) s.1)) + loS (s.1.drop (posN (bedN v.1) s.1)) = loS s.1:=by rw [← loS_app,hsplit]
     have e2 : loS [scN d s.2 v] = s.2 * (v.2.1 : Int) / 512:=by simp [loS,scN]
     simp only [loS_app,e2]
     omega
   · intro x hx
     simp only [List.mem_append,List.mem_singleton] at hx
     rcases hx with (hx | rfl) | hx
     · exact h3 x (List.mem_of_mem_take hx)
     · have:=bedN_ok v.1
       simp only [scN];exact ⟨c3.1,by omega,by omega,this⟩
     · exact h3 x (List.mem_of_mem_drop hx)
   · have hp4 : (s.1.take (posN (bedN v.1) s.1) ++ s.1.drop (posN (bedN v.1) s.1)).Pairwise fun x y=>x.b < y.b:=by rw [hsplit];exact h4
     obtain ⟨q1,q2,q3⟩:=List.pairwise_append.1 hp4
     simp only [List.append_assoc];rw [List.pairwise_append]
     refine ⟨q1,?_,?_⟩
     · rw [List.singleton_append,List.pairwise_cons]
       exact ⟨fun y hy=>p3 y hy,q2⟩
     · intro x hx y hy
       rw [List.singleton_append,List.mem_cons] at hy
       rcases hy with rfl | hy
       · exact hne x hx
       · have:=hne x hx;have:=p3 y hy;omega
theorem scF_ok {d : Int} (hd : 0 ≤ d) {a : List Nat} (ha : ∀ n ∈ a,n < 256) : ∀ k,ScI d (scF d a k)
 | 0=>⟨⟨hd,Int.le_refl _⟩,by simp [scF,loS],by simp [scF],by simp [scF]⟩
 | k + 1 => scS_ok hd (scF_ok hd ha k) _ (by
   show a.getD (3 * k + 1) 0 < 256
   rw [List.getD_eq_getElem?_getD]
   cases e : a[3 * k + 1]? with
   | none=>simp
   | some x=>exact ha x (List.mem_of_getElem? e))
theorem scF_len {d : Int} (a : List Nat) : ∀ k,(scF d a k).1.length ≤ k
 | 0=>by simp [scF]
 | k + 1 => by
   have ih:=scF_len (d:=d) a k
   simp only [scF,scS]
   split
   · omega
   · simp only [List.length_append,List.length_cons,List.length_nil,List.length_take,List.length_drop];omega
theorem seq_of : ∀ {L : List Bd} {p : Option Int},(∀ x ∈ L,x.b = 0 ∨ bedOk x.b = true) → L.Pairwise (fun x y=>x.b < y.b) → (∀ q,p = some q → ∀ x ∈ L,q < x.b) → seqOk p L = true
 | [],_,_,_,_=>rfl
 | x :: L, p, hb, hp, hq => by
   obtain ⟨h1,h2⟩:=List.pairwise_cons.1 hp
   have ih:=seq_of (L:=L) (p:=some x.b) (fun y hy=>hb y (List.mem_cons_of_mem x hy)) h2 fun q e y hy=>by
    injection e with e
    subst e
    exact h1 y hy
   unfold seqOk
   rw [ih,Bool.and_true,Bool.and_eq_true]
   refine ⟨?_,?_⟩
   · rcases hb x (by simp) with h | h
     · simp [h]
     · simp [h]
   · cases p with
     | none=>rfl
     | some q=>simpa using hq q rfl x (by simp)
theorem hiS_nn : ∀ {L : List Bd},(∀ x ∈ L,0 ≤ x.hi) → 0 ≤ hiS L
 | [],_=>by simp [hiS]
 | x :: L, h => by
   have ih:=hiS_nn (L:=L) fun y hy=>h y (List.mem_cons_of_mem x hy)
   have:=h x (by simp)
   have e : hiS (x :: L) = x.hi + hiS L:=by simp [hiS]
   omega
theorem head_ok {d : Int} (hd : 4 ≤ d ∧ d ≤ 63) {s : List Bd × Int} (h : ScI d s) : aimOk d ⟨201,headD d s.1⟩ = true:=by
 obtain ⟨h1,h2,h3,h4⟩:=h
 obtain ⟨L,left⟩:=s
 simp only at h1 h2 h3 h4 ⊢
 unfold aimOk
 simp only [Bool.and_eq_true,decide_eq_true_eq]
 cases L with
 | nil =>
   refine ⟨⟨⟨⟨⟨rfl,rfl⟩,rfl⟩,?_⟩,?_⟩,?_⟩
   · simp [headD,chOk];omega
   · simp [headD,loS];omega
   · simp [headD,hiS]
 | cons x L =>
   have hx:=h3 x (by simp)
   have hL : ∀ y ∈ L,0 ≤ y.lo ∧ y.lo ≤ y.hi ∧ y.hi ≤ d ∧ (y.b = 0 ∨ bedOk y.b = true):=fun y hy=>h3 y (List.mem_cons_of_mem x hy)
   have hn:=hiS_nn (L:=L) fun y hy=>by have:=hL y hy;omega
   have e1 : loS (x :: L) = x.lo + loS L:=by simp [loS]
   refine ⟨⟨⟨⟨⟨rfl,rfl⟩,?_⟩,?_⟩,?_⟩,?_⟩
   · refine seq_of (fun y hy=>?_) ?_ (fun q e=>by cases e)
     · simp only [headD,List.mem_cons] at hy
       rcases hy with rfl | hy
       · exact hx.2.2.2
       · exact (hL y hy).2.2.2
     · obtain ⟨q1,q2⟩:=List.pairwise_cons.1 h4
       exact List.pairwise_cons.2 ⟨fun y hy=>q1 y hy,q2⟩
   · unfold chOk
     rw [List.all_eq_true]
     intro y hy
     simp only [headD,List.mem_cons] at hy
     simp only [Bool.and_eq_true,decide_eq_true_eq]
     rcases hy with rfl | hy
     · simp only;omega
     · have:=hL y hy;omega
   · have e2 : loS (headD d (x :: L)) = x.lo + loS L:=by simp [headD,loS]
     omega
   · have e2 : hiS (headD d (x :: L)) = d + hiS L:=by simp [headD,hiS]
     omega
theorem headD_len (d : Int) (L : List Bd) : (headD d L).length ≤ max 1 L.length:=by cases L <;> simp [headD]
theorem scL_all {d : Int} (hd : 4 ≤ d ∧ d ≤ 63) {A : List (List Nat)} (hA : ∀ a ∈ A,∀ n ∈ a,n < 256) : ∀ x ∈ scL d A,aimOk d x = true ∧ x.beds.length ≤ 4:=fun x hx=>by
 unfold scL at hx
 split at hx
 · rw [List.mem_singleton] at hx
   subst hx
   exact ⟨head_ok hd (s:=([],d)) ⟨⟨by omega,by omega⟩,by simp [loS],by simp,by simp⟩,by simp [headD]⟩
 · obtain ⟨a,ha,rfl⟩:=List.mem_map.1 hx
   have h:=scF_ok (d:=d) (by omega) (hA a (List.mem_of_mem_take ha)) 4
   have hl:=scF_len (d:=d) a 4
   have h2:=headD_len d (scF d a 4).1
   exact ⟨head_ok hd h,by simp only [scA];omega⟩
theorem scL_len (d : Int) (A : List (List Nat)) : 1 ≤ (scL d A).length ∧ (scL d A).length ≤ 3:=by
 unfold scL
 split
 · simp
 · simp only [List.length_map,List.length_take];omega
theorem scL_ok {d : Int} (hd : 4 ≤ d ∧ d ≤ 63) {A : List (List Nat)} (hA : ∀ a ∈ A,∀ n ∈ a,n < 256) : checkV d (scL d A) = 0:=by
 have h:=scL_all hd hA
 have hl:=scL_len d A
 unfold checkV
 rw [if_neg,if_neg,if_pos]
 · rw [List.all_eq_true];exact fun x hx=>(h x hx).1
 · intro hc
   simp only [Bool.or_eq_true,Bool.not_eq_true',Bool.and_eq_false_iff,decide_eq_false_iff_not,List.isEmpty_iff] at hc
   rcases hc with hc | hc | hc
   · rw [hc] at hl;simp at hl
   · omega
   · omega
 · intro hc
   simp only [Bool.or_eq_true,decide_eq_true_eq,List.any_eq_true] at hc
   rcases hc with hc | ⟨x,hx,hc⟩
   · omega
   · have:=(h x hx).2;omega
theorem bAt_th (l : List Bd) (i : Nat) : Th.bAt l i = bAt l i:=rfl
theorem truth_th {d : Int} {l : List Bd} {f : Int → Int} {x : Nat → Int} (h : TruthN d (Go.Proofs.YtgfbenanljjgaaaGreat.Du.chW f l) x) : Th.TruthN d l ((List.range l.length).map x):=by
 have hl:=chW_len f l
 refine ⟨by simp,fun i hi=>?_,?_⟩
 · have:=h.each i (by rw [hl];exact hi)
   rw [bAt_chW f l hi] at this
   rw [bAt_th,List.getD_eq_getElem?_getD,List.getElem?_map,List.getElem?_range hi]
   exact this
 · have:=h.sum;rw [hl] at this;exact this
theorem truth_du {d : Int} {l : List Bd} (f : Int → Int) {y : List Int} (h : Th.TruthN d l y) : TruthN d (Go.Proofs.YtgfbenanljjgaaaGreat.Du.chW f l) (fun i=>y.getD i 0):=by
 have hl:=chW_len f l
 refine ⟨fun i hi=>?_,?_⟩
 · rw [hl] at hi
   rw [bAt_chW f l hi]
   exact h.each i hi
 · rw [hl];exact Th.truth_sum h
theorem getD_range {n : Nat} (x : Nat → Int) {i : Nat} (hi : i < n) : ((List.range n).map x).getD i 0 = x i:=by
 rw [List.getD_eq_getElem?_getD,List.getElem?_map,List.getElem?_range hi];rfl
theorem dotF_congr {l : List Bd} {x y : Nat → Int} (h : ∀ i,i < l.length → x i = y i) : dotF l x = dotF l y:=by
 unfold dotF
 exact congrArg List.sum (List.map_congr_left fun i hi=>by rw [h i (List.mem_range.1 hi)])
theorem same_mean {m : Bool} {d : Int} {l l' : List Bd} {f : Int → Int} (h1 : Th.Ai.NarT d l l') (h2 : Th.Ai.NarT d l' l) (hc : ChG d (Go.Proofs.YtgfbenanljjgaaaGreat.Du.chW f l)) (hc' : ChG d (Go.Proofs.YtgfbenanljjgaaaGreat.Du.chW f l')) (hh : d ≤ hiS l) (hh' : d ≤ hiS l') :
 meanD m d (Go.Proofs.YtgfbenanljjgaaaGreat.Du.chW f l') = meanD m d (Go.Proofs.YtgfbenanljjgaaaGreat.Du.chW f l):=by
 have hdot : ∀ x,dotF (Go.Proofs.YtgfbenanljjgaaaGreat.Du.chW f l') x = dotF (Go.Proofs.YtgfbenanljjgaaaGreat.Du.chW f l) x:=fun x=>by
  rw [dotF_chW,dotF_chW,h1.len]
  congr 1
  exact List.map_congr_left fun i hi=>by
   have:=h1.bed i (List.mem_range.1 hi)
   simp only [bAt_th] at this
   rw [this]
 obtain ⟨x,x1,x2,x3⟩:=mean_opt (most:=m) hc (by rw [hiS_chW];exact hh)
 obtain ⟨y,y1,y2,y3⟩:=mean_opt (most:=m) hc' (by rw [hiS_chW];exact hh')
 have a1:=truth_du f (h2.truth (truth_th x1))
 have a2:=truth_du f (h1.truth (truth_th y1))
 have b1:=y3 _ a1
 have b2:=x3 _ a2
 have c1 : dotF (Go.Proofs.YtgfbenanljjgaaaGreat.Du.chW f l') (fun i=>((List.range l.length).map x).getD i 0) = dotF (Go.Proofs.YtgfbenanljjgaaaGreat.Du.chW f l) x:=by
  rw [hdot];exact dotF_congr fun i hi=>getD_range x (by rwa [chW_len] at hi)
 have c2 : dotF (Go.Proofs.YtgfbenanljjgaaaGreat.Du.chW f l) (fun i=>((List.range l'.length).map y).getD i 0) = dotF (Go.Proofs.YtgfbenanljjgaaaGreat.Du.chW f l') y:=by
  rw [← hdot];exact dotF_congr fun i hi=>getD_range y (by rwa [chW_len] at hi)
 rw [c1] at b1
 rw [c2] at b2
 rw [x2,y2,leD_anti b1 b2]
theorem tight_checkV {d : Int} {l : List Am} (hr : ∀ a ∈ l,Th.Ai.AOk d a.beds) (h : checkV d l = 0) : checkV d (l.map (Th.tightA d)) = 0:=by
 refine checkV_of h (by simp) (by simpa using (Th.checkV_zero h).2.2.1) (fun a' ha=>?_) (fun a' ha=>?_)
 · obtain ⟨a,hm,rfl⟩:=List.mem_map.1 ha
   exact ⟨a,hm,Th.tight_len d a.beds⟩
 · obtain ⟨a,hm,rfl⟩:=List.mem_map.1 ha
   have hk:=Th.Ai.tight_aok (hr a hm)
   have hp:=aimOk_parts (aims_all (r:=⟨d,l,0,0,[]⟩) h a hm)
   have hs : seqOk none (Th.tightL d a.beds) = true:=by
    rw [seqOk_map (l:=a.beds)]
    · exact hp.2.2.1
    · simp [Th.tightL,Th.tightB]
   have e1 : (Th.tightA d a).beds = Th.tightL d a.beds:=rfl
   have e2 : (Th.tightA d a).at_ = a.at_:=rfl
   have hne : (Th.tightL d a.beds).isEmpty = false:=by
    cases hE : Th.tightL d a.beds with
    | nil=>exact absurd hE hk.ne
    | cons x y=>rfl
   simp only [aimOk,Bool.and_eq_true,decide_eq_true_eq,e1,e2,hne];exact ⟨⟨⟨⟨⟨hp.1,rfl⟩,hs⟩,hk.ch⟩,hk.lo⟩,hk.hi⟩
theorem tight_duel {d st g : Int} {l : List Am} {en : List Sp} (h : ruE ⟨d,l,st,g,en⟩ = 0) (h' : ruE ⟨d,l.map (Th.tightA d),st,g,en⟩ = 0) (hr : ∀ a ∈ l,Th.Ai.AOk d a.beds) (m : Bool) (k y : Nat) (hy : (y : Int) ≤ st) :
 ((tabF ⟨d,l.map (Th.tightA d),st,g,en⟩ m).getD k []).getD y 0 = ((tabF ⟨d,l,st,g,en⟩ m).getD k []).getD y 0:=by
 obtain ⟨hG,_⟩:=ruG_of h
 obtain ⟨hG',_⟩:=ruG_of h'
 have hH:=refH_of h
 have hH':=refH_of h'
 have key : ∀ a ∈ l,∀ f : Int → Int,(∀ b,0 ≤ b → b ≤ 499 → 0 ≤ f b ∧ f b ≤ 1000000) → meanD m d (Go.Proofs.YtgfbenanljjgaaaGreat.Du.chW f (Th.tightA d a).beds) = meanD m d (Go.Proofs.YtgfbenanljjgaaaGreat.Du.chW f a.beds):=fun a ha f hf=>by
  have hm : Th.tightA d a ∈ l.map (Th.tightA d):=List.mem_map.2 ⟨a,ha,rfl⟩
  exact same_mean (Th.Ai.tight_in (hr a ha)) (Th.Ai.tight_out (hr a ha)) (hG.aims.ch hf a ha) (hG'.aims.ch hf _ hm) (hH.hi a ha) (hH'.hi _ hm)
 have n1 : LeR ⟨d,l.map (Th.tightA d),st,g,en⟩ ⟨d,l,st,g,en⟩ m:=⟨rfl,rfl,rfl,fun x hx=>by
  obtain ⟨a,ha,rfl⟩:=List.mem_map.1 hx
  exact ⟨a,ha,fun f g hf hg hfg=>by
   show meanD m d _ ≤ meanD m d _
   rw [key a ha f hf]
   exact same_means hG.aims hH ha hf hg hfg⟩,fun k _=>Int.le_refl _⟩
 have n2 : LeR ⟨d,l,st,g,en⟩ ⟨d,l.map (Th.tightA d),st,g,en⟩ m:=⟨rfl,rfl,rfl,fun a ha =>
  ⟨Th.tightA d a,List.mem_map.2 ⟨a,ha,rfl⟩,fun f g hf hg hfg=>by
   show meanD m d _ ≤ meanD m d _
   rw [key a ha g hg]
   exact same_means hG.aims hH ha hf hg hfg⟩,fun k _=>Int.le_refl _⟩
 exact Int.le_antisymm (n1.tabF hG' hG (j:=k) (y:=y) hy) (n2.tabF hG hG' (j:=k) (y:=y) hy)
end Go.Proofs.YtgfbenanljjgaaaGreat.Du

namespace Go.Proofs.YtgfbenanljjgaaaGreat.Du.Th
open Go Go.Oc
set_option maxRecDepth 8000
theorem score_ok (b : Int) (h0 : 0 ≤ b) (h1 : b ≤ 499) : ACalls Tryz.prog 98 [i64 b] (i64 (scoreOf b)):=by
 have hq:=tdiv100 (b:=b) ⟨by omega,by omega⟩
 have hm:=score_mul h0 h1
 refine zas (rs:=[i64 (scoreOf b)]) [.tmp 2] Tryz.func98 rfl (by kernel_rfl) Tryz.ntmps98 rfl (by simp) rfl fun C vs=>?_
 apply zq
 refine zb fun K hK=>?_;simp only [go_sem];apply hK
 apply zq
 refine zb fun K hK=>?_;simp only [go_sem,hq,hm];apply hK;apply ze;simp only [go_sem]
set_option maxHeartbeats 4000000
theorem rising_ok (x y : Int) : ACalls Tryz.prog 138 [i64 x,i64 y] (i64 (cmpI x y)):=by
 refine zas (rs:=[i64 (cmpI x y)]) [.tmp 4] Tryz.func138 rfl (by kernel_rfl) Tryz.ntmps138 rfl (by simp) rfl fun C vs=>?_
 apply zq
 refine zb fun K hK=>?_;simp only [go_sem];apply hK
 apply zq
 refine zb fun K hK=>?_;simp only [go_sem]
 refine zh (compare_ok x y) rfl (by simp only [go_sem,i64,ints]) (by simp only [go_sem,i64,ints]) ?_
 (try simp only [go_sem]);apply hK;apply ze;simp only [go_sem]
theorem falling_ok (x y : Int) : ACalls Tryz.prog 139 [i64 x,i64 y] (i64 (cmpI y x)):=by
 refine zas (rs:=[i64 (cmpI y x)]) [.tmp 4] Tryz.func139 rfl (by kernel_rfl) Tryz.ntmps139 rfl (by simp) rfl fun C vs=>?_
 apply zq
 refine zb fun K hK=>?_;simp only [go_sem];apply hK
 apply zq
 refine zb fun K hK=>?_;simp only [go_sem]
 refine zh (compare_ok y x) rfl (by simp only [go_sem,i64,ints]) (by simp only [go_sem,i64,ints]) ?_
 (try simp only [go_sem]);apply hK;apply ze;simp only [go_sem]
theorem filled1_ok (i k : Nat) (vals : List Int) (f : Nat) (cm : Int → Int → Int) (hf : ∀ x y,ACalls Tryz.prog f [i64 x,i64 y] (i64 (cm x y))) {x y : Int} (hx : vals[i]? = some x) (hy : vals[k]? = some y) :
 ACalls Tryz.prog 168 [i64 i,i64 k,.rp [.fn f []],.rp [ints vals]] (i64 (cm x y)):=by
 have hi:=(List.getElem?_eq_some_iff.1 hx).1
 have hk:=(List.getElem?_eq_some_iff.1 hy).1
 refine zas (rs:=[i64 (cm x y)]) [.tmp 6] Tryz.func168 rfl (by kernel_rfl) Tryz.ntmps168 rfl (by simp) rfl fun C vs=>?_
 apply zq
 refine zb fun K hK=>?_;simp only [go_sem];apply hK
 apply zq
 refine zg follows (by decide +kernel) (by kernel_rfl) fun K hK=>?_;simp only [go_sem,hx,hy,hi,hk]
 refine zh (hf x y) rfl (by simp only [go_sem,i64,ints]) (by simp only [go_sem,i64,ints]) ?_
 (try simp only [go_sem]);apply hK;apply ze;simp only [go_sem]
theorem stable_ok (lt : Nat → Nat → Bool) (c : Nat → Nat → Int) (f : Nat) (caps : List RV) (l : List Nat) (hl : l.length ≤ 19) (hlt : ∀ x y,lt x y = decide (c x y < 0))
 (hcc : ∀ x ∈ l,∀ y ∈ l,ACalls Tryz.prog f (i64 (x : Int) :: i64 (y : Int) :: caps) (i64 (c x y))) :
 MCalls Tryz.prog 189 [(1000,.arr 3 1 (idx l))] [(1000,.arr 3 1 (idx (sortN lt l)))] [.os 1000 0 1 0 l.length,.r (i64 l.length),.r (.fn f caps)] (.tu []):=by
 refine mcalls_st (n:=63) (rs:=[]) _ _ [] Tryz.func189 rfl (by kernel_rfl) Tryz.ntmps189 rfl (by simp) rfl rfl fun C=>?_
 apply zq
 refine zb fun K hK=>?_;simp only [go_sem];apply hK
 apply zq
 refine zb fun K hK=>?_;simp only [go_sem];apply hK;apply zw (zk [0,1,2,6,7,8]);simp only [go_sem]
 apply zq
 apply zd
 refine awp_upto0 (n:=63) 0 (fun i vs=>[(0,.os 1000 0 1 0 l.length),(1,.r (i64 l.length)),(2,.r (.fn f caps)),(6,.r (i64 20)),(7,.r (i64 0)),(8,.r (i64 20))])
  (fun i=>[(1000,.arr 3 1 (idx l))]) (fun i=>True) 0 (fit0_of [] lent_zero ?_ ?_) (Nat.zero_le _) trivial ?_
 · try simp only [go_sem]
 · try simp only [go_sem]
 intro i vs hv _ _
 have hv0:=hv 1000 (by omega)
 repeat apply zq
 refine zb fun K hK=>?_;simp only [go_sem];apply hK
 apply zc rfl <;> intro hc <;> (try simp only [go_sem] at hc)
 · omega
 apply zf;simp only [go_sem]
 apply zq
 refine zb fun K hK=>?_;simp only [go_sem]
 refine xcall_mut (insertion_ok lt c f caps l (by omega) hlt hcc) [(1000,1000)] rfl (by simp only [go_sem,i64,ints,hv0]) (by simp only [go_sem,i64,ints,hv0]) (by rfl) (by rfl) ?_
 (try simp only [go_sem,hv0]);apply hK
 try simp only [go_sem]
 apply zd
 refine awp_upto0 (n:=63) 0 (fun i vs=>[(1,.r (i64 l.length)),(6,.r (i64 20))])
  (fun i=>[(1000,.arr 3 1 (idx (sortN lt l)))]) (fun i=>True) 0 (fit0_of [] hv ?_ ?_) (Nat.zero_le _) trivial ?_
 · try simp only [go_sem]
 · try simp only [go_sem]
 intro i vs hv _ _
 repeat apply zq
 refine zb fun K hK=>?_;simp only [go_sem];apply hK
 apply zc rfl <;> intro hc <;> (try simp only [go_sem] at hc)
 · omega
 apply zf;simp only [go_sem]
theorem sortStable_ok (lt : Nat → Nat → Bool) (c : Nat → Nat → Int) (f : Nat) (caps : List RV) (l : List Nat) (hl : l.length ≤ 19) (hlt : ∀ x y,lt x y = decide (c x y < 0))
 (hcc : ∀ x ∈ l,∀ y ∈ l,ACalls Tryz.prog f (i64 (x : Int) :: i64 (y : Int) :: caps) (i64 (c x y))) :
 MCalls Tryz.prog 167 [(1000,.arr 3 1 (idx l))] [(1000,.arr 3 1 (idx (sortN lt l)))] [.os 1000 0 1 0 l.length,.r (.fn f caps)] (.tu []):=by
 refine mcalls_st (n:=9) (rs:=[]) _ _ [] Tryz.func167 rfl (by kernel_rfl) Tryz.ntmps167 rfl (by simp) rfl rfl fun C=>?_
 refine zb fun K hK=>?_;simp only [go_sem]
 intro _
 refine xcall_mut (stable_ok lt c f caps l (by omega) hlt hcc) [(1000,1000)] rfl (by simp only [go_sem,i64,ints]) (by simp only [go_sem,i64,ints]) (by rfl) (by rfl) ?_
 (try simp only [go_sem]);apply hK
 try simp only [go_sem]
theorem filled_ok (a : Int) (l : List Bd) (d : Int) (vals : List Int) (f : Nat) (cm : Int → Int → Int) (hf : ∀ x y,ACalls Tryz.prog f [i64 x,i64 y] (i64 (cm x y))) (hv : vals.length = l.length) (hl : l.length ≤ 19) (hch : chOk d l = true) (hd : d ≤ 3000) (h1 : loS l ≤ d) :
 ACalls Tryz.prog 137 [.ag [i64 a,bedsR l,i64 d],ints vals,.fn f []] (ints (filledV cm d l vals)):=by
 have hs:=chOk_small hch (by omega)
 have hsm:=sums_le hs
 refine zas (rs:=[ints (filledV cm d l vals)]) [.tmp 6] Tryz.func137 rfl (by kernel_rfl) Tryz.ntmps137 rfl (by simp) rfl fun C vs=>?_
 apply zq
 refine zb fun K hK=>?_;simp only [go_sem];apply hK;refine zw (zfP 3 3 [i64 a,bedsR l,i64 d] (by omega) rfl rfl) ?_;refine zw (zfP 4 4 [ints vals] (by omega) rfl rfl) ?_;refine zw (zfP 5 5 [.fn f []] (by omega) rfl rfl) ?_;apply zw (zk [3,4,5]);simp only [go_sem]
 apply zq
 refine awp_dreg2 [(3,none)] follows (by decide +kernel) (by kernel_rfl) (by simp only [keysOk,List.mem_cons,List.not_mem_nil,forall_eq_or_imp,Oc.keyOf,go_sem];simp) fun K hK=>?_
 simp only [go_sem]
 intro _
 refine ⟨⟨by omega,by omega⟩,fun _=>⟨⟨by omega,by omega⟩,?_⟩⟩
 apply hK;apply zw (zk [3,4,5,7,8,9]);simp only [go_sem]
 repeat apply zq
 refine zb fun K hK=>?_;simp only [go_sem]
 intro _
 apply hK;apply zw (zk [3,4,5,7,8,9,29,30,31]);simp only [go_sem];apply zd
 refine zup (n:=90) l.length (fun i vs=>[(3,.r (.rp [i64 a,bedsR l,i64 d])),(4,.r (.rp [ints vals])),(5,.r (.rp [.fn f []])),(7,.os 19 (vs 19) 1 0 l.length),(8,.os 24 (vs 24) 1 0 l.length),(9,.r (i64 (d - loS (l.take i)))),(29,.r (bedsR l)),(30,.r (i64 l.length)),(31,.r (i64 i))])
  (fun i=>[(19,.arr 3 1 (idx (List.range i) ++ List.replicate (l.length - i) [i64 0])),(24,.arr 3 1 (((l.take i).map fun x=>[i64 x.lo]) ++ List.replicate (l.length - i) [i64 0]))]) (fun _=>True) 0 (zfo [3,4,5] ?_ ?_) (Nat.zero_le _) trivial ?_
 · try simp only [go_sem]
   simp [loS]
 · try simp only [go_sem]
   simp
 · intro i vs hi _
   apply zq
   refine zb fun K hK=>?_;simp only [go_sem];apply hK
   apply zq
   apply zc rfl <;> intro hc <;> (try simp only [go_sem] at hc)
   · have hci:=hc
     obtain ⟨x,hx⟩:=zol hci
     obtain ⟨⟨x1,x2⟩,x3,x4⟩:=hs x (zmo hx)
     have hsub:=sums_le (hs.take (i + 1))
     have hsub0:=sums_le (hs.take i)
     have htl : ((l.take (i + 1)).length : Int) ≤ 20:=by rw [List.length_take];omega
     have htl0 : ((l.take i).length : Int) ≤ 20:=by rw [List.length_take];omega
     have hlo : loS (l.take (i + 1)) = loS (l.take i) + x.lo:=by rw [zto hx,loS_snoc]
     rw [hlo] at hsub
     apply zx
     apply zq
     apply zd
     apply zq
     refine zb fun K hK=>?_;simp only [go_sem,hx,hci,bedR];apply hK;apply zw (zk [3,4,5,7,8,9,10,11,29,30,31]);simp only [go_sem]
     have g1 : (idx (List.range i)).length = i:=by simp
     have g2 : ((l.take i).map fun x=>[i64 x.lo]).length = i:=by simp;omega
     have r1:=rep_at (z:=[i64 0]) g1 hci
     have r2:=rep_at (z:=[i64 0]) g2 hci
     have r3:=rep_len (z:=[i64 0]) g1 hci
     have r4:=rep_len (z:=[i64 0]) g2 hci
     have r5:=fun v=>rep_set (z:=[i64 0]) (v:=v) g1 hci
     have r6:=fun v=>rep_set (z:=[i64 0]) (v:=v) g2 hci
     apply zq
     refine awp_dreg2 [(7,some 19),(8,some 24),(10,none),(11,some 11)] follows (by decide +kernel) (by kernel_rfl) (by simp only [keysOk,List.mem_cons,List.not_mem_nil,forall_eq_or_imp,Oc.keyOf,go_sem];simp) fun K hK=>?_
     simp only [go_sem,hci,r1,r2,r3,r4,r5,r6];apply hK;apply zw (zk [3,4,5,7,8,9,10,11,29,30,31]);simp only [go_sem];refine zb fun K hK=>?_;simp only [go_sem];(try simp (disch:=omega) only [zI]);apply hK;apply zw (zk [3,4,5,7,8,9,29,30,31]);simp only [go_sem];refine zb fun K hK=>?_;simp only [go_sem];(try simp (disch:=omega) only [zI]);apply hK
     try simp only [go_sem]
     refine ⟨hci,zfo [11] ?_ ?_⟩
     · simp only [go_sem,hlo]
       omega
     · try simp only [go_sem]
       have hr : List.range (i + 1) = List.range i ++ [i]:=List.range_succ
       simp only [zto hx,hr,List.map_append,List.map_cons,List.map_nil]
   · apply zf;simp only [go_sem]
     have hii : i = l.length:=by omega
     subst hii
     have e1 : idx (List.range l.length) ++ List.replicate (l.length - l.length) [i64 0] = idx (List.range l.length):=by simp
     have e2 : ((l.take l.length).map fun x=>[i64 x.lo]) ++ List.replicate (l.length - l.length) [i64 0] = (l.map (·.lo)).map fun x=>[i64 x]:=by simp
     have e3 : l.take l.length = l:=List.take_length
     rw [e1,e2,e3]
     have hmem : ∀ i ∈ List.range l.length,i < vals.length:=fun i hi=>by rw [hv];exact List.mem_range.1 hi
     have hsort:=sortStable_ok (keyLt cm vals) (fun i k=>cm ((vals[i]?).getD 0) ((vals[k]?).getD 0)) 168 [.rp [.fn f []],.rp [ints vals]] (List.range l.length) (by simpa using hl) (fun _ _=>rfl) (fun i hi k hk=>by
      obtain ⟨x,hx⟩:=zol (hmem i hi)
      obtain ⟨y,hy⟩:=zol (hmem k hk)
      have:=filled1_ok i k vals f cm hf hx hy
      simpa [hx,hy] using this)
     rw [List.length_range] at hsort
     apply zq
     refine zb fun K hK=>?_;simp only [go_sem]
     refine xcall_mut (mcalls_fn hsort) [(1000,19)] rfl (by simp only [go_sem,i64,ints]) (by simp only [go_sem,i64,ints]) (by rfl) (by rfl) ?_
     (try simp only [go_sem]);apply hK;apply zw (zk [3,4,5,7,8,9]);simp only [go_sem]
     obtain ⟨S,hS⟩ : ∃ S,S = sortN (keyLt cm vals) (List.range l.length):=⟨_,rfl⟩
     have hSl : S.length = l.length:=by rw [hS,sortN_len,List.length_range]
     have hSm : ∀ i ∈ S,i < l.length:=fun i hi=>by rw [hS,mem_sortN,List.mem_range] at hi;exact hi
     rw [← hS]
     repeat apply zq
     refine zb fun K hK=>?_;simp only [go_sem]
     intro _
     apply hK;apply zw (zk [3,4,5,7,8,9,55,56,57]);simp only [go_sem];apply zd
     have hst:=startF_ok hch hd h1 hsm.1.1
     refine zup (n:=90) l.length (fun i vs=>[(3,.r (.rp [i64 a,bedsR l,i64 d])),(8,.os 24 (vs 24) 1 0 l.length),(9,.r (i64 (fillS l (S.take i) (startF d l)).2)),(55,.os 19 (vs 19) 1 0 l.length),(56,.r (i64 l.length)),(57,.r (i64 i))])
      (fun i=>[(19,.arr 3 1 (idx S)),(24,.arr 3 1 ((fillS l (S.take i) (startF d l)).1.map fun x=>[i64 x]))]) (fun _=>True) 0 (zfo [] ?_ ?_) (Nat.zero_le _) trivial ?_
     · try simp only [go_sem]
       simp [fillS,startF]
     · try simp only [go_sem]
       simp [fillS,startF]
     · intro q vs hq _
       apply zq
       refine zb fun K hK=>?_;simp only [go_sem];apply hK
       apply zq
       apply zc rfl <;> intro hc <;> (try simp only [go_sem] at hc)
       · have hci:=hc
         obtain ⟨i,hi⟩:=zol (l:=S) (i:=q) (by omega)
         have hil:=hSm i (zmo hi)
         obtain ⟨x,hx⟩:=zol hil
         obtain ⟨F,hF⟩ : ∃ F,F = fillS l (S.take q) (startF d l):=⟨_,rfl⟩
         have hFo : FillOk l F:=hF ▸ fillOk_all _ _ (fun j hj=>hSm j (List.mem_of_mem_take hj)) hst
         obtain ⟨o,ho⟩:=zol (l:=F.1) (i:=i) (by have:=hFo.1;omega)
         obtain ⟨s1,s2,s3⟩:=fillOk_step hFo hx ho
         have hnx : fillS l (S.take (q + 1)) (startF d l) = (F.1.set i (o + moreS l F.1 F.2 i),F.2 - moreS l F.1 F.2 i):=by
          rw [zto hi,fillS_snoc,← hF]
          simp [ho]
         obtain ⟨⟨x1,x2⟩,x3,x4⟩:=hs x (zmo hx)
         obtain ⟨f1,f2,f3⟩:=hFo
         have f4:=f3 i x o hx ho
         rw [← hF]
         apply zx
         apply zq
         apply zd
         apply zq
         refine zb fun K hK=>?_;simp only [go_sem,hi,hci];apply hK;apply zw (zk [3,8,9,13,55,56,57]);simp only [go_sem]
         apply zq
         refine awp_dreg2 [(3,none),(8,some 24),(9,none),(13,none)] follows (by decide +kernel) (by kernel_rfl) (by simp only [keysOk,List.mem_cons,List.not_mem_nil,forall_eq_or_imp,Oc.keyOf,go_sem];simp) fun K hK=>?_
         simp only [go_sem,hx,ho,hil,bedR,f1];(try simp (disch:=omega) only [zI]);apply hK;apply zw (zk [3,8,9,13,14,55,56,57]);simp only [go_sem];refine zb fun K hK=>?_;simp only [go_sem,ho,hil,f1];(try simp (disch:=omega) only [zI])
         have hwr : IntKind.i64.wrap (o + min F.2 (x.hi - o)) = o + min F.2 (x.hi - o):=by rw [zI] <;> omega
         apply hK;apply zw (zk [3,8,9,55,56,57]);simp only [go_sem];refine zb fun K hK=>?_;simp only [go_sem];(try simp (disch:=omega) only [zI]);apply hK
         try simp only [go_sem]
         refine ⟨hci,zfo [] ?_ ?_⟩
         · simp only [go_sem,hnx,s1]
         · simp only [go_sem,hnx,s1];rw [List.map_set]
       · apply zf;simp only [go_sem]
         apply zq
         refine zb fun K hK=>?_;simp only [go_sem];apply hK;apply ze;simp only [go_sem]
         have e4 : S.take q = S:=List.take_of_length_le (by omega)
         rw [e4]
         have hfin:=fillOk_all S (startF d l) hSm hst
         refine ⟨by have:=hfin.1;omega,?_⟩
         rw [List.take_of_length_le (by simp;have:=hfin.1;omega),filledV,← hS]
theorem mean1_ok (a : Int) (l : List Bd) (d : Int) (vals : List Int) (f : Nat) (cm : Int → Int → Int) (hf : ∀ x y,ACalls Tryz.prog f [i64 x,i64 y] (i64 (cm x y))) (hv : vals.length = l.length) (hl : l.length ≤ 19) (hch : chOk d l = true) (hd : d ≤ 3000) (h1 : loS l ≤ d) (hvs : Vals vals) :
 ACalls Tryz.prog 136 [.fn f [],.rp [i64 a,bedsR l,i64 d],.rp [ints vals]] (i64 (dotV (filledV cm d l vals) vals)):=by
 obtain ⟨q1,q2⟩:=filled_facts (cm:=cm) (vals:=vals) hch hd h1
 obtain ⟨F,hF⟩ : ∃ F,F = filledV cm d l vals:=⟨_,rfl⟩
 have hfl:=filled_ok a l d vals f cm hf hv hl hch hd h1
 rw [← hF] at q1 q2 hfl ⊢
 refine zas (rs:=[i64 (dotV F vals)]) [.tmp 4] Tryz.func136 rfl (by kernel_rfl) Tryz.ntmps136 rfl (by simp) rfl fun C vs=>?_
 apply zq
 refine zb fun K hK=>?_;simp only [go_sem];apply hK
 repeat apply zq
 refine zb fun K hK=>?_;simp only [go_sem]
 refine zh (hfl) rfl (by simp only [go_sem,i64,ints]) (by simp only [go_sem,i64,ints]) ?_
 (try simp only [go_sem])
 intro _
 apply hK;apply zw (zk [2,4,10,11,12]);simp only [go_sem];apply zd
 refine zup (n:=27) F.length (fun i vs=>[(2,.r (.rp [ints vals])),(4,.r (i64 (dotV (F.take i) (vals.take i)))),(10,.r (ints F)),(11,.r (i64 F.length)),(12,.r (i64 i))]) (fun _=>[]) (fun _=>True) 0 (zfo [] ?_ ?_) (Nat.zero_le _) trivial ?_
 · try simp only [go_sem]
   simp [dotV]
 · try simp only [go_sem]
 · intro i vs hi _
   apply zq
   refine zb fun K hK=>?_;simp only [go_sem];apply hK
   apply zq
   apply zc rfl <;> intro hc <;> (try simp only [go_sem] at hc)
   · have hci:=hc
     have hcv : i < vals.length:=by omega
     obtain ⟨x,hx⟩:=zol hci
     obtain ⟨y,hy⟩:=zol hcv
     have b1:=q2 x (zmo hx)
     have b2:=hvs y (zmo hy)
     have b3:=mul_bound b1.1 (by omega) b2.1 b2.2
     have b4:=dotV_bound (xs:=F.take i) (ys:=vals.take i) (fun z hz=>by have:=q2 z (List.mem_of_mem_take hz);omega) (fun z hz=>hvs z (List.mem_of_mem_take hz))
     have b5 : ((F.take i).length : Int) ≤ 19:=by rw [List.length_take];omega
     have hsn : dotV (F.take (i + 1)) (vals.take (i + 1)) = dotV (F.take i) (vals.take i) + x * y:=by
      rw [zto hx,zto hy,dotV_snoc (by simp;omega)]
     have hw1 : IntKind.i64.wrap (x * y) = x * y:=by rw [zI] <;> omega
     apply zx
     apply zq
     apply zd
     apply zq
     refine zb fun K hK=>?_;simp only [go_sem,hx,hci];apply hK;refine zb fun K hK=>?_;simp only [go_sem,hy,hcv,hw1];(try simp (disch:=omega) only [zI]);apply hK;apply zw (zk [2,4,10,11,12]);simp only [go_sem];refine zb fun K hK=>?_;simp only [go_sem];(try simp (disch:=omega) only [zI]);apply hK
     try simp only [go_sem]
     refine ⟨hci,zfo [] ?_ ?_⟩
     · simp only [go_sem,hsn]
     · try simp only [go_sem]
   · apply zf;simp only [go_sem]
     apply zq
     refine zb fun K hK=>?_;simp only [go_sem];apply hK;apply ze;simp only [go_sem];rw [List.take_of_length_le (by omega),List.take_of_length_le (by omega)]
theorem mean_ok (a : Int) (l : List Bd) (d : Int) (vals : List Int) (hv : vals.length = l.length) (hl : l.length ≤ 19) (hch : chOk d l = true) (hd : d ≤ 3000) (h1 : loS l ≤ d) (hvs : Vals vals) :
 ACalls Tryz.prog 99 [.ag [i64 a,bedsR l,i64 d],ints vals] (.ag [i64 (meanLo d l vals),i64 (meanHi d l vals)]):=by
 refine zas (rs:=[.ag [i64 (meanLo d l vals),i64 (meanHi d l vals)]]) [.cell 4 48] Tryz.func99 rfl (by kernel_rfl) Tryz.ntmps99 rfl (by simp) rfl fun C vs=>?_
 apply zq
 refine zb fun K hK=>?_;simp only [go_sem];apply hK
 apply zq
 refine zb fun K hK=>?_;simp only [go_sem];apply hK
 apply zq
 refine zb fun K hK=>?_;simp only [go_sem]
 refine zh (mean1_ok a l d vals 138 cmpI rising_ok hv hl hch hd h1 hvs) rfl (by simp only [go_sem,i64,ints]) (by simp only [go_sem,i64,ints]) ?_
 (try simp only [go_sem])
 refine zh (mean1_ok a l d vals 139 (fun x y=>cmpI y x) falling_ok hv hl hch hd h1 hvs) rfl (by simp only [go_sem,i64,ints]) (by simp only [go_sem,i64,ints]) ?_
 (try simp only [go_sem]);apply hK;apply ze;simp only [go_sem]
 simp [meanLo,meanHi]
theorem bedOk_range {b : Int} (h : bedOk b = true) : 100 ≤ b ∧ b ≤ 499:=by
 simp only [bedOk,Bool.or_eq_true,Bool.and_eq_true,decide_eq_true_eq] at h
 omega
theorem seqOk_mem : ∀ {p : Option Int} {l : List Bd},seqOk p l = true → ∀ x ∈ l,0 ≤ x.b ∧ x.b ≤ 499
 | _,[],_,x,hx=>by cases hx
 | p, y :: l, h, x, hx => by
   simp only [seqOk,Bool.and_eq_true,Bool.or_eq_true,decide_eq_true_eq] at h
   rcases List.mem_cons.1 hx with rfl | hx
   · rcases h.1.1 with h0 | h0
     · omega
     · have:=bedOk_range h0;omega
   · exact seqOk_mem h.2 x hx
def scoresOf (l : List Bd) : List Int:=l.map fun x=>scoreOf x.b
def spanOf (d : Int) (a : Am) : Int × Int:=(meanLo d a.beds (scoresOf a.beds),meanHi d a.beds (scoresOf a.beds))
abbrev spansR (l : List (Int × Int)) : RV:=.sl 2 (l.map fun x=>[i64 x.1,i64 x.2])
def spansV (d : Int) (l : List Am) : List (Int × Int):=if checkV d l = 0 then l.map (spanOf d) else []
theorem Score_ok (d : Int) (l : List Am) (hw : WfL d l) : ACalls Tryz.prog 66 [lawV d l] (.tu [spansR (spansV d l),i64 (checkV d l)]):=by
 refine acalls_stR (rs:=[spansR (spansV d l),i64 (checkV d l)]) [.cell 2 36,.tmp 3] Tryz.func66 rfl (by kernel_rfl) Tryz.ntmps66 rfl (by simp) rfl fun C hC vs=>?_
 apply zq
 refine zb fun K hK=>?_;simp only [go_sem];apply hK
 repeat apply zq
 refine zb fun K hK=>?_;simp only [go_sem]
 refine zh (check_ok d l hw) rfl (by simp only [go_sem,i64,ints]) (by simp only [go_sem,i64,ints]) ?_
 (try simp only [go_sem]);apply hK
 apply zq
 refine zb fun K hK=>?_;simp only [go_sem]
 cases hE : checkV d l != 0
 case true =>
  apply hK
  have hne : ¬ checkV d l = 0:=by simpa using hE
  apply zc rfl <;> intro hc <;> (try simp only [go_sem] at hc)
  apply zq
  refine zb fun K hK=>?_;simp only [go_sem];apply hK;apply ze;simp only [go_sem]
  simp [hne,spansV]
 have h0 : checkV d l = 0:=by simpa using hE
 obtain ⟨c1,c2,c3,c4,c5⟩:=checkV_zero h0
 apply hK
 apply zc rfl <;> intro hc <;> (try simp only [go_sem] at hc)
 apply zx
 try simp only [go_sem]
 repeat apply zq
 refine zb fun K hK=>?_;simp only [go_sem]
 refine zh (all_ok d l) rfl (by simp only [go_sem,i64,ints]) (by simp only [go_sem,i64,ints]) ?_
 (try simp only [go_sem]);apply hK;apply zw (zk [2,16]);simp only [go_sem];apply zd;refine zw (sub_ownB 2 0 39 48 2 (by omega) (by omega) rfl rfl) ?_
 try simp only [go_sem]
 refine awp_rangeF hC (enumA d l) (all1_ok d l) [2,16] (by decide) (fun vs=>[(2,.pt 2 (vs 2) 0),(16,.r (.fn 96 [.rp [i64 d,aimsR l]]))])
  (fun i vs=>[(2,.box [.os 39 (vs 39) 2 0 i]),(39,.arr 48 2 (((l.map (spanOf d)).take i).map fun x=>[i64 x.1,i64 x.2]))])
  (fun i=>True) (zj [1] ?_ ?_) trivial (fun _=>rfl) (fun _=>rfl) (fun _ _=>rfl) (by simp) (fun e he=>enumA_len he) ?_ ?_
 · try simp only [go_sem]
 · try simp only [go_sem]
 · intro i e vs us C he _
   obtain ⟨x,hx,rfl⟩:=enumA_get he
   obtain ⟨_,_,k3,k4,k5,_⟩:=aimOk_facts (c5 x (zmo hx))
   have hsq:=seqOk_mem k3
   have hbl:=c2 x (zmo hx)
   have hil : i < l.length:=(List.getElem?_eq_some_iff.1 hx).1
   have hlt : ((l.map (spanOf d)).take i).length = i:=by rw [List.length_take];simp;omega
   have htx : (l.map (spanOf d)).take (i + 1) = (l.map (spanOf d)).take i ++ [spanOf d x]:=zto (by simp [hx])
   have hvals : Vals (scoresOf x.beds):=fun v hv=>by
    obtain ⟨y,hy,rfl⟩:=List.mem_map.1 hv
    have:=score_le (hsq y hy).1 (hsq y hy).2
    omega
   refine zb fun K hK=>?_;simp only [go_sem];apply hK
   refine ⟨rfl,fun C'=>?_⟩
   apply zw (zk [2,6,16]);simp only [go_sem];apply zd
   apply zq
   refine zb fun K hK=>?_;simp only [go_sem];apply hK
   repeat apply zq
   refine zb fun K hK=>?_;simp only [go_sem]
   intro _
   apply hK;apply zw (zk [2,6,7,16,21,22,23]);simp only [go_sem];refine zw (sub_own 7 32 3 1 (by omega) rfl) ?_
   try simp only [go_sem]
   apply zd
   refine zuv (n:=41) x.beds.length (fun k vs=>[(2,.pt 2 (vs 2) 0),(6,.pt 6 (vs 6) 0),(7,.os 32 (vs 32) 1 0 k),(16,.r (.fn 96 [.rp [i64 d,aimsR l]])),(21,.r (bedsR x.beds)),(22,.r (i64 x.beds.length)),(23,.r (i64 k))])
    (fun k vs=>[(0,.sus [.pt 2 (vs 2) 0,.r (.fn 96 [.rp [i64 d,aimsR l]])] us),(2,.box [.os 39 (vs 39) 2 0 i]),(6,.box [.r (i64 x.at_),.r (bedsR x.beds),.r (i64 d)]),(32,.arr 3 1 (((scoresOf x.beds).take k).map fun x=>[i64 x])),(39,.arr 48 2 (((l.map (spanOf d)).take i).map fun x=>[i64 x.1,i64 x.2]))])
    (fun _=>True) 0 (zj [] ?_ ?_) (Nat.zero_le _) trivial ?_
   · try simp only [go_sem]
   · try simp only [go_sem]
   · intro k vs hk _
     have hlk : ((scoresOf x.beds).take k).length = k:=by rw [List.length_take];simp [scoresOf];omega
     apply zq
     refine zb fun K hK=>?_;simp only [go_sem];apply hK
     apply zq
     apply zc rfl <;> intro hc <;> (try simp only [go_sem] at hc)
     · have hci:=hc
       obtain ⟨y,hy⟩:=zol hc
       have hsy:=hsq y (zmo hy)
       have htk : (scoresOf x.beds).take (k + 1) = (scoresOf x.beds).take k ++ [scoreOf y.b]:=zto (by simp [scoresOf,hy])
       apply zx
       apply zq
       apply zd
       apply zq
       refine zb fun K hK=>?_;simp only [go_sem,hy,hc,bedR];apply hK;apply zw (zk [2,6,7,9,16,21,22,23]);simp only [go_sem];refine zb fun K hK=>?_;simp only [go_sem,hlk]
       refine zh (score_ok y.b hsy.1 hsy.2) rfl (by simp only [go_sem,i64,ints,hlk]) (by simp only [go_sem,i64,ints,hlk]) ?_
       (try simp only [go_sem,hlk])
       refine ⟨by omega,?_⟩
       apply hK;apply zw (zk [2,6,7,16,21,22,23]);simp only [go_sem];refine zb fun K hK=>?_;simp only [go_sem];(try simp (disch:=omega) only [zI]);apply hK
       try simp only [go_sem]
       refine ⟨hci,zj [9] ?_ ?_⟩
       · try simp only [go_sem]
       · try simp only [go_sem]
         rw [htk]
         simp
     · apply zf;simp only [go_sem]
       have hkk : k = x.beds.length:=by omega
       subst hkk
       have e1 : (scoresOf x.beds).take x.beds.length = scoresOf x.beds:=List.take_of_length_le (by simp [scoresOf])
       rw [e1]
       have hvl : (scoresOf x.beds).length = x.beds.length:=by simp [scoresOf]
       refine zw (sub_frz (ty:=3) (sz:=1) (off:=0) (m:=x.beds.length) (es:=(scoresOf x.beds).map fun x=>[i64 x]) 7 32 (by omega) (by try simp only [go_sem]) (by try simp only [go_sem]) (by simp [hvl])) ?_
       have e2 : (((scoresOf x.beds).map fun x=>[i64 x]).drop 0).take x.beds.length = (scoresOf x.beds).map fun x=>[i64 x]:=by
        rw [List.drop_zero,List.take_of_length_le (by simp [hvl])]
       rw [e2]
       try simp only [go_sem]
       refine awp_dreg3 [(2,some 2),(6,some 6),(7,none)] [2,6] follows (by decide +kernel) (by kernel_rfl) (by simp only [keysOk,List.mem_cons,List.not_mem_nil,forall_eq_or_imp,Oc.keyOf,go_sem];simp) (by intro k hk;simp only [List.mem_cons,List.not_mem_nil,or_false] at hk;first | (subst hk;exact ⟨_,rfl⟩) | (rcases hk with rfl | rfl <;> exact ⟨_,rfl⟩) | (rcases hk with rfl | rfl | rfl <;> exact ⟨_,rfl⟩)) fun K hK=>?_
       simp only [go_sem,hlt]
       refine zh (mean_ok x.at_ x.beds d (scoresOf x.beds) hvl (by omega) k4 (by omega) k5 hvals) rfl (by simp only [go_sem,i64,ints,hlt]) (by simp only [go_sem,i64,ints,hlt]) ?_
       (try simp only [go_sem,hlt])
       refine ⟨by omega,?_⟩
       apply hK
       try simp only [go_sem]
       refine zj (F:=fun _=>[]) [6] (by try simp only [go_sem]) ?_
       try simp only [go_sem]
       rw [htx]
       simp [spanOf]
 · intro vs us _
   try simp only [go_sem]
   refine zw (sub_wake rfl) ?_
   apply zq
   refine zb fun K hK=>?_;simp only [go_sem];apply hK;apply ze;simp only [go_sem]
   have hel : (enumA d l).length = l.length:=by simp [enumA]
   rw [hel,h0]
   have e1 : (l.map (spanOf d)).take l.length = l.map (spanOf d):=List.take_of_length_le (by simp)
   rw [e1]
   refine ⟨⟨by simp,?_⟩,rfl⟩
   rw [List.take_of_length_le (by simp),spansV,if_pos h0]
end Go.Proofs.YtgfbenanljjgaaaGreat.Du.Th

namespace Go.Proofs.YtgfbenanljjgaaaGreat.Du
open Go Go.Oc
set_option maxRecDepth 8000
set_option maxHeartbeats 4000000
theorem span_mk (a b : Int) : ACalls Tryz.prog 35 [i64 a,i64 b] (.ag [i64 a,i64 b]):=by
 refine zas (rs:=[.ag [i64 a,i64 b]]) [.cell 4 48] Tryz.func35 rfl (by kernel_rfl) Tryz.ntmps35 rfl (by simp) rfl fun C vs=>?_
 apply zq
 refine zb fun K hK=>?_;simp only [go_sem];apply hK;clear hK K;apply zw (zk [0,1,4]);simp only [go_sem]
 apply zq
 refine zb fun K hK=>?_;simp only [go_sem];apply hK;clear hK K;apply zw (zk [4]);simp only [go_sem];apply ze;simp only [go_sem]
theorem pos_at {b : Int} : ∀ {L : List Bd} {j : Nat},j < posN b L → ∃ x,L[j]? = some x ∧ x.b ≤ b
 | [],j,h=>by simp [posN] at h
 | x :: L, j, h => by
   unfold posN at h
   by_cases c : x.b ≤ b
   · rw [if_pos c] at h
     cases j with
     | zero=>exact ⟨x,rfl,c⟩
     | succ j =>
       obtain ⟨y,hy,hyb⟩:=pos_at (b:=b) (L:=L) (j:=j) (by omega)
       exact ⟨y,by simpa using hy,hyb⟩
   · rw [if_neg c] at h;omega
theorem pos_end {b : Int} : ∀ {L : List Bd},posN b L = L.length ∨ ∃ x,L[posN b L]? = some x ∧ b < x.b
 | []=>.inl rfl
 | x :: L => by
   unfold posN
   by_cases c : x.b ≤ b
   · rw [if_pos c]
     rcases pos_end (b:=b) (L:=L) with h | ⟨y,hy,hyb⟩
     · left;simp [h]
     · right;exact ⟨y,by simpa using hy,hyb⟩
   · rw [if_neg c]
     right;exact ⟨x,rfl,by omega⟩
theorem pos_le {b : Int} : ∀ {L : List Bd},posN b L ≤ L.length
 | []=>Nat.le_refl _
 | x :: L=>by unfold posN;split <;> simp;exact pos_le
theorem seen_step {b : Int} {L : List Bd} {j : Nat} {x : Bd} (h : L[j]? = some x) : seenB b L (j + 1) = (seenB b L j || x.b == b):=by
 unfold seenB;rw [zto h];simp
def aimJ (d : Int) (A : List (List Nat)) (j : Nat) : Am:=if A.length = 0 then ⟨201,headD d []⟩ else scA d (A.getD j [])
def aimsJ (d : Int) (A : List (List Nat)) (i : Nat) : List Am:=(List.range i).map (aimJ d A)
theorem aimsJ_all (d : Int) (A : List (List Nat)) : aimsJ d A (if A.length = 0 then 1 else min 3 A.length) = scL d A:=by
 unfold aimsJ scL
 by_cases h : A.length = 0
 · rw [if_pos h,if_pos h];simp [aimJ,h]
 · rw [if_neg h,if_neg h]
   refine List.ext_getElem? fun i=>?_
   rw [List.getElem?_map,List.getElem?_map]
   by_cases hi : i < min 3 A.length
   · rw [List.getElem?_range hi,List.getElem?_take,if_pos (by omega),List.getElem?_eq_getElem (by omega)]
     simp [aimJ,h,List.getD_eq_getElem?_getD,List.getElem?_eq_getElem (show i < A.length by omega)]
   · rw [List.getElem?_eq_none (by simp;omega),List.getElem?_take]
     split
     · rw [List.getElem?_eq_none (by omega)];rfl
     · rfl
theorem fitV_subS {n : Nat} {F : (Nat → Nat) → List (Nat × AV)} {R : (Nat → Nat) → List (Nat × RowC)} {s s' : AS} (h : Sub s s') (hf : FitV n F R s') : FitV n F R s:=by
 obtain ⟨vs,hs⟩:=hf
 exact ⟨vs,fun C a w hw=>hs C a w (h C a w hw)⟩
def vI (b : Nat → Bool) (j : Nat) (v : AV) : AV:=if b j then v else .r .un
def sgF (A0 : RV) (i k P n : Nat) (lf lo hi bd : Int) (M : List (List RV)) (b : Nat → Bool) (vs : Nat → Nat) : List (Nat × AV) :=
 [(1,.r A0),(4,.pt 4 (vs 4) 0),(5,.pt 5 (vs 5) 0),(6,.r (i64 (i : Int))),(7,.pt 7 (vs 7) 0),(8,.r (i64 (bif b 19 then lf - lo else lf))),(9,.r (i64 (k : Int))),(11,.r (i64 (P : Int))),(14,.r (i64 lo)),(15,.r (.rp [i64 bd,i64 lo,i64 hi])),
  (119,vI b 0 (.r .ns)),
  (120,vI b 1 (.pt 7 (vs 7) 1)),
  (121,vI b 2 (.r (.sl 3 M))),
  (122,vI b 3 (.r (i64 (P : Int)))),
  (123,vI b 4 (.r (.sl 3 (M.take P)))),
  (124,vI b 5 (bif b 8 then .r .un else .os 124 (vs 124) 3 0 P)),
  (125,vI b 6 (.r (.ag [i64 bd,i64 lo,i64 hi]))),
  (126,vI b 7 (.r (.sl 3 [[i64 bd,i64 lo,i64 hi]]))),
  (127,vI b 8 (bif b 13 then .r .un else .os 124 (vs 124) 3 0 (P + 1))),
  (128,vI b 9 (.pt 7 (vs 7) 1)),
  (129,vI b 10 (.r (.sl 3 M))),
  (130,vI b 11 (.r (i64 (P : Int)))),
  (131,vI b 12 (.r (.sl 3 (M.drop P)))),
  (132,vI b 13 (.os 124 (vs 124) 3 0 (P + 1 + (n - P)))),
  (133,vI b 14 (.r (i64 lf))),
  (134,vI b 15 (.r (i64 lo))),
  (135,vI b 16 (.r (i64 (lf - lo)))),
  (136,vI b 17 (.pt 7 (vs 7) 1))]
def sgR (D i P n : Nat) (lo hi bd : Int) (M : List (List RV)) (JR : List (List RV)) (b : Nat → Bool) (vs : Nat → Nat) : List (Nat × RowC) :=
 [(4,.box [.r (i64 0),.r .ns]),(5,.box [.r (i64 (D : Int)),.os 155 (vs 155) 2 0 i]),(7,.box [.r (i64 201),bif b 18 then .os 124 (vs 124) 3 0 (P + 1 + (n - P)) else .r (.sl 3 M)])] ++
  ((bif b 5 then [(124,.arr 95 3 (bif b 8 then (bif b 13 then M.take P ++ ([i64 bd,i64 lo,i64 hi] :: M.drop P) else M.take P ++ [[i64 bd,i64 lo,i64 hi]]) else M.take P))] else []) ++ [(155,.arr 93 2 JR)])
theorem scatter_ok (den : Nat) (hd : den < 256) (A : List (List Nat)) (hA : ∀ a ∈ A,a.length = 12 ∧ ∀ n ∈ a,n < 256) :
 ACalls Tryz.prog 21 [u8Q den,.sl 12 (A.map fun a=>a.map u8Q)] (lawV ((4 + den % 60 : Nat) : Int) (scL ((4 + den % 60 : Nat) : Int) A)):=by
 have hmod:=Nat.mod_lt den (show 60 > 0 by omega)
 have k1 : IntKind.i64.wrap (den : Int) = den:=by rw [zI] <;> omega
 have k2 : Int.tmod (den : Int) 60 = ((den % 60 : Nat) : Int):=rfl
 have k3 : IntKind.i64.wrap (4 + ((den % 60 : Nat) : Int)) = ((4 + den % 60 : Nat) : Int):=by rw [zI] <;> omega
 generalize hD : 4 + den % 60 = D at *
 have hD64 : 4 ≤ D ∧ D < 64:=by omega
 refine zas (rs:=[lawV (D : Int) (scL (D : Int) A)]) [.cell 4 24] Tryz.func21 rfl (by kernel_rfl) Tryz.ntmps21 rfl (by simp) rfl fun C vs=>?_
 apply zq
 refine zb fun K hK=>?_;simp only [go_sem];apply hK;clear hK K;apply zw (zk [0,1,4]);simp only [go_sem]
 apply zq
 refine zb fun K hK=>?_;simp only [go_sem,k1,k2,k3];apply hK;clear hK K;refine zw (sub_ownB 5 1 155 93 2 (by omega) (by omega) rfl (by simp only [go_sem,List.getElem?_cons_succ,List.getElem?_cons_zero])) ?_;apply zw (zk [1,4,5]);simp only [go_sem]
 repeat apply zq
 refine zb fun K hK=>?_;simp only [go_sem];apply hK;clear hK K;apply zw (zk [1,4,5,6]);simp only [go_sem]
 obtain ⟨N,hN⟩ : ∃ N,N = if A.length = 0 then 1 else min 3 A.length:=⟨_,rfl⟩
 have hN3 : N ≤ 3:=by rw [hN];split <;> omega
 have hall:=aimsJ_all (D : Int) A
 rw [← hN] at hall
 apply zd
 refine zuv (n:=158) N (fun i vs=>[(1,.r (.sl 12 (A.map fun a=>a.map u8Q))),(4,.pt 4 (vs 4) 0),(5,.pt 5 (vs 5) 0),(6,.r (i64 (i : Int)))])
  (fun i vs=>[(4,.box [.r (i64 0),.r .ns]),(5,.box [.r (i64 (D : Int)),.os 155 (vs 155) 2 0 i]),(155,.arr 93 2 ((aimsJ (D : Int) A i).map aimR))]) (fun _=>True) 0 (zj [] ?_ ?_) (Nat.zero_le _) trivial ?_
 · try simp only [go_sem]
   try rfl
 · try simp only [go_sem]
   try rfl
 · intro i vs hi _
   by_cases hin : i < N
   · have hrec : aimsJ (D : Int) A (i + 1) = aimsJ (D : Int) A i ++ [aimJ (D : Int) A i]:=by simp [aimsJ,List.range_succ]
     have hjl : (aimsJ (D : Int) A i).length = i:=by simp [aimsJ]
     rw [hrec]
     generalize aimsJ (D : Int) A i = J at *
     repeat apply zq
     refine zaw (n:=158) (fun (_ : Unit) vs=>[(1,.r (.sl 12 (A.map fun a=>a.map u8Q))),(4,.pt 4 (vs 4) 0),(5,.pt 5 (vs 5) 0),(6,.r (i64 (i : Int))),(32,.r (.bo true))])
      (fun _ vs=>[(4,.box [.r (i64 0),.r .ns]),(5,.box [.r (i64 (D : Int)),.os 155 (vs 155) 2 0 i]),(155,.arr 93 2 (J.map aimR))]) (fun _=>True) (fun _ h=>h) ?_ ?_
     · by_cases hi0 : i = 0
       · subst hi0
         refine zb fun K hK=>?_;simp only [go_sem,beq_self_eq_true];apply hK;clear hK K
         try simp only [go_sem]
         refine ⟨(),zj [] ?_ ?_⟩
         · try simp only [go_sem]
         · try simp only [go_sem]
       · have q0 : ((i : Int) == 0) = false:=by rw [beq_eq_false_iff_ne];omega
         have q0' : (i == 0) = false:=by rw [beq_eq_false_iff_ne];omega
         have q1 : i < A.length:=by
          rw [hN] at hin
          split at hin <;> omega
         have q2 : decide ((i : Int) < 3) = true:=decide_eq_true (by rw [hN] at hin;split at hin <;> omega)
         refine zb fun K hK=>?_;simp only [go_sem,q0,q0',q1,q2,List.length_map]
         intro _
         apply hK;clear hK K
         try simp only [go_sem]
         refine ⟨(),zj [] ?_ ?_⟩
         · try simp only [go_sem]
         · try simp only [go_sem]
     intro _ vs _
     apply zc rfl <;> intro hc <;> (try simp only [go_sem] at hc)
     apply zx
     try simp only [go_sem]
     apply zq
     apply zd
     apply zq
     refine awp_dreg2 [(5,some 5)] follows (by decide +kernel) (by kernel_rfl) (by simp only [keysOk,List.mem_cons,List.not_mem_nil,forall_eq_or_imp,Oc.keyOf,go_sem];simp) fun K hK=>?_
     simp only [go_sem];apply hK;clear hK K;refine zw (sub_ownB 7 1 124 95 3 (by omega) (by omega) rfl (by simp only [go_sem,List.getElem?_cons_succ,List.getElem?_cons_zero])) ?_;apply zw (zk [1,4,5,6,7,8]);simp only [go_sem]
     repeat apply zq
     refine zb fun K hK=>?_;simp only [go_sem];apply hK;clear hK K;apply zw (zk [1,4,5,6,7,8,9]);simp only [go_sem]
     obtain ⟨a,ha⟩ : ∃ a : List Nat,a = A.getD i []:=⟨_,rfl⟩
     obtain ⟨Kn,hK⟩ : ∃ Kn : Nat,Kn = if A.length = 0 then 0 else 4:=⟨_,rfl⟩
     have haj : aimJ (D : Int) A i = ⟨201,headD (D : Int) (scF (D : Int) a Kn).1⟩:=by
      unfold aimJ
      by_cases h : A.length = 0
      · rw [if_pos h,hK,if_pos h];rfl
      · rw [if_neg h,hK,if_neg h,ha];rfl
     have hab : A.length ≠ 0 → i < A.length ∧ A[i]? = some a ∧ a.length = 12 ∧ ∀ n ∈ a,n < 256:=fun h=>by
      have hil : i < A.length:=by rw [hN] at hin;split at hin <;> omega
      obtain ⟨y,hy⟩:=zol hil
      have : a = y:=by rw [ha,List.getD_eq_getElem?_getD,hy];rfl
      subst this
      obtain ⟨z1,z2⟩:=hA a (zmo hy)
      exact ⟨hil,hy,z1,z2⟩
     have hK4 : Kn ≤ 4:=by rw [hK];split <;> omega
     have hI : ∀ k,k ≤ Kn → ScI (D : Int) (scF (D : Int) a k):=fun k hk=>by
      by_cases h : A.length = 0
      · rw [hK,if_pos h] at hk
        have : k = 0:=by omega
        subst this
        exact scF_ok (by omega) (a:=[]) (by simp) 0
      · exact scF_ok (by omega) (hab h).2.2.2 k
     have hlen:=scF_len (d:=(D : Int)) a
     rw [haj]
     refine zaw (n:=158) (fun (_ : Unit) vs=>[(1,.r (.sl 12 (A.map fun a=>a.map u8Q))),(4,.pt 4 (vs 4) 0),(5,.pt 5 (vs 5) 0),(6,.r (i64 (i : Int))),(7,.pt 7 (vs 7) 0)])
      (fun _ vs=>[(4,.box [.r (i64 0),.r .ns]),(5,.box [.r (i64 (D : Int)),.os 155 (vs 155) 2 0 i]),(7,.box [.r (i64 201),.os 124 (vs 124) 3 0 (scF (D : Int) a Kn).1.length]),(124,.arr 95 3 ((scF (D : Int) a Kn).1.map bedR)),(155,.arr 93 2 (J.map aimR))]) (fun _=>True) (fun _ h=>h) ?_ ?_
     · generalize J.map aimR = JR at *
       apply zd
       refine zuv (n:=158) Kn (fun k vs=>[(1,.r (.sl 12 (A.map fun a=>a.map u8Q))),(4,.pt 4 (vs 4) 0),(5,.pt 5 (vs 5) 0),(6,.r (i64 (i : Int))),(7,.pt 7 (vs 7) 0),(8,.r (i64 (scF (D : Int) a k).2)),(9,.r (i64 (k : Int)))])
        (fun k vs=>[(4,.box [.r (i64 0),.r .ns]),(5,.box [.r (i64 (D : Int)),.os 155 (vs 155) 2 0 i]),(7,.box [.r (i64 201),.os 124 (vs 124) 3 0 (scF (D : Int) a k).1.length]),(124,.arr 95 3 ((scF (D : Int) a k).1.map bedR)),(155,.arr 93 2 JR)]) (fun _=>True) 0 (zj [] ?_ ?_) (Nat.zero_le _) trivial ?_
       · try simp only [go_sem]
         try rfl
       · try simp only [go_sem]
         try rfl
       · intro k vs hk _
         by_cases hkn : k < Kn
         · have hA0 : A.length ≠ 0:=fun h=>by rw [hK,if_pos h] at hkn;omega
           obtain ⟨hil,hai,ha12,ha256⟩:=hab hA0
           have hk4 : k < 4:=by omega
           have g1 : decide ((k : Int) < 4) = true:=decide_eq_true (by omega)
           have hIk:=hI k (by omega)
           have hlk:=hlen k
           have hsF : scF (D : Int) a (k + 1) = scS (D : Int) (scF (D : Int) a k) (triK a k):=rfl
           rw [hsF]
           obtain ⟨x0,hx0⟩:=zol (l:=a) (i:=3 * k) (by omega)
           obtain ⟨x1,hx1⟩:=zol (l:=a) (i:=3 * k + 1) (by omega)
           obtain ⟨x2,hx2⟩:=zol (l:=a) (i:=3 * k + 2) (by omega)
           have htri : triK a k = (x0,x1,x2):=by
            unfold triK
            rw [List.getD_eq_getElem?_getD,List.getD_eq_getElem?_getD,List.getD_eq_getElem?_getD,hx0,hx1,hx2];rfl
           have b0:=ha256 x0 (zmo hx0)
           have b1:=ha256 x1 (zmo hx1)
           have b2:=ha256 x2 (zmo hx2)
           have hcell : List.take 3 (List.drop (k * 3) (a.map u8Q)) = [u8Q x0,u8Q x1,u8Q x2]:=by
            rw [Nat.mul_comm k 3,drop_of_opt (l:=a.map u8Q) (i:=3 * k) (x:=u8Q x0) (by rw [List.getElem?_map,hx0];rfl),
             drop_of_opt (l:=a.map u8Q) (i:=3 * k + 1) (x:=u8Q x1) (by rw [List.getElem?_map,hx1];rfl),drop_of_opt (l:=a.map u8Q) (i:=3 * k + 1 + 1) (x:=u8Q x2) (by rw [List.getElem?_map,hx2];rfl)]
            rfl
           rw [htri]
           generalize scF (D : Int) a k = S at *
           obtain ⟨L,lf⟩:=S
           simp only at hlk hIk ⊢
           repeat apply zq
           refine zb fun K hK=>?_;simp only [go_sem,g1,hil,List.length_map]
           intro _
           apply hK;clear hK K;apply zw (zk [1,4,5,6,7,8,9,45]);simp only [go_sem]
           apply zc rfl <;> intro hc <;> (try simp only [go_sem] at hc)
           apply zx
           try simp only [go_sem]
           apply zq
           apply zd
           apply zq
           refine zb fun K hK=>?_;simp only [go_sem,hai,hil,hcell,ha12,List.length_map]
           repeat refine ⟨by omega,?_⟩
           apply hK;clear hK K;refine zw (zfP 10 10 [u8Q x0,u8Q x1,u8Q x2] (by omega) rfl rfl) ?_;apply zw (zk [1,4,5,6,7,8,9,10,11,12]);simp only [go_sem]
           have e1 : IntKind.i64.wrap (x0 : Int) = x0:=by rw [zI] <;> omega
           have e2 : Int.tmod (x0 : Int) 3 = ((x0 % 3 : Nat) : Int):=rfl
           have n3:=Nat.mod_lt x0 (show 3 > 0 by omega)
           have n10:=Nat.mod_lt (x0 / 3) (show 10 > 0 by omega)
           have e3 : IntKind.i64.wrap (1 + ((x0 % 3 : Nat) : Int)) = ((1 + x0 % 3 : Nat) : Int):=by rw [zI] <;> omega
           have e4 : IntKind.i64.wrap (100 * ((1 + x0 % 3 : Nat) : Int)) = ((100 * (1 + x0 % 3) : Nat) : Int):=by rw [zI] <;> omega
           have e5 : IntKind.i64.wrap (((100 * (1 + x0 % 3) : Nat) : Int) + 1) = ((100 * (1 + x0 % 3) + 1 : Nat) : Int):=by rw [zI] <;> omega
           have e6 : Int.tdiv (x0 : Int) 3 = ((x0 / 3 : Nat) : Int):=rfl
           have e6w : IntKind.i64.wrap ((x0 / 3 : Nat) : Int) = ((x0 / 3 : Nat) : Int):=by rw [zI] <;> omega
           have e7 : Int.tmod ((x0 / 3 : Nat) : Int) 10 = ((x0 / 3 % 10 : Nat) : Int):=rfl
           have e8 : IntKind.i64.wrap (((100 * (1 + x0 % 3) + 1 : Nat) : Int) + ((x0 / 3 % 10 : Nat) : Int)) = ((100 * (1 + x0 % 3) + 1 + x0 / 3 % 10 : Nat) : Int):=by rw [zI] <;> omega
           have e9 : Int.tmod (x0 : Int) 16 = ((x0 % 16 : Nat) : Int):=rfl
           have n16:=Nat.mod_lt x0 (show 16 > 0 by omega)
           have e10 : IntKind.u8.wrap ((x0 % 16 : Nat) : Int) = ((x0 % 16 : Nat) : Int):=by
            have : ∀ q : Nat,q < 16 → IntKind.u8.wrap (q : Int) = (q : Int):=by decide
            exact this _ n16
           apply zq
           refine zb fun K hK=>?_;simp only [go_sem,e1,e2,e3,e4,e5,e6,e6w,e7,e8];(try simp (disch:=omega) only [zI]);apply hK;clear hK K;apply zw (zk [1,4,5,6,7,8,9,10,11,12,13]);simp only [go_sem]
           obtain ⟨bd,hbd⟩ : ∃ bd : Nat,bd = bedN x0:=⟨_,rfl⟩
           have hbd0 : bd = if x0 % 16 = 0 then 0 else 100 * (1 + x0 % 3) + 1 + x0 / 3 % 10:=by rw [hbd];rfl
           have hbl : bd < 500:=by rw [hbd0];split <;> omega
           repeat apply zq
           refine zb fun K hK=>?_;simp only [go_sem,e9,e10];apply hK;clear hK K;apply zw (zk [1,4,5,6,7,8,9,10,11,12,13,70]);simp only [go_sem]
           refine zaw (n:=158) (fun (_ : Unit) vs=>[(1,.r (.sl 12 (A.map fun a=>a.map u8Q))),(4,.pt 4 (vs 4) 0),(5,.pt 5 (vs 5) 0),(6,.r (i64 (i : Int))),(7,.pt 7 (vs 7) 0),(8,.r (i64 lf)),(9,.r (i64 (k : Int))),(10,.r (.rp [u8Q x0,u8Q x1,u8Q x2])),(11,.r (i64 0)),(12,.r (.bo false)),(13,.r (i64 (bd : Int)))])
            (fun _ vs=>[(4,.box [.r (i64 0),.r .ns]),(5,.box [.r (i64 (D : Int)),.os 155 (vs 155) 2 0 i]),(7,.box [.r (i64 201),.os 124 (vs 124) 3 0 L.length]),(124,.arr 95 3 (L.map bedR)),(155,.arr 93 2 JR)]) (fun _=>True) (fun _ h=>h) ?_ ?_
           · by_cases h16 : x0 % 16 = 0
             · have z1 : (((x0 % 16 : Nat) : Int) == 0) = true:=by rw [h16];rfl
               try rw [z1]
               rw [hbd0,if_pos h16]
               apply zc rfl <;> intro hc <;> (try simp only [go_sem] at hc)
               refine zb fun K hK=>?_;simp only [go_sem];apply hK;clear hK K
               try simp only [go_sem]
               refine ⟨(),zj [] ?_ ?_⟩
               · try simp only [go_sem]
                 try rfl
               · try simp only [go_sem]
             · have z1 : (((x0 % 16 : Nat) : Int) == 0) = false:=by rw [beq_eq_false_iff_ne];omega
               try rw [z1]
               rw [hbd0,if_neg h16]
               apply zc rfl <;> intro hc <;> (try simp only [go_sem] at hc)
               apply zx
               try simp only [go_sem]
               refine ⟨(),zj [] ?_ ?_⟩
               · try simp only [go_sem]
                 try rfl
               · try simp only [go_sem]
           intro _ vs _
           apply zq
           refine zaw (n:=158) (fun (_ : Unit) vs=>[(1,.r (.sl 12 (A.map fun a=>a.map u8Q))),(4,.pt 4 (vs 4) 0),(5,.pt 5 (vs 5) 0),(6,.r (i64 (i : Int))),(7,.pt 7 (vs 7) 0),(8,.r (i64 lf)),(9,.r (i64 (k : Int))),(10,.r (.rp [u8Q x0,u8Q x1,u8Q x2])),(11,.r (i64 (posN bd L : Int))),(12,.r (.bo (seenB bd L (posN bd L)))),(13,.r (i64 (bd : Int)))])
            (fun _ vs=>[(4,.box [.r (i64 0),.r .ns]),(5,.box [.r (i64 (D : Int)),.os 155 (vs 155) 2 0 i]),(7,.box [.r (i64 201),.os 124 (vs 124) 3 0 L.length]),(124,.arr 95 3 (L.map bedR)),(155,.arr 93 2 JR)]) (fun _=>True) (fun _ h=>h) ?_ ?_
           · skip
             apply zd
             refine zuv (n:=158) (posN bd L) (fun j vs=>[(1,.r (.sl 12 (A.map fun a=>a.map u8Q))),(4,.pt 4 (vs 4) 0),(5,.pt 5 (vs 5) 0),(6,.r (i64 (i : Int))),(7,.pt 7 (vs 7) 0),(8,.r (i64 lf)),(9,.r (i64 (k : Int))),(10,.r (.rp [u8Q x0,u8Q x1,u8Q x2])),(11,.r (i64 (j : Int))),(12,.r (.bo (seenB bd L j))),(13,.r (i64 (bd : Int)))])
              (fun j vs=>[(4,.box [.r (i64 0),.r .ns]),(5,.box [.r (i64 (D : Int)),.os 155 (vs 155) 2 0 i]),(7,.box [.r (i64 201),.os 124 (vs 124) 3 0 L.length]),(124,.arr 95 3 (L.map bedR)),(155,.arr 93 2 JR)]) (fun _=>True) 0 (zj [] ?_ ?_) (Nat.zero_le _) trivial ?_
             · try simp only [go_sem]
               try rfl
             · try simp only [go_sem]
             · intro j vs hj _
               have hpl:=pos_le (b:=(bd : Int)) (L:=L)
               by_cases hjn : j < posN bd L
               · obtain ⟨y,hy,hyb⟩:=pos_at hjn
                 have hjl : j < L.length:=by omega
                 have d1 : decide (y.b ≤ (bd : Int)) = true:=decide_eq_true hyb
                 rw [seen_step hy]
                 repeat apply zq
                 refine zb fun K hK=>?_;simp only [go_sem,hy,hjl,d1,bedR,List.length_map]
                 intro _
                 apply hK;clear hK K;apply zw (zk [1,4,5,6,7,8,9,10,11,12,13,85]);simp only [go_sem]
                 apply zc rfl <;> intro hc <;> (try simp only [go_sem] at hc)
                 apply zx
                 try simp only [go_sem]
                 apply zd
                 cases hse : seenB bd L j with
                 | true =>
                   apply zq
                   refine zb fun K hK=>?_;simp only [go_sem];apply hK;clear hK K;apply zw (zk [1,4,5,6,7,8,9,10,11,12,13]);simp only [go_sem];refine zb fun K hK=>?_;simp only [go_sem];(try simp (disch:=omega) only [zI]);apply hK;clear hK K
                   try simp only [go_sem]
                   refine ⟨by omega,zj [] ?_ ?_⟩
                   · try simp only [go_sem]
                   · try simp only [go_sem]
                 | false =>
                   apply zq
                   refine zb fun K hK=>?_;simp only [go_sem,hy,hjl,bedR,List.length_map];apply hK;clear hK K;apply zw (zk [1,4,5,6,7,8,9,10,11,12,13]);simp only [go_sem];refine zb fun K hK=>?_;simp only [go_sem];(try simp (disch:=omega) only [zI]);apply hK;clear hK K
                   try simp only [go_sem]
                   refine ⟨by omega,zj [] ?_ ?_⟩
                   · try simp only [go_sem]
                   · try simp only [go_sem]
               · have hjp : j = posN bd L:=by omega
                 subst hjp
                 rcases pos_end (b:=(bd : Int)) (L:=L) with hpe | ⟨y,hy,hyb⟩
                 · have hnl : ¬ posN bd L < L.length:=by omega
                   repeat apply zq
                   refine zb fun K hK=>?_;simp only [go_sem,hnl,List.length_map]
                   intro _
                   apply hK;clear hK K;apply zw (zk [1,4,5,6,7,8,9,10,11,12,13,85]);simp only [go_sem]
                   apply zc rfl <;> intro hc <;> (try simp only [go_sem] at hc)
                   apply zf;simp only [go_sem]
                   refine ⟨(),zj [] ?_ ?_⟩
                   · try simp only [go_sem]
                   · try simp only [go_sem]
                 · have hjl : posN bd L < L.length:=(List.getElem?_eq_some_iff.1 hy).1
                   have d1 : decide (y.b ≤ (bd : Int)) = false:=decide_eq_false (by omega)
                   repeat apply zq
                   refine zb fun K hK=>?_;simp only [go_sem,hy,hjl,d1,bedR,List.length_map]
                   intro _
                   apply hK;clear hK K;apply zw (zk [1,4,5,6,7,8,9,10,11,12,13,85]);simp only [go_sem]
                   apply zc rfl <;> intro hc <;> (try simp only [go_sem] at hc)
                   apply zf;simp only [go_sem]
                   refine ⟨(),zj [] ?_ ?_⟩
                   · try simp only [go_sem]
                   · try simp only [go_sem]
           intro _ vs _
           have hps:=pos_le (b:=(bd : Int)) (L:=L)
           have hscS : scS (D : Int) (L,lf) (x0,x1,x2) = if seenB bd L (posN bd L) then (L,lf) else (L.take (posN bd L) ++ [⟨(bd : Int),lf * (x1 : Int) / 512,min (D : Int) (lf * (x1 : Int) / 512 + ((x2 % 20 : Nat) : Int))⟩] ++ L.drop (posN bd L),lf - lf * (x1 : Int) / 512):=by
            unfold scS scN
            simp only [← hbd]
           rw [hscS]
           generalize posN bd L = P at *
           cases hse : seenB bd L P with
           | true =>
             rw [if_pos rfl]
             repeat apply zq
             refine zb fun K hK=>?_;simp only [go_sem];apply hK;clear hK K;apply zw (zk [1,4,5,6,7,8,9,10,11,13,99]);simp only [go_sem]
             apply zc rfl <;> intro hc <;> (try simp only [go_sem] at hc)
             apply zf;simp only [go_sem];refine zb fun K hK=>?_;simp only [go_sem];(try simp (disch:=omega) only [zI]);apply hK;clear hK K
             try simp only [go_sem]
             refine ⟨by omega,zj [] ?_ ?_⟩
             · try simp only [go_sem]
             · try simp only [go_sem]
           | false =>
             rw [if_neg (by simp)]
             repeat apply zq
             refine zb fun K hK=>?_;simp only [go_sem];apply hK;clear hK K;apply zw (zk [1,4,5,6,7,8,9,10,11,13,99]);simp only [go_sem]
             apply zc rfl <;> intro hc <;> (try simp only [go_sem] at hc)
             apply zx
             try simp only [go_sem]
             have hl1:=hIk.left
             simp only at hl1
             have f1 : IntKind.i64.wrap (x1 : Int) = x1:=by rw [zI] <;> omega
             have f2:=Int.mul_nonneg hl1.1 (show (0 : Int) ≤ x1 by omega)
             have f3 : lf * (x1 : Int) ≤ lf * 255:=Int.mul_le_mul_of_nonneg_left (by omega) hl1.1
             have f4 : IntKind.i64.wrap (lf * (x1 : Int)) = lf * (x1 : Int):=by rw [zI] <;> omega
             have f5 : Int.tdiv (lf * (x1 : Int)) 512 = lf * (x1 : Int) / 512:=Int.tdiv_eq_ediv_of_nonneg f2
             have f6 : 0 ≤ lf * (x1 : Int) / 512 ∧ lf * (x1 : Int) / 512 ≤ 64:=⟨by omega,by omega⟩
             generalize lf * (x1 : Int) / 512 = lo at *
             have f7 : IntKind.i64.wrap lo = lo:=by rw [zI] <;> omega
             have f8 : IntKind.i64.wrap (x2 : Int) = x2:=by rw [zI] <;> omega
             have f9 : Int.tmod (x2 : Int) 20 = ((x2 % 20 : Nat) : Int):=rfl
             have n20:=Nat.mod_lt x2 (show 20 > 0 by omega)
             generalize x2 % 20 = y2 at *
             have f10 : IntKind.i64.wrap (lo + (y2 : Int)) = lo + (y2 : Int):=by rw [zI] <;> omega
             have hsm:=span_mk lo (min (D : Int) (lo + (y2 : Int)))
             apply zq
             refine zb fun K hK=>?_;simp only [go_sem,f1,f4,f5,f7];apply hK;clear hK K;apply zw (zk [1,4,5,6,7,8,9,10,11,13,14]);simp only [go_sem]
             apply zq
             refine zb fun K hK=>?_;simp only [go_sem,f8,f9,f10]
             refine zh (hsm) rfl (by simp only [go_sem,i64,ints]) (by simp only [go_sem,i64,ints]) ?_
             (try simp only [go_sem]);apply hK;clear hK K;refine zw (zfP 15 15 [i64 (bd : Int),i64 lo,i64 (min (D : Int) (lo + (y2 : Int)))] (by omega) rfl rfl) ?_;apply zw (zk [1,4,5,6,7,8,9,11,14,15]);simp only [go_sem];refine zw (sub_frzB 7 1 124 (ty:=95) (sz:=3) (off:=0) (m:=L.length) (es:=L.map bedR) (by omega) (by omega) rfl (by simp only [go_sem,List.getElem?_cons_succ,List.getElem?_cons_zero]) (by rfl) (by simp)) ?_;apply zw (zk [1,4,5,6,7,8,9,11,14,15]);simp only [go_sem]
             have f11 : IntKind.i64.wrap (lf - lo) = lf - lo:=by rw [zI] <;> omega
             have f12 : min P L.length = P:=by omega
             generalize hM : L.map bedR = M at *
             have hMl : M.length = L.length:=by rw [← hM,List.length_map]
             have hMt : List.take L.length M = M:=List.take_of_length_le (by omega)
             refine awp_inv (n:=158) (sgF (.sl 12 (A.map fun a=>a.map u8Q)) i k P L.length lf lo (min (D : Int) (lo + (y2 : Int))) (bd : Int) M) (sgR D i P L.length lo (min (D : Int) (lo + (y2 : Int))) (bd : Int) M JR) follows (by kernel_rfl) (by kernel_rfl) (by decide +kernel) (zj [] ?_ ?_) ?_ ?_
             · simp only [go_sem,sgF,vI,if_true,if_false,Bool.false_eq_true,cond_false]
             · simp only [go_sem,sgR,cond_false,List.cons_append,List.nil_append]
             · refine ⟨fun b vs hdn hbk hde=>?_,fun b vs hdn hbk hde=>?_,fun b vs hdn hbk hde=>?_,fun b vs hdn hbk hde=>?_,fun b vs hdn hbk hde=>?_,fun b vs hdn hbk hde=>?_,fun b vs hdn hbk hde=>?_,fun b vs hdn hbk hde=>?_,fun b vs hdn hbk hde=>?_,fun b vs hdn hbk hde=>?_,fun b vs hdn hbk hde=>?_,fun b vs hdn hbk hde=>?_,fun b vs hdn hbk hde=>?_,fun b vs hdn hbk hde=>?_,fun b vs hdn hbk hde=>?_,fun b vs hdn hbk hde=>?_,fun b vs hdn hbk hde=>?_,fun b vs hdn hbk hde=>?_,fun b vs hdn hbk hde=>?_,fun b vs hdn hbk hde=>?_,trivial⟩
               · skip
                 have G:=dnT hdn hbk [5,17,18,19,8,13] (by decide +kernel)
                 simp only [allB,and_true] at G
                 (simp only [go_sem,sgF,sgR,upd,vI,if_true,if_false,hbk,G,hMl,hps,f11,f12,List.length_append,List.length_take,List.length_drop,List.length_cons,List.length_nil,List.drop_zero,Nat.sub_zero,List.append_assoc,hMt,List.cons_append,List.nil_append])
                 all_goals (refine zj [] ?_ ?_ <;> (simp only [go_sem,sgF,sgR,upd,vI,if_true,if_false,hbk,G,hMl,hps,f11,f12,List.length_append,List.length_take,List.length_drop,List.length_cons,List.length_nil,List.drop_zero,Nat.sub_zero,List.append_assoc,hMt,List.cons_append,List.nil_append]))
               · skip
                 have G:=dnT hdn hbk [2,17,18,19,4,5,8,13] (by decide +kernel)
                 simp only [allB,and_true] at G
                 (simp only [go_sem,sgF,sgR,upd,vI,if_true,if_false,hbk,G,hMl,hps,f11,f12,List.length_append,List.length_take,List.length_drop,List.length_cons,List.length_nil,List.drop_zero,Nat.sub_zero,List.append_assoc,hMt,List.cons_append,List.nil_append])
                 all_goals (refine zj [] ?_ ?_ <;> (simp only [go_sem,sgF,sgR,upd,vI,if_true,if_false,hbk,G,hMl,hps,f11,f12,List.length_append,List.length_take,List.length_drop,List.length_cons,List.length_nil,List.drop_zero,Nat.sub_zero,List.append_assoc,hMt,List.cons_append,List.nil_append]))
               · skip
                 have H:=upT hdn hde [1] (by decide +kernel)
                 have G:=dnT hdn hbk [4,17,18,19,5,8,13] (by decide +kernel)
                 simp only [allB,and_true] at H G
                 (simp only [go_sem,sgF,sgR,upd,vI,if_true,if_false,hbk,H,G,hMl,hps,f11,f12,List.length_append,List.length_take,List.length_drop,List.length_cons,List.length_nil,List.drop_zero,Nat.sub_zero,List.append_assoc,hMt,List.cons_append,List.nil_append])
                 all_goals (refine zj [] ?_ ?_ <;> (simp only [go_sem,sgF,sgR,upd,vI,if_true,if_false,hbk,H,G,hMl,hps,f11,f12,List.length_append,List.length_take,List.length_drop,List.length_cons,List.length_nil,List.drop_zero,Nat.sub_zero,List.append_assoc,hMt,List.cons_append,List.nil_append]))
               · skip
                 have G:=dnT hdn hbk [4,17,18,19,5,8,13] (by decide +kernel)
                 simp only [allB,and_true] at G
                 (simp only [go_sem,sgF,sgR,upd,vI,if_true,if_false,hbk,G,hMl,hps,f11,f12,List.length_append,List.length_take,List.length_drop,List.length_cons,List.length_nil,List.drop_zero,Nat.sub_zero,List.append_assoc,hMt,List.cons_append,List.nil_append])
                 all_goals (refine zj [] ?_ ?_ <;> (simp only [go_sem,sgF,sgR,upd,vI,if_true,if_false,hbk,G,hMl,hps,f11,f12,List.length_append,List.length_take,List.length_drop,List.length_cons,List.length_nil,List.drop_zero,Nat.sub_zero,List.append_assoc,hMt,List.cons_append,List.nil_append]))
               · skip
                 have H:=upT hdn hde [2,3,1] (by decide +kernel)
                 have G:=dnT hdn hbk [5,17,18,19,8,13] (by decide +kernel)
                 simp only [allB,and_true] at H G
                 (simp only [go_sem,sgF,sgR,upd,vI,if_true,if_false,hbk,H,G,hMl,hps,f11,f12,List.length_append,List.length_take,List.length_drop,List.length_cons,List.length_nil,List.drop_zero,Nat.sub_zero,List.append_assoc,hMt,List.cons_append,List.nil_append])
                 all_goals (refine zj [] ?_ ?_ <;> (simp only [go_sem,sgF,sgR,upd,vI,if_true,if_false,hbk,H,G,hMl,hps,f11,f12,List.length_append,List.length_take,List.length_drop,List.length_cons,List.length_nil,List.drop_zero,Nat.sub_zero,List.append_assoc,hMt,List.cons_append,List.nil_append]))
               · skip
                 have H:=upT hdn hde [0,4,2,3,1] (by decide +kernel)
                 have G:=dnT hdn hbk [8,17,18,19,13] (by decide +kernel)
                 simp only [allB,and_true] at H G
                 (simp only [go_sem,sgF,sgR,upd,vI,if_true,if_false,hbk,H,G,hMl,hps,f11,f12,List.length_append,List.length_take,List.length_drop,List.length_cons,List.length_nil,List.drop_zero,Nat.sub_zero,List.append_assoc,hMt,List.cons_append,List.nil_append])
                 all_goals (try refine ⟨⟨by omega,by omega⟩,?_⟩)
                 all_goals (refine zj [] ?_ ?_ <;> (simp only [go_sem,sgF,sgR,upd,vI,if_true,if_false,hbk,H,G,hMl,hps,f11,f12,List.length_append,List.length_take,List.length_drop,List.length_cons,List.length_nil,List.drop_zero,Nat.sub_zero,List.append_assoc,hMt,List.cons_append,List.nil_append]))
               · skip
                 have G:=dnT hdn hbk [7,17,18,19,8,13] (by decide +kernel)
                 simp only [allB,and_true] at G
                 cases g5 : b 5
                 all_goals (simp only [go_sem,sgF,sgR,upd,vI,if_true,if_false,hbk,G,g5,hMl,hps,f11,f12,List.length_append,List.length_take,List.length_drop,List.length_cons,List.length_nil,List.drop_zero,Nat.sub_zero,List.append_assoc,hMt,List.cons_append,List.nil_append])
                 all_goals (refine zj [] ?_ ?_ <;> (simp only [go_sem,sgF,sgR,upd,vI,if_true,if_false,hbk,G,g5,hMl,hps,f11,f12,List.length_append,List.length_take,List.length_drop,List.length_cons,List.length_nil,List.drop_zero,Nat.sub_zero,List.append_assoc,hMt,List.cons_append,List.nil_append]))
               · skip
                 have H:=upT hdn hde [6] (by decide +kernel)
                 have G:=dnT hdn hbk [8,17,18,19,13] (by decide +kernel)
                 simp only [allB,and_true] at H G
                 cases g5 : b 5
                 all_goals (simp only [go_sem,sgF,sgR,upd,vI,if_true,if_false,hbk,H,G,g5,hMl,hps,f11,f12,List.length_append,List.length_take,List.length_drop,List.length_cons,List.length_nil,List.drop_zero,Nat.sub_zero,List.append_assoc,hMt,List.cons_append,List.nil_append])
                 all_goals (refine zj [] ?_ ?_ <;> (simp only [go_sem,sgF,sgR,upd,vI,if_true,if_false,hbk,H,G,g5,hMl,hps,f11,f12,List.length_append,List.length_take,List.length_drop,List.length_cons,List.length_nil,List.drop_zero,Nat.sub_zero,List.append_assoc,hMt,List.cons_append,List.nil_append]))
               · skip
                 have H:=upT hdn hde [5,5,7,0,4,6,2,3,1] (by decide +kernel)
                 have G:=dnT hdn hbk [13,17,18,19] (by decide +kernel)
                 simp only [allB,and_true] at H G
                 (simp only [go_sem,sgF,sgR,upd,vI,if_true,if_false,hbk,H,G,hMl,hps,f11,f12,List.length_append,List.length_take,List.length_drop,List.length_cons,List.length_nil,List.drop_zero,Nat.sub_zero,List.append_assoc,hMt,List.cons_append,List.nil_append])
                 all_goals (try refine ⟨⟨by omega,by omega⟩,?_⟩)
                 all_goals refine fitV_subS (zk [1,4,5,6,7,8,9,11,14,15,119,120,121,122,123,125,126,127,128,129,130,131,132,133,134,135,136]) ?_
                 all_goals simp only [go_sem]
                 all_goals (refine zj [] ?_ ?_ <;> (simp only [go_sem,sgF,sgR,upd,vI,if_true,if_false,hbk,H,G,hMl,hps,f11,f12,List.length_append,List.length_take,List.length_drop,List.length_cons,List.length_nil,List.drop_zero,Nat.sub_zero,List.append_assoc,hMt,List.cons_append,List.nil_append]))
               · skip
                 have G:=dnT hdn hbk [10,17,18,19,12,13] (by decide +kernel)
                 simp only [allB,and_true] at G
                 cases g5 : b 5 <;> cases g8 : b 8
                 all_goals (simp only [go_sem,sgF,sgR,upd,vI,if_true,if_false,hbk,G,g5,g8,hMl,hps,f11,f12,List.length_append,List.length_take,List.length_drop,List.length_cons,List.length_nil,List.drop_zero,Nat.sub_zero,List.append_assoc,hMt,List.cons_append,List.nil_append])
                 all_goals (refine zj [] ?_ ?_ <;> (simp only [go_sem,sgF,sgR,upd,vI,if_true,if_false,hbk,G,g5,g8,hMl,hps,f11,f12,List.length_append,List.length_take,List.length_drop,List.length_cons,List.length_nil,List.drop_zero,Nat.sub_zero,List.append_assoc,hMt,List.cons_append,List.nil_append]))
               · skip
                 have H:=upT hdn hde [9] (by decide +kernel)
                 have G:=dnT hdn hbk [12,17,18,19,13] (by decide +kernel)
                 simp only [allB,and_true] at H G
                 cases g5 : b 5 <;> cases g8 : b 8
                 all_goals (simp only [go_sem,sgF,sgR,upd,vI,if_true,if_false,hbk,H,G,g5,g8,hMl,hps,f11,f12,List.length_append,List.length_take,List.length_drop,List.length_cons,List.length_nil,List.drop_zero,Nat.sub_zero,List.append_assoc,hMt,List.cons_append,List.nil_append])
                 all_goals (refine zj [] ?_ ?_ <;> (simp only [go_sem,sgF,sgR,upd,vI,if_true,if_false,hbk,H,G,g5,g8,hMl,hps,f11,f12,List.length_append,List.length_take,List.length_drop,List.length_cons,List.length_nil,List.drop_zero,Nat.sub_zero,List.append_assoc,hMt,List.cons_append,List.nil_append]))
               · skip
                 have G:=dnT hdn hbk [12,17,18,19,13] (by decide +kernel)
                 simp only [allB,and_true] at G
                 cases g5 : b 5 <;> cases g8 : b 8
                 all_goals (simp only [go_sem,sgF,sgR,upd,vI,if_true,if_false,hbk,G,g5,g8,hMl,hps,f11,f12,List.length_append,List.length_take,List.length_drop,List.length_cons,List.length_nil,List.drop_zero,Nat.sub_zero,List.append_assoc,hMt,List.cons_append,List.nil_append])
                 all_goals (refine zj [] ?_ ?_ <;> (simp only [go_sem,sgF,sgR,upd,vI,if_true,if_false,hbk,G,g5,g8,hMl,hps,f11,f12,List.length_append,List.length_take,List.length_drop,List.length_cons,List.length_nil,List.drop_zero,Nat.sub_zero,List.append_assoc,hMt,List.cons_append,List.nil_append]))
               · skip
                 have H:=upT hdn hde [10,11,9] (by decide +kernel)
                 have G:=dnT hdn hbk [13,17,18,19] (by decide +kernel)
                 simp only [allB,and_true] at H G
                 cases g5 : b 5 <;> cases g8 : b 8
                 all_goals (simp only [go_sem,sgF,sgR,upd,vI,if_true,if_false,hbk,H,G,g5,g8,hMl,hps,f11,f12,List.length_append,List.length_take,List.length_drop,List.length_cons,List.length_nil,List.drop_zero,Nat.sub_zero,List.append_assoc,hMt,List.cons_append,List.nil_append])
                 all_goals (refine zj [] ?_ ?_ <;> (simp only [go_sem,sgF,sgR,upd,vI,if_true,if_false,hbk,H,G,g5,g8,hMl,hps,f11,f12,List.length_append,List.length_take,List.length_drop,List.length_cons,List.length_nil,List.drop_zero,Nat.sub_zero,List.append_assoc,hMt,List.cons_append,List.nil_append]))
               · skip
                 have H:=upT hdn hde [8,8,12,5,7,10,11,0,4,6,9,2,3,1] (by decide +kernel)
                 have G:=dnT hdn hbk [17,18,19] (by decide +kernel)
                 simp only [allB,and_true] at H G
                 (simp only [go_sem,sgF,sgR,upd,vI,if_true,if_false,hbk,H,G,hMl,hps,f11,f12,List.length_append,List.length_take,List.length_drop,List.length_cons,List.length_nil,List.drop_zero,Nat.sub_zero,List.append_assoc,hMt,List.cons_append,List.nil_append])
                 all_goals (try refine ⟨⟨by omega,by omega⟩,?_⟩)
                 all_goals refine fitV_subS (zk [1,4,5,6,7,8,9,11,14,15,119,120,121,122,123,125,126,128,129,130,131,132,133,134,135,136]) ?_
                 all_goals simp only [go_sem]
                 all_goals (refine zj [] ?_ ?_ <;> (simp only [go_sem,sgF,sgR,upd,vI,if_true,if_false,hbk,H,G,hMl,hps,f11,f12,List.length_append,List.length_take,List.length_drop,List.length_cons,List.length_nil,List.drop_zero,Nat.sub_zero,List.append_assoc,hMt,List.cons_append,List.nil_append]))
               · skip
                 have G:=dnT hdn hbk [16,19] (by decide +kernel)
                 simp only [allB,and_true] at G
                 cases g5 : b 5 <;> cases g8 : b 8 <;> cases g13 : b 13 <;> cases g18 : b 18
                 all_goals (simp only [go_sem,sgF,sgR,upd,vI,if_true,if_false,hbk,G,g5,g8,g13,g18,hMl,hps,f11,f12,List.length_append,List.length_take,List.length_drop,List.length_cons,List.length_nil,List.drop_zero,Nat.sub_zero,List.append_assoc,hMt,List.cons_append,List.nil_append])
                 all_goals (refine zj [] ?_ ?_ <;> (simp only [go_sem,sgF,sgR,upd,vI,if_true,if_false,hbk,G,g5,g8,g13,g18,hMl,hps,f11,f12,List.length_append,List.length_take,List.length_drop,List.length_cons,List.length_nil,List.drop_zero,Nat.sub_zero,List.append_assoc,hMt,List.cons_append,List.nil_append]))
               · skip
                 have G:=dnT hdn hbk [16,19] (by decide +kernel)
                 simp only [allB,and_true] at G
                 cases g5 : b 5 <;> cases g8 : b 8 <;> cases g13 : b 13 <;> cases g18 : b 18
                 all_goals (simp only [go_sem,sgF,sgR,upd,vI,if_true,if_false,hbk,G,g5,g8,g13,g18,hMl,hps,f11,f12,List.length_append,List.length_take,List.length_drop,List.length_cons,List.length_nil,List.drop_zero,Nat.sub_zero,List.append_assoc,hMt,List.cons_append,List.nil_append])
                 all_goals (refine zj [] ?_ ?_ <;> (simp only [go_sem,sgF,sgR,upd,vI,if_true,if_false,hbk,G,g5,g8,g13,g18,hMl,hps,f11,f12,List.length_append,List.length_take,List.length_drop,List.length_cons,List.length_nil,List.drop_zero,Nat.sub_zero,List.append_assoc,hMt,List.cons_append,List.nil_append]))
               · skip
                 have H:=upT hdn hde [14,15] (by decide +kernel)
                 have G:=dnT hdn hbk [19] (by decide +kernel)
                 simp only [allB,and_true] at H G
                 cases g5 : b 5 <;> cases g8 : b 8 <;> cases g13 : b 13 <;> cases g18 : b 18
                 all_goals (simp only [go_sem,sgF,sgR,upd,vI,if_true,if_false,hbk,H,G,g5,g8,g13,g18,hMl,hps,f11,f12,List.length_append,List.length_take,List.length_drop,List.length_cons,List.length_nil,List.drop_zero,Nat.sub_zero,List.append_assoc,hMt,List.cons_append,List.nil_append])
                 all_goals (refine zj [] ?_ ?_ <;> (simp only [go_sem,sgF,sgR,upd,vI,if_true,if_false,hbk,H,G,g5,g8,g13,g18,hMl,hps,f11,f12,List.length_append,List.length_take,List.length_drop,List.length_cons,List.length_nil,List.drop_zero,Nat.sub_zero,List.append_assoc,hMt,List.cons_append,List.nil_append]))
               · skip
                 have H:=upT hdn hde [0,1,2,3,4,5,6,7,8,9,10,11,12,13] (by decide +kernel)
                 have G:=dnT hdn hbk [18,19] (by decide +kernel)
                 simp only [allB,and_true] at H G
                 (simp only [go_sem,sgF,sgR,upd,vI,if_true,if_false,hbk,H,G,hMl,hps,f11,f12,List.length_append,List.length_take,List.length_drop,List.length_cons,List.length_nil,List.drop_zero,Nat.sub_zero,List.append_assoc,hMt,List.cons_append,List.nil_append])
                 all_goals (refine zj [] ?_ ?_ <;> (simp only [go_sem,sgF,sgR,upd,vI,if_true,if_false,hbk,H,G,hMl,hps,f11,f12,List.length_append,List.length_take,List.length_drop,List.length_cons,List.length_nil,List.drop_zero,Nat.sub_zero,List.append_assoc,hMt,List.cons_append,List.nil_append]))
               · skip
                 have H:=upT hdn hde [0,1,2,3,4,5,6,7,8,9,10,11,12,13,13,13,17] (by decide +kernel)
                 have G:=dnT hdn hbk [19] (by decide +kernel)
                 simp only [allB,and_true] at H G
                 (simp only [go_sem,sgF,sgR,upd,vI,if_true,if_false,hbk,H,G,hMl,hps,f11,f12,List.length_append,List.length_take,List.length_drop,List.length_cons,List.length_nil,List.drop_zero,Nat.sub_zero,List.append_assoc,hMt,List.cons_append,List.nil_append])
                 all_goals (refine zj [] ?_ ?_ <;> (simp only [go_sem,sgF,sgR,upd,vI,if_true,if_false,hbk,H,G,hMl,hps,f11,f12,List.length_append,List.length_take,List.length_drop,List.length_cons,List.length_nil,List.drop_zero,Nat.sub_zero,List.append_assoc,hMt,List.cons_append,List.nil_append]))
               · skip
                 have H:=upT hdn hde [0,1,2,3,4,5,6,7,8,9,10,11,12,13,14,15,16,16,17,18,18] (by decide +kernel)
                 simp only [allB,and_true] at H
                 (simp only [go_sem,sgF,sgR,upd,vI,if_true,if_false,hbk,H,hMl,hps,f11,f12,List.length_append,List.length_take,List.length_drop,List.length_cons,List.length_nil,List.drop_zero,Nat.sub_zero,List.append_assoc,hMt,List.cons_append,List.nil_append])
                 all_goals (refine zj [] ?_ ?_ <;> (simp only [go_sem,sgF,sgR,upd,vI,if_true,if_false,hbk,H,hMl,hps,f11,f12,List.length_append,List.length_take,List.length_drop,List.length_cons,List.length_nil,List.drop_zero,Nat.sub_zero,List.append_assoc,hMt,List.cons_append,List.nil_append]))
             intro b vs hb
             simp only [go_sem,sgF,sgR,vI,hb,if_true,cond_true,List.cons_append,List.nil_append];apply zw (zk [1,4,5,6,7,8,9]);simp only [go_sem]
             have hn2 : (L.take P ++ [(⟨(bd : Int),lo,min (D : Int) (lo + (y2 : Int))⟩ : Bd)] ++ L.drop P).length = P + 1 + (L.length - P):=by
              simp only [List.length_append,List.length_take,List.length_cons,List.length_nil,List.length_drop];omega
             have hm2 : (L.take P ++ [(⟨(bd : Int),lo,min (D : Int) (lo + (y2 : Int))⟩ : Bd)] ++ L.drop P).map bedR = M.take P ++ ([i64 (bd : Int),i64 lo,i64 (min (D : Int) (lo + (y2 : Int)))] :: M.drop P):=by
              rw [← hM];simp [List.map_take,List.map_drop,bedR]
             rw [hn2,hm2]
             refine zb fun K hK=>?_;simp only [go_sem];(try simp (disch:=omega) only [zI]);apply hK;clear hK K
             try simp only [go_sem]
             refine ⟨by omega,zj [] ?_ ?_⟩
             · try simp only [go_sem]
             · try simp only [go_sem]
         · have hke : k = Kn:=by omega
           subst hke
           by_cases hA0 : A.length = 0
           · have hK0 : k = 0:=by rw [hK,if_pos hA0]
             have hnl : ¬ i < A.length:=by omega
             have g1 : decide ((k : Int) < 4) = true:=decide_eq_true (by omega)
             repeat apply zq
             refine zb fun K hK=>?_;simp only [go_sem,g1,hnl,List.length_map]
             intro _
             apply hK;clear hK K;apply zw (zk [1,4,5,6,7,8,9,45]);simp only [go_sem]
             apply zc rfl <;> intro hc <;> (try simp only [go_sem] at hc)
             apply zf;simp only [go_sem]
             refine ⟨(),zj [] ?_ ?_⟩
             · try simp only [go_sem]
             · try simp only [go_sem]
           · have hK0 : k = 4:=by rw [hK,if_neg hA0]
             have g1 : decide ((k : Int) < 4) = false:=decide_eq_false (by omega)
             repeat apply zq
             refine zb fun K hK=>?_;simp only [go_sem,g1];apply hK;clear hK K;apply zw (zk [1,4,5,6,7,8,9,45]);simp only [go_sem]
             apply zc rfl <;> intro hc <;> (try simp only [go_sem] at hc)
             apply zf;simp only [go_sem]
             refine ⟨(),zj [] ?_ ?_⟩
             · try simp only [go_sem]
             · try simp only [go_sem]
     intro _ vs _
     generalize hLs : (scF (D : Int) a Kn).1 = L at *
     cases L with
     | nil =>
       have hhd : headD (D : Int) ([] : List Bd) = [⟨201,0,(D : Int)⟩]:=rfl
       rw [hhd]
       repeat apply zq
       refine zb fun K hK=>?_;simp only [go_sem,List.map_nil,List.length_nil,beq_self_eq_true];apply hK;clear hK K;apply zw (zk [1,4,5,6,7,140]);simp only [go_sem]
       apply zc rfl <;> intro hc <;> (try simp only [go_sem] at hc)
       refine awp_long ?_
       refine sops_take 1 (by kernel_rfl) fun K hK=>?_
       simp only [go_sem,List.take_succ_cons,List.take_zero,List.drop_succ_cons,List.drop_zero,List.append_eq,List.cons_append,List.nil_append]
       refine hK _ rfl ?_
       clear hK K
       refine sops_sub (zk [1,4,5,6,7,141]) ?_
       simp only [go_sem]
       refine sops_own (by simp [go_sem]) ?_
       simp only [go_sem,sBuildOwn]
       repeat first | refine ⟨by omega,?_⟩
       refine sops_end (by kernel_rfl) fun K hK=>?_
       simp only [go_sem,List.drop_succ_cons,List.drop_zero,List.append_eq,List.cons_append,List.nil_append];apply hK;clear hK K;apply zw (zk [1,4,5,6,7]);simp only [go_sem]
       apply zq
       refine zb fun K hK=>?_;simp only [go_sem,List.length_cons,List.length_nil,List.map_nil];apply hK;clear hK K;apply zw (zk [1,4,5,6,7]);simp only [go_sem];refine zw (sub_frzB 7 1 142 (ty:=95) (sz:=3) (off:=0) (m:=1) (es:=[[i64 201,i64 0,i64 (D : Int)]]) (by omega) (by omega) rfl (by simp only [go_sem,List.getElem?_cons_succ,List.getElem?_cons_zero]) (by rfl) (by simp)) ?_;apply zw (zk [1,4,5,6,7]);simp only [go_sem];refine zb fun K hK=>?_;simp only [go_sem,hjl,List.length_map]
       refine ⟨by omega,?_⟩
       apply hK;clear hK K;apply zw (zk [1,4,5,6]);simp only [go_sem];refine zb fun K hK=>?_;simp only [go_sem];(try simp (disch:=omega) only [zI]);apply hK;clear hK K
       try simp only [go_sem]
       refine ⟨by omega,zj [7,124] ?_ ?_⟩
       · try simp only [go_sem]
       · try simp only [go_sem]
         simp only [List.map_append,List.map_cons,List.map_nil,aimR,bedR]
         rfl
     | cons x L' =>
       have hne : ((x :: L').length : Int) == 0 → False:=fun h=>by rw [beq_iff_eq,List.length_cons] at h;omega
       have hne1 : (((x :: L').length : Int) == 0) = false:=by rw [beq_eq_false_iff_ne,List.length_cons];omega
       have hne2 : (((L'.length : Int) + 1) == 0) = false:=by rw [beq_eq_false_iff_ne];omega
       have hne3 : ((L'.length + 1) == 0) = false:=by rw [beq_eq_false_iff_ne];omega
       have hhd : headD (D : Int) (x :: L') = ⟨x.b,x.lo,(D : Int)⟩ :: L':=rfl
       have hbr : bedR x = [i64 x.b,i64 x.lo,i64 x.hi]:=rfl
       rw [hhd]
       repeat apply zq
       refine zb fun K hK=>?_;simp only [go_sem,List.map_cons,List.length_cons,List.length_map,hne1,hne2,hne3]
       intro _
       apply hK;clear hK K;apply zw (zk [1,4,5,6,7,140]);simp only [go_sem]
       try rw [hne1]
       apply zc rfl <;> intro hc <;> (try simp only [go_sem] at hc)
       apply zx
       try simp only [go_sem]
       apply zq
       refine zb fun K hK=>?_;simp only [go_sem,hbr,List.map_cons,List.length_cons,List.length_map]
       repeat refine ⟨by omega,?_⟩
       apply hK;clear hK K;apply zw (zk [1,4,5,6,7]);simp only [go_sem];refine zw (sub_frzB 7 1 124 (ty:=95) (sz:=3) (off:=0) (m:=L'.length + 1) (es:=[i64 x.b,i64 x.lo,i64 (D : Int)] :: L'.map bedR) (by omega) (by omega) rfl (by simp only [go_sem,List.getElem?_cons_succ,List.getElem?_cons_zero]) (by rfl) (by simp)) ?_;apply zw (zk [1,4,5,6,7]);simp only [go_sem]
       have tk5 : List.take (L'.length + 1) ([i64 x.b,i64 x.lo,i64 (D : Int)] :: L'.map bedR) = [i64 x.b,i64 x.lo,i64 (D : Int)] :: L'.map bedR:=List.take_of_length_le (by simp)
       try rw [tk5]
       apply zw (zk [1,4,5,6,7]);simp only [go_sem];refine zb fun K hK=>?_;simp only [go_sem,hjl,List.length_map]
       refine ⟨by omega,?_⟩
       apply hK;clear hK K;apply zw (zk [1,4,5,6]);simp only [go_sem];refine zb fun K hK=>?_;simp only [go_sem];(try simp (disch:=omega) only [zI]);apply hK;clear hK K
       try simp only [go_sem]
       refine ⟨by omega,zj [7] ?_ ?_⟩
       · try simp only [go_sem]
       · try simp only [go_sem]
         simp only [List.map_append,List.map_cons,List.map_nil,aimR,bedR]
         rfl
   · have hiN : i = N:=by omega
     subst hiN
     rw [hall]
     have hsl : (scL (D : Int) A).length = i:=by rw [← hall];simp [aimsJ]
     have hi0 : i ≠ 0:=by rw [hN];split <;> omega
     have q0 : ((i : Int) == 0) = false:=by rw [beq_eq_false_iff_ne];omega
     have q0' : (i == 0) = false:=by rw [beq_eq_false_iff_ne];omega
     repeat apply zq
     refine zaw (n:=158) (fun (_ : Unit) vs=>[(1,.r (.sl 12 (A.map fun a=>a.map u8Q))),(4,.pt 4 (vs 4) 0),(5,.pt 5 (vs 5) 0),(6,.r (i64 (i : Int))),(32,.r (.bo false))])
      (fun _ vs=>[(4,.box [.r (i64 0),.r .ns]),(5,.box [.r (i64 (D : Int)),.os 155 (vs 155) 2 0 i]),(155,.arr 93 2 ((scL (D : Int) A).map aimR))]) (fun _=>True) (fun _ h=>h) ?_ ?_
     · by_cases q1 : i < A.length
       · have q2 : decide ((i : Int) < 3) = false:=decide_eq_false (by rw [hN] at q1 ⊢;split at q1 <;> rename_i hz <;> (try rw [if_pos hz]) <;> (try rw [if_neg hz]) <;> omega)
         refine zb fun K hK=>?_;simp only [go_sem,q0,q0',q1,q2,List.length_map]
         intro _
         apply hK;clear hK K
         try simp only [go_sem]
         refine ⟨(),zj [] ?_ ?_⟩
         · try simp only [go_sem]
         · try simp only [go_sem]
       · skip
         refine zb fun K hK=>?_;simp only [go_sem,q0,q0',q1,List.length_map]
         intro _
         apply hK;clear hK K
         try simp only [go_sem]
         refine ⟨(),zj [] ?_ ?_⟩
         · try simp only [go_sem]
         · try simp only [go_sem]
     intro _ vs _
     apply zc rfl <;> intro hc <;> (try simp only [go_sem] at hc)
     refine zw (sub_frzB 5 1 155 (ty:=93) (sz:=2) (off:=0) (m:=i) (es:=(scL (D : Int) A).map aimR) (by omega) (by omega) rfl (by simp only [go_sem,List.getElem?_cons_succ,List.getElem?_cons_zero]) (by rfl) (by simp [hsl])) ?_;apply zw (zk [4,5]);simp only [go_sem]
     have tk6 : List.take i ((scL (D : Int) A).map aimR) = (scL (D : Int) A).map aimR:=List.take_of_length_le (by simp [hsl])
     try rw [tk6]
     apply zf;simp only [go_sem]
     apply zq
     refine zb fun K hK=>?_;simp only [go_sem];apply hK;clear hK K;apply zw (zk [4]);simp only [go_sem];apply ze;simp only [go_sem]
theorem one_mk (n : Int) : ACalls Tryz.prog 36 [i64 n] (.ag [i64 n,i64 n]):=by
 refine zas (rs:=[.ag [i64 n,i64 n]]) [.cell 2 48] Tryz.func36 rfl (by kernel_rfl) Tryz.ntmps36 rfl (by simp) rfl fun C vs=>?_
 apply zq
 refine zb fun K hK=>?_;simp only [go_sem];apply hK;apply zw (zk [0,2]);simp only [go_sem]
 apply zq
 refine zb fun K hK=>?_;simp only [go_sem];apply hK;apply zw (zk [2]);simp only [go_sem];apply ze;simp only [go_sem]
theorem wfA_of {l : List Am} (h : (l.all fun a=>decide (0 ≤ a.at_ ∧ a.at_ ≤ 1000) && a.beds.all fun c=>decide ((0 ≤ c.b ∧ c.b ≤ 1000) ∧ (0 ≤ c.lo ∧ c.lo ≤ 1000) ∧ 0 ≤ c.hi ∧ c.hi ≤ 1000)) = true) : ∀ a ∈ l,WfA a:=fun a ha=>by
 have:=List.all_eq_true.1 h a ha
 simp only [Bool.and_eq_true,decide_eq_true_eq,List.all_eq_true] at this
 obtain ⟨h1,h2⟩:=this
 refine ⟨by unfold I64;omega,fun c hc=>?_⟩
 have:=h2 c hc
 unfold I64
 omega
def duR : Ru:=⟨2,[⟨201,[⟨0,1,1⟩,⟨201,1,1⟩]⟩],2,1,[(0,500000),(1000000,1000000)]⟩
theorem duR_wf : WfR duR:=⟨⟨by unfold duR I64;simp only;omega,wfA_of (by decide)⟩⟩
theorem pubDuel_ok : ACalls Tryz.prog 28 [] (.bo true):=by
 have h:=table_ok duR duR_wf
 have h0 : ruE duR = 0:=by decide +kernel
 have h1 : tabF duR false = [[0,0,929687],[0,0,875000]]:=by decide +kernel
 have h2 : tabF duR true = [[0,0,984375],[0,0,875000]]:=by decide +kernel
 unfold tabsV at h
 rw [if_pos h0,if_pos h0,h1,h2,h0] at h
 have hs:=fun a b=>span_mk a b
 have ho:=fun a=>one_mk a
 refine zas (rs:=[.bo true]) [.tmp 0] Tryz.func28 rfl (by kernel_rfl) Tryz.ntmps28 rfl (by simp) rfl fun C vs=>?_
 apply zq
 refine zb fun K hK=>?_;simp only [go_sem];apply hK;apply zw (zk [0]);simp only [go_sem]
 apply zq
 refine zb fun K hK=>?_;simp only [go_sem]
 refine zh (ho 1) rfl (by simp only [go_sem,i64,ints]) (by simp only [go_sem,i64,ints]) ?_
 (try simp only [go_sem])
 refine zh (ho 1) rfl (by simp only [go_sem,i64,ints]) (by simp only [go_sem,i64,ints]) ?_
 (try simp only [go_sem]);apply hK;refine zw (zfP 1 1 [i64 2,aimsR duR.aims] (by omega) rfl rfl) ?_;apply zw (zk [0,1]);simp only [go_sem]
 apply zq
 refine zg follows (by decide +kernel) (by kernel_rfl) fun K hK=>?_;simp only [go_sem]
 refine zh (hs 0 500000) rfl (by simp only [go_sem,i64,ints]) (by simp only [go_sem,i64,ints]) ?_
 (try simp only [go_sem])
 refine zh (ho 1000000) rfl (by simp only [go_sem,i64,ints]) (by simp only [go_sem,i64,ints]) ?_
 (try simp only [go_sem])
 refine zh (h) rfl (by simp only [go_sem,i64,ints,duR,ruV,ruC,aimsR,bedsR,spansR,aimR,bedR,spanR,List.map_cons,List.map_nil]) (by simp only [go_sem,i64,ints,duR,ruV,ruC,aimsR,bedsR,spansR,aimR,bedR,spanR,List.map_cons,List.map_nil]) ?_
 (try simp only [go_sem,duR,ruV,ruC,aimsR,bedsR,spansR,aimR,bedR,spanR,List.map_cons,List.map_nil]);apply hK;apply zw (zk [0,2,3,4]);simp only [go_sem]
 apply zq
 refine zb fun K hK=>?_;simp only [go_sem];apply hK;apply zw (zk [0]);simp only [go_sem];apply ze;simp only [go_sem]
def thL : List Am:=[⟨320,[⟨120,4,6⟩,⟨205,0,1⟩,⟨301,1,2⟩,⟨320,2,4⟩]⟩]
theorem pubThrow_ok : ACalls Tryz.prog 37 [] (.bo true):=by
 have hw : WfL 10 thL:=⟨by unfold I64;omega,wfA_of (by decide)⟩
 have h:=Th.Score_ok 10 thL hw
 have h0 : checkV 10 thL = 0:=by decide +kernel
 have h1 : Th.spansV 10 thL = [(236,343)]:=by decide +kernel
 rw [h0,h1] at h
 have hs:=fun a b=>span_mk a b
 refine zas (rs:=[.bo true]) [.tmp 0] Tryz.func37 rfl (by kernel_rfl) Tryz.ntmps37 rfl (by simp) rfl fun C vs=>?_
 apply zq
 refine zb fun K hK=>?_;simp only [go_sem];apply hK;apply zw (zk [0]);simp only [go_sem]
 apply zq
 refine zb fun K hK=>?_;simp only [go_sem]
 refine zh (hs 4 6) rfl (by simp only [go_sem,i64,ints]) (by simp only [go_sem,i64,ints]) ?_
 (try simp only [go_sem])
 refine zh (hs 0 1) rfl (by simp only [go_sem,i64,ints]) (by simp only [go_sem,i64,ints]) ?_
 (try simp only [go_sem])
 refine zh (hs 1 2) rfl (by simp only [go_sem,i64,ints]) (by simp only [go_sem,i64,ints]) ?_
 (try simp only [go_sem])
 refine zh (hs 2 4) rfl (by simp only [go_sem,i64,ints]) (by simp only [go_sem,i64,ints]) ?_
 (try simp only [go_sem]);apply hK;refine zw (zfP 1 1 [i64 10,aimsR thL] (by omega) rfl rfl) ?_;apply zw (zk [0,1]);simp only [go_sem]
 apply zq
 refine zb fun K hK=>?_;simp only [go_sem]
 refine zh (h) rfl (by simp only [go_sem,i64,ints,thL,aimR,bedR]) (by simp only [go_sem,i64,ints,thL,aimR,bedR]) ?_
 (try simp only [go_sem,thL,aimR,bedR]);apply hK;apply zw (zk [0,2,3]);simp only [go_sem]
 have eqn30 : eqN Tryz.prog 48 = some 2:=by kernel_rfl
 apply zq
 refine zg follows (by decide +kernel) (by kernel_rfl) fun K hK=>?_;simp only [go_sem,eqn30,beq_self_eq_true]
 refine zh (hs 236 343) rfl (by simp only [go_sem,i64,ints,eqn30,beq_self_eq_true]) (by simp only [go_sem,i64,ints,eqn30,beq_self_eq_true]) ?_
 (try simp only [go_sem,eqn30,beq_self_eq_true]);apply hK;apply zw (zk [0]);simp only [go_sem];apply ze;simp only [go_sem]
 rfl
theorem law_ok (d : Int) (l : List Am) (hl : l.length ≤ 1000) (hb : ∀ a ∈ l,a.beds.length ≤ 1000) : ACalls Tryz.prog 23 [lawV d l] (lawV d l):=by
 refine zas (rs:=[lawV d l]) [.cell 2 24] Tryz.func23 rfl (by kernel_rfl) Tryz.ntmps23 rfl (by simp) rfl fun C vs=>?_
 apply zq
 refine zb fun K hK=>?_;simp only [go_sem];apply hK;refine zw (zfP 1 1 [i64 d,aimsR l] (by omega) rfl rfl) ?_;apply zw (zk [1,2]);simp only [go_sem]
 apply zq
 refine zb fun K hK=>?_;simp only [go_sem];apply hK;apply zw (zk [1,2,3]);simp only [go_sem]
 repeat apply zq
 refine zb fun K hK=>?_;simp only [go_sem];apply hK;apply zw (zk [1,2,3,4]);simp only [go_sem];apply zd;refine zw (sub_ownB 3 1 130 93 2 (by omega) (by omega) rfl rfl) ?_
 try simp only [go_sem]
 refine zuv (n:=36) l.length (fun i vs=>[(1,.r (.rp [i64 d,aimsR l])),(2,.pt 2 (vs 2) 0),(3,.pt 3 (vs 3) 0),(4,.r (i64 i))])
  (fun i vs=>[(2,.box [.r (i64 0),.r .ns]),(3,.box [.r (i64 d),.os 130 (vs 130) 2 0 i]),(130,.arr 93 2 ((l.take i).map aimR))]) (fun _=>True) 0 (zj [] ?_ ?_) (Nat.zero_le _) trivial ?_
 · try simp only [go_sem]
 · try simp only [go_sem]
 · intro i vs hi _
   repeat apply zq
   refine zb fun K hK=>?_;simp only [go_sem]
   intro _
   apply hK;apply zw (zk [1,2,3,4,12]);simp only [go_sem]
   apply zc rfl <;> intro hc <;> (try simp only [go_sem] at hc)
   · skip
     have hci:=hc
     obtain ⟨x,hx⟩:=zol hc
     have hlt : (l.take i).length = i:=by rw [List.length_take];omega
     have hxb:=hb x (zmo hx)
     have tk : List.take x.beds.length (x.beds.map bedR) = x.beds.map bedR:=List.take_of_length_le (by simp)
     apply zx
     try simp only [go_sem]
     apply zq
     apply zd
     refine awp_dregC3 [30] [(1,none),(2,some 2),(3,some 3),(4,none)] [3] follows (by decide +kernel) (by kernel_rfl) (by simp only [keysOk,List.mem_cons,List.not_mem_nil,forall_eq_or_imp,Oc.keyOf,go_sem];simp) (by intro k hk;simp only [List.mem_cons,List.not_mem_nil,or_false] at hk;first | (subst hk;exact ⟨_,rfl⟩) | (rcases hk with rfl | rfl <;> exact ⟨_,rfl⟩) | (rcases hk with rfl | rfl | rfl <;> exact ⟨_,rfl⟩)) fun K hK=>?_
     simp only [go_sem,hx,hci,aimR,hlt]
     repeat refine ⟨by omega,?_⟩
     apply hK;apply zw (zk [1,2,3,4]);simp only [go_sem];refine zb fun K hK=>?_;simp only [go_sem];(try simp (disch:=omega) only [zI]);apply hK
     try simp only [go_sem]
     refine ⟨hci,zj [] ?_ ?_⟩
     · try simp only [go_sem]
     · try simp only [go_sem]
       rw [zto hx]
       simp [aimR]
   · skip
     apply zf;simp only [go_sem]
     apply zq
     refine zb fun K hK=>?_;simp only [go_sem];apply hK;apply zw (zk [2]);simp only [go_sem];apply ze;simp only [go_sem]
     have : i = l.length:=by omega
     subst this
     simp [List.take_of_length_le]
theorem wfA_aim {d : Int} {a : Am} (hd : d ≤ 3000) (h : aimOk d a = true) : WfA a:=by
 obtain ⟨h1,_,h3,h4,_,_⟩:=aimOk_parts h
 have hb:=fun b (hb : bedOk b = true)=>bedOk_le hb
 have:=hb _ h1
 refine ⟨by unfold I64;omega,fun c hc=>?_⟩
 have:=h4 c hc
 have hcb : 0 ≤ c.b ∧ c.b ≤ 499:=by
  rcases seq_beds h3 c hc with h | h
  · omega
  · exact hb _ h
 unfold I64
 omega
theorem wfL_chk {d : Int} {l : List Am} (h : checkV d l = 0) (hd : 0 ≤ d ∧ d ≤ 3000) : WfL d l:=⟨by unfold I64;omega,fun a ha=>wfA_aim hd.2 (aims_all (r:=⟨d,l,0,0,[]⟩) h a ha)⟩
end Go.Proofs.YtgfbenanljjgaaaGreat.Du

namespace Go.Proofs.YtgfbenanljjgaaaGreat.Du.Th
open Go Go.Oc
set_option maxRecDepth 8000
theorem tight_ok (a d : Int) (l : List Bd) (hs : Small l) (hl : l.length ≤ 10) (hd : 0 ≤ d) (hd' : d ≤ 6000) : ACalls Tryz.prog 65 [.ag [i64 a,bedsR l,i64 d]] (bedsR (tightL d l)):=by
 have hb:=sums_le hs
 refine zas (rs:=[bedsR (tightL d l)]) [.tmp 2] Tryz.func65 rfl (by kernel_rfl) Tryz.ntmps65 rfl (by simp) rfl fun C vs=>?_
 apply zq
 refine zb fun K hK=>?_;simp only [go_sem];apply hK
 apply zq
 refine zb fun K hK=>?_;simp only [go_sem]
 refine zh (sums_ok a l d hs (by omega)) rfl (by simp only [go_sem,i64,ints]) (by simp only [go_sem,i64,ints]) ?_
 (try simp only [go_sem]);apply hK;apply zw (zk [1,2,3]);simp only [go_sem]
 repeat apply zq
 refine zb fun K hK=>?_;simp only [go_sem]
 intro _
 apply hK;apply zw (zk [1,2,3,11,12,13]);simp only [go_sem];apply zd;refine zw (sub_own 2 46 95 3 (by omega) rfl) ?_
 try simp only [go_sem]
 refine zup (n:=49) l.length (fun i vs=>[(1,.pt 1 (vs 1) 0),(2,.os 46 (vs 46) 3 0 i),(3,.pt 3 (vs 3) 0),(11,.r (bedsR l)),(12,.r (i64 l.length)),(13,.r (i64 i))])
  (fun i=>[(1,.box [.r (i64 a),.r (bedsR l),.r (i64 d)]),(3,.box [.r (i64 (loS l)),.r (i64 (hiS l))]),(46,.arr 95 3 (((tightL d l).take i).map bedR))]) (fun _=>True) 0 (zfo [] ?_ ?_) (Nat.zero_le _) trivial ?_
 · try simp only [go_sem]
 · try simp only [go_sem]
 · intro i vs hi _
   have hlt : ((tightL d l).take i).length = i:=by rw [List.length_take];simp [tightL];omega
   apply zq
   refine zb fun K hK=>?_;simp only [go_sem];apply hK
   apply zq
   apply zc rfl <;> intro hc <;> (try simp only [go_sem] at hc)
   · have hci:=hc
     obtain ⟨x,hx⟩:=zol hc
     obtain ⟨⟨x1,x2⟩,x3,x4⟩:=hs x (zmo hx)
     have htx : (tightL d l).take (i + 1) = (tightL d l).take i ++ [tightB d (loS l) (hiS l) x]:=zto (by simp [tightL,hx])
     apply zx
     apply zq
     apply zd
     apply zq
     refine zb fun K hK=>?_;simp only [go_sem,hx,hc,bedR];apply hK
     apply zq
     refine zb fun K hK=>?_;simp only [go_sem];apply hK
     apply zq
     refine zb fun K hK=>?_;simp only [go_sem];(try simp (disch:=omega) only [zI]);apply hK;apply zw (zk [1,2,3,5,11,12,13]);simp only [go_sem];refine zb fun K hK=>?_;simp only [go_sem,hlt]
     refine ⟨by omega,?_⟩
     apply hK;apply zw (zk [1,2,3,11,12,13]);simp only [go_sem];refine zb fun K hK=>?_;simp only [go_sem];(try simp (disch:=omega) only [zI]);apply hK
     try simp only [go_sem]
     refine ⟨hci,zfo [5,6] ?_ ?_⟩
     · try simp only [go_sem]
     · try simp only [go_sem]
       rw [htx]
       simp [bedR,tightB]
   · apply zf;simp only [go_sem]
     apply zq
     refine zb fun K hK=>?_;simp only [go_sem];apply hK;apply ze;simp only [go_sem]
     have h1 : i = l.length:=by omega
     have h2 : (tightL d l).take i = tightL d l:=List.take_of_length_le (by simp [tightL];omega)
     subst h1
     rw [h2]
     simp [tightL]
     exact List.take_of_length_le (by simp)
theorem Tight_ok (d : Int) (l : List Am) (hw : WfL d l) : ACalls Tryz.prog 34 [lawV d l] (.tu [if checkV d l = 0 then lawV d (l.map (tightA d)) else .ag [i64 0,.ns],i64 (checkV d l)]):=by
 refine acalls_stR (rs:=[if checkV d l = 0 then lawV d (l.map (tightA d)) else .ag [i64 0,.ns],i64 (checkV d l)]) [.cell 2 24,.tmp 3] Tryz.func34 rfl (by kernel_rfl) Tryz.ntmps34 rfl (by simp) rfl fun C hC vs=>?_
 apply zq
 refine zb fun K hK=>?_;simp only [go_sem];apply hK
 repeat apply zq
 refine zb fun K hK=>?_;simp only [go_sem]
 refine zh (check_ok d l hw) rfl (by simp only [go_sem,i64,ints]) (by simp only [go_sem,i64,ints]) ?_
 (try simp only [go_sem]);apply hK
 apply zq
 refine zb fun K hK=>?_;simp only [go_sem]
 cases hE : checkV d l != 0
 case true =>
  apply hK
  have hne : ¬ checkV d l = 0:=by simpa using hE
  apply zc rfl <;> intro hc <;> (try simp only [go_sem] at hc)
  apply zq
  refine zb fun K hK=>?_;simp only [go_sem];apply hK;apply ze;simp only [go_sem]
  simp [hne,leL_refl.le_refl]
 have h0 : checkV d l = 0:=by simpa using hE
 obtain ⟨c1,c2,c3,c4,c5⟩:=checkV_zero h0
 apply hK
 apply zc rfl <;> intro hc <;> (try simp only [go_sem] at hc)
 apply zx
 try simp only [go_sem]
 apply zq
 refine zb fun K hK=>?_;simp only [go_sem];apply hK
 repeat apply zq
 refine zb fun K hK=>?_;simp only [go_sem]
 refine zh (all_ok d l) rfl (by simp only [go_sem,i64,ints]) (by simp only [go_sem,i64,ints]) ?_
 (try simp only [go_sem]);apply hK;apply zw (zk [2,5,18]);simp only [go_sem];apply zd;refine zw (sub_ownB 5 1 30 93 2 (by omega) (by omega) rfl rfl) ?_
 try simp only [go_sem]
 refine awp_rangeF hC (enumA d l) (all1_ok d l) [2,5,18] (by decide) (fun vs=>[(2,.pt 2 (vs 2) 0),(5,.pt 5 (vs 5) 0),(18,.r (.fn 96 [.rp [i64 d,aimsR l]]))])
  (fun i vs=>[(2,.box [.r (i64 0),.r .ns]),(5,.box [.r (i64 d),.os 30 (vs 30) 2 0 i]),(30,.arr 93 2 (((l.map (tightA d)).take i).map aimR))])
  (fun i=>True) (zj [1] ?_ ?_) trivial (fun _=>rfl) (fun _=>rfl) (fun _ _=>rfl) (by simp) (fun e he=>enumA_len he) ?_ ?_
 · try simp only [go_sem]
 · try simp only [go_sem]
 · intro i e vs us C he _
   obtain ⟨x,hx,rfl⟩:=enumA_get he
   obtain ⟨_,_,_,k4,_⟩:=aimOk_facts (c5 x (zmo hx))
   have hil : i < l.length:=(List.getElem?_eq_some_iff.1 hx).1
   have hlt : ((l.map (tightA d)).take i).length = i:=by rw [List.length_take];simp;omega
   have htx : (l.map (tightA d)).take (i + 1) = (l.map (tightA d)).take i ++ [tightA d x]:=zto (by simp [hx])
   refine zb fun K hK=>?_;simp only [go_sem];apply hK
   refine ⟨rfl,fun C'=>?_⟩
   apply zw (zk [2,5,7,18]);simp only [go_sem];apply zd
   refine awp_dreg3 [(2,some 2),(5,some 5),(7,some 7)] [2,5,7] follows (by decide +kernel) (by kernel_rfl) (by simp only [keysOk,List.mem_cons,List.not_mem_nil,forall_eq_or_imp,Oc.keyOf,go_sem];simp) (by intro k hk;simp only [List.mem_cons,List.not_mem_nil,or_false] at hk;first | (subst hk;exact ⟨_,rfl⟩) | (rcases hk with rfl | rfl <;> exact ⟨_,rfl⟩) | (rcases hk with rfl | rfl | rfl <;> exact ⟨_,rfl⟩)) fun K hK=>?_
   simp only [go_sem,hlt]
   refine zh (tight_ok x.at_ d x.beds (chOk_small k4 (by omega)) (c2 x (zmo hx)) (by omega) (by omega)) rfl (by simp only [go_sem,i64,ints,hlt]) (by simp only [go_sem,i64,ints,hlt]) ?_
   (try simp only [go_sem,hlt])
   refine ⟨by omega,?_⟩
   apply hK
   try simp only [go_sem]
   refine zj (F:=fun _=>[]) [7] (by try simp only [go_sem]) ?_
   try simp only [go_sem]
   rw [htx]
   simp [aimR,tightA]
 · intro vs us _
   try simp only [go_sem]
   refine zw (sub_wake rfl) ?_
   apply zq
   refine zb fun K hK=>?_;simp only [go_sem];apply hK;apply ze;simp only [go_sem]
   have hel : (enumA d l).length = l.length:=by simp [enumA]
   rw [hel,h0]
   refine ⟨⟨by simp,?_⟩,rfl⟩
   rw [if_pos rfl,List.take_of_length_le (l:=l.map (tightA d)) (by simp),List.take_of_length_le (by simp)]
   exact leL_refl.le_refl _
end Go.Proofs.YtgfbenanljjgaaaGreat.Du.Th

namespace Go.Proofs.YtgfbenanljjgaaaGreat.Du.Th.Ai
open Go Go.Oc
set_option maxRecDepth 8000
set_option maxHeartbeats 8000000
def dbK : Rk:=⟨2,[⟨201,[⟨0,1,1⟩,⟨201,1,1⟩]⟩],2,1⟩
theorem dbK_ok : ROk dbK:=(checkR_zero (by decide +kernel)).2
theorem vokK {l : List Int} (h : l.all (fun x=>decide (0 ≤ x) && decide (x ≤ 1000000000) || decide (x = 2000000000)) = true) : ∀ x ∈ l,VOk x:=fun x hx=>by
 have:=List.all_eq_true.1 h x hx
 simp at this
 exact this
theorem ku : tabT dbK false = [0,0,1142858]:=by
 have h1 : numA dbK false [0,0,0] 2 = 1142858:=numA_upper dbK_ok (vokK (by decide)) (by decide) (by decide) (by omega) (by decide +kernel) (.inr (by decide +kernel))
 show ([0,0,0] : List Int).set 2 (numA dbK false [0,0,0] 2) = _
 rw [h1];rfl
theorem kl : tabT dbK true = [0,0,1142857]:=by
 have h1 : numA dbK true [0,0,0] 2 = 1142857:=numA_lower dbK_ok (vokK (by decide)) (by decide) (by decide) (by omega) (.inr (by decide +kernel)) (.inr (by decide +kernel))
 show ([0,0,0] : List Int).set 2 (numA dbK true [0,0,0] 2) = _
 rw [h1];rfl
theorem wfK (d : Int) (hd : d = 2) : WfL d [⟨201,[⟨0,1,1⟩,⟨201,1,1⟩]⟩]:=by
 subst hd
 refine ⟨by unfold I64;omega,fun a ha=>?_⟩
 simp only [List.mem_singleton] at ha
 subst ha
 refine ⟨by unfold I64;decide,fun c hc=>?_⟩
 simp only [List.mem_cons,List.not_mem_nil,or_false] at hc
 rcases hc with rfl | rfl <;> (unfold I64;decide)
theorem pubAim_ok : ACalls Tryz.prog 27 [] (.bo true):=by
 have hck : checkR dbK = 0:=by decide +kernel
 have htb:=table_ok dbK (wfK 2 rfl)
 rw [if_pos hck,if_pos hck,hck,ku,kl] at htb
 have htb' : ACalls Tryz.prog 22 [.ag [.it .i64 2,.sl 2 [[.it .i64 201,.sl 3 [[.it .i64 0,i64 1,i64 1],[.it .i64 201,i64 1,i64 1]]]],.it .i64 2,.it .i64 1]] (.tu [ints [0,0,1142858],ints [0,0,1142857],i64 0]):=htb
 have h1:=one_mk 1
 refine zas (rs:=[.bo true]) [.tmp 0] Tryz.func27 rfl (by kernel_rfl) Tryz.ntmps27 rfl (by simp) rfl fun C vs=>?_
 apply zq
 refine zb fun K hK=>?_;simp only [go_sem];apply hK;apply zw (zk []);simp only [go_sem]
 apply zq
 refine zb fun K hK=>?_;simp only [go_sem]
 refine zh (h1) rfl (by simp only [go_sem,i64,ints]) (by simp only [go_sem,i64,ints]) ?_
 (try simp only [go_sem])
 refine zh (h1) rfl (by simp only [go_sem,i64,ints]) (by simp only [go_sem,i64,ints]) ?_
 (try simp only [go_sem]);apply hK;refine zw (zfP 1 1 [i64 2,.sl 2 [[.it .i64 201,.sl 3 [[.it .i64 0,i64 1,i64 1],[.it .i64 201,i64 1,i64 1]]]]] (by omega) rfl rfl) ?_;apply zw (zk [1]);simp only [go_sem]
 apply zq
 refine zb fun K hK=>?_;simp only [go_sem]
 refine zh (htb') rfl (by simp only [go_sem,i64,ints]) (by simp only [go_sem,i64,ints]) ?_
 (try simp only [go_sem]);apply hK;apply zw (zk [2,3,4]);simp only [go_sem]
 have e0 : ((0 : Int) == 0) = true:=rfl
 have e1 : ((3 : Int) == 3) = true:=rfl
 have e2 : ((1142858 : Int) == 1142858) = true:=rfl
 have e3 : ((1142857 : Int) == 1142857) = true:=rfl
 apply zq
 refine zb fun K hK=>?_;simp only [go_sem,e0,e1,e2,e3,List.map_cons,List.map_nil,List.length_cons,List.length_nil]
 (try intros)
 apply hK;apply zw (zk [0]);simp only [go_sem];apply ze;simp only [go_sem]
end Go.Proofs.YtgfbenanljjgaaaGreat.Du.Th.Ai
