/- Part 10 of the texts of this claim. -/
import Derived.Test.YtlljkgiomkmjbaaVD9
import Derived.Test.YtlljkgiomkmjbaaVD8
import Derived.Test.YtlljkgiomkmjbaaVD7
import Derived.Test.YtlljkgiomkmjbaaVD6
namespace Go.Proofs.Ytlljkgiomkmjbaa.Du
open Go Go.Oc
set_option linter.unusedSimpArgs false
set_option linter.unusedVariables false
set_option maxRecDepth 8000
theorem foldl_max_ge : ∀ {l : List Int} {x : Int},x ≤ l.foldl max x ∧ ∀ y ∈ l,y ≤ l.foldl max x
 | [],x=>by simp
 | z :: l, x => by
   obtain ⟨h1,h2⟩:=foldl_max_ge (l:=l) (x:=max x z)
   simp only [List.foldl_cons]
   refine ⟨by omega,fun y hy=>?_⟩
   rcases List.mem_cons.1 hy with rfl | hy
   · omega
   · exact h2 y hy
theorem foldl_max_mem : ∀ {l : List Int} {x : Int},l.foldl max x = x ∨ l.foldl max x ∈ l
 | [],x=>by simp
 | z :: l, x => by
   rcases foldl_max_mem (l:=l) (x:=max x z) with h | h
   · simp only [List.foldl_cons,h]
     by_cases hz : z ≤ x
     · left; omega
     · right; rw [show max x z = z by omega]; simp
   · right; simp [h]
theorem le_maxL {l : List Int} {x : Int} (h : x ∈ l) : x ≤ maxL l:=foldl_max_ge.2 x h
theorem maxL_mem {l : List Int} (h : l ≠ []) : maxL l ∈ l:=by
 cases l with
 | nil=>exact absurd rfl h
 | cons x l =>
   unfold maxL
   simp only [List.headD_cons]
   rcases foldl_max_mem (l:=x :: l) (x:=x) with h | h
   · rw [h]; simp
   · exact h
theorem after_mono {r : Ru} {m1 m2 : Bool} (hm : m1 = true → m2 = true) {T T' : List (List Int)} {k y : Nat} (hk : k < r.ends.length) (he : ∀ x ∈ r.ends,endOk x = true)
 (hT : k + 1 < r.ends.length → 0 ≤ (T.getD (k + 1) []).getD y 0 ∧ (T.getD (k + 1) []).getD y 0 ≤ (T'.getD (k + 1) []).getD y 0) : afterD r m1 T k y ≤ afterD r m2 T' k y:=by
 unfold afterD
 split
 · omega
 · rename_i hn
   obtain ⟨h0,h1⟩:=hT (by omega)
   obtain ⟨e,hek⟩:=opt_of_lt hk
   obtain ⟨g1,g2,g3⟩:=endOk_le (he e (mem_of_opt hek))
   have e2 : r.ends.getD k (0,0) = e:=by simp [List.getD_eq_getElem?_getD,hek]
   rw [e2]
   refine overD_mono hm (by omega) ?_
   have hd : endsD m2 e ≤ endsD m1 e ∧ 0 ≤ 1000000 - endsD m1 e:=by unfold endsD; cases m1 <;> cases m2 <;> simp at hm ⊢ <;> omega
   exact Int.mul_le_mul h1 (by omega) hd.2 (by omega)
def RowLe (r : Ru) (T T' : List (List Int)) (k : Nat) : Prop:=k + 1 < r.ends.length → ∀ y : Nat,(y : Int) ≤ r.start → (T.getD (k + 1) []).getD y 0 ≤ (T'.getD (k + 1) []).getD y 0
theorem VisG.row0 {r : Ru} {T : List (List Int)} {k st : Nat} (h : VisG r T k st) {y : Nat} (hy : (y : Int) ≤ r.start) (hk : k + 1 < r.ends.length) : 0 ≤ (T.getD (k + 1) []).getD y 0:=by
 obtain ⟨row,v,hv⟩:=h.tab y hy
 obtain ⟨t1,t2,t3,t4⟩:=hv hk
 simp [List.getD_eq_getElem?_getD,t1,t2,t3]
theorem VisG.after_mono {r : Ru} {m1 m2 : Bool} (hm : m1 = true → m2 = true) {T T' : List (List Int)} {k st : Nat} (h : VisG r T k st) (hT : RowLe r T T' k) (y : Nat) (hy : (y : Int) ≤ r.start) : afterD r m1 T k y ≤ afterD r m2 T' k y :=
 Go.Proofs.Ytlljkgiomkmjbaa.Du.after_mono hm h.kk h.ends fun hk=>⟨h.row0 hy hk,hT hk y hy⟩
theorem rowV_getD (r : Ru) (most : Bool) (T : List (List Int)) (k y : Nat) (h : (y : Int) ≤ r.start) : (rowV r most T k).getD y 0 = if (y : Int) < lowestR r then 0 else valV r most T k y 3 y:=by
 rw [List.getD_eq_getElem?_getD,rowV_get r most T k y h]; rfl
abbrev bAt (l : List Bd) (i : Nat) : Bd:=l.getD i ⟨0,0,0⟩
def dotF (l : List Bd) (x : Nat → Int) : Int:=((List.range l.length).map fun i=>x i * (bAt l i).b).sum
structure TruthN (den : Int) (l : List Bd) (x : Nat → Int) : Prop where
 each : ∀ i,i < l.length → (bAt l i).lo ≤ x i ∧ x i ≤ (bAt l i).hi
 sum : ((List.range l.length).map x).sum = den
theorem range_bAt (l : List Bd) : (List.range l.length).map (bAt l) = l:=by
 refine List.ext_getElem (by simp) fun i h1 h2=>?_
 simp [bAt,List.getD,List.getElem?_eq_getElem h2]
theorem sum_bAt (l : List Bd) (F : Bd → Int) : ((List.range l.length).map fun i=>F (bAt l i)).sum = (l.map F).sum:=by
 conv=>rhs; rw [← range_bAt l]
 rw [List.map_map]; rfl
theorem sum_add {f g : Nat → Int} : ∀ I : List Nat,(I.map fun i=>f i + g i).sum = (I.map f).sum + (I.map g).sum
 | []=>by simp
 | i :: I=>by simp only [List.map_cons,List.sum_cons,sum_add I]; omega
theorem sum_sub {f g : Nat → Int} : ∀ I : List Nat,(I.map fun i=>f i - g i).sum = (I.map f).sum - (I.map g).sum
 | []=>by simp
 | i :: I=>by simp only [List.map_cons,List.sum_cons,sum_sub I]; omega
theorem bAt_mem {l : List Bd} {i : Nat} (h : i < l.length) : bAt l i ∈ l:=by
 unfold bAt
 rw [List.getD_eq_getElem?_getD,List.getElem?_eq_getElem h]; exact List.getElem_mem h
theorem mean_opt {most : Bool} {den : Int} {l : List Bd} (h : ChG den l) (hh : den ≤ hiS l) : ∃ x,TruthN den l x ∧ meanD most den l = overD most (dotF l x) den ∧ ∀ y,TruthN den l y → leD most (dotF l x) (dotF l y):=by
 obtain ⟨I,p,n,w,e⟩:=mean_idx (most:=most) h hh
 have hI : ∀ i ∈ I,i < l.length:=fun i hi=>List.mem_range.1 (p.mem_iff.1 hi)
 have hlow:=h.low
 have hm0 : ∀ i ∈ I,0 ≤ (bAt l i).hi - (bAt l i).lo:=fun i hi=>by
  have:=(h.each _ (bAt_mem (hI i hi))).2
  omega
 have hsm : (I.map fun i=>(bAt l i).hi - (bAt l i).lo).sum = hiS l - loS l:=by
  rw [perm_sum (f:=fun i=>(bAt l i).hi - (bAt l i).lo) p,sum_sub]
  rw [sum_bAt l (·.hi),sum_bAt l (·.lo)]; rfl
 have hlo : loS l = (I.map fun i=>(bAt l i).lo).sum:=by
  rw [perm_sum (f:=fun i=>(bAt l i).lo) p,sum_bAt l (·.lo)]; rfl
 have hlv : loV l = (I.map fun i=>(bAt l i).lo * (bAt l i).b).sum:=by
  rw [perm_sum (f:=fun i=>(bAt l i).lo * (bAt l i).b) p,sum_bAt l fun c=>c.lo * c.b]; rfl
 have hdot : ∀ x,dotF l x = (I.map fun i=>x i * (bAt l i).b).sum:=fun x=>(perm_sum (f:=fun i=>x i * (bAt l i).b) p).symm
 have hsum : ∀ x : Nat → Int,((List.range l.length).map x).sum = (I.map x).sum:=fun x=>(perm_sum (f:=x) p).symm
 obtain ⟨x,x1,x2,x3⟩:=greedy_amt (m:=fun i=>(bAt l i).hi - (bAt l i).lo) (v:=fun i=>(bAt l i).b) (I:=I) (left:=den - loS l) (s:=loV l) n hm0 (by omega) (by omega)
 have hd : dotF l (fun i=>(bAt l i).lo + x i) = loV l + (I.map fun i=>x i * (bAt l i).b).sum:=by
  rw [hdot,hlv,← sum_add]
  congr 1
  exact List.map_congr_left fun i _=>by rw [Int.add_mul]
 refine ⟨fun i=>(bAt l i).lo + x i,⟨fun i hi=>?_,?_⟩,?_,fun y hy=>?_⟩
 · have:=x1 i (p.mem_iff.2 (List.mem_range.2 hi))
   omega
 · rw [hsum,sum_add,x2,← hlo]; omega
 · rw [e,hd,x3]
 · have hfe : ∀ i ∈ I,0 ≤ y i - (bAt l i).lo ∧ y i - (bAt l i).lo ≤ (bAt l i).hi - (bAt l i).lo:=fun i hi=>by
    have:=hy.each i (hI i hi)
    omega
   have hys : (I.map fun i=>y i - (bAt l i).lo).sum = den - loS l:=by
    rw [sum_sub,← hsum y,hy.sum,← hlo]
   have hyd : dotF l y = loV l + (I.map fun i=>(y i - (bAt l i).lo) * (bAt l i).b).sum:=by
    rw [hdot,hlv,← sum_add]
    congr 1
    exact List.map_congr_left fun i _=>by rw [Int.sub_mul]; omega
   rw [hd,hyd]
   have hf:=feas_map (m:=fun i=>(bAt l i).hi - (bAt l i).lo) (v:=fun i=>(bAt l i).b) (x:=fun i=>y i - (bAt l i).lo) hfe
   have hdm:=dot_map (m:=fun i=>(bAt l i).hi - (bAt l i).lo) (v:=fun i=>(bAt l i).b) (x:=fun i=>y i - (bAt l i).lo) I
   cases most with
   | false =>
     have:=fill_min hf (den - loS l) (loV l) (List.pairwise_map.2 (w.imp fun h=>by simpa [leD] using h)) hys
     rw [hdm,x3] at this
     simp only [leD,Bool.false_eq_true,if_false]
     omega
   | true =>
     have:=fill_max hf (den - loS l) (loV l) (List.pairwise_map.2 (w.imp fun h=>by simpa [leD] using h)) hys
     rw [hdm,x3] at this
     simp only [leD,if_true]
     omega
theorem bAt_chW (f : Int → Int) (l : List Bd) {i : Nat} (hi : i < l.length) : bAt (chW f l) i = ⟨f (bAt l i).b,(bAt l i).lo,(bAt l i).hi⟩:=by simp [chW,bAt,List.getD,List.getElem?_eq_getElem hi]
theorem chW_len (f : Int → Int) (l : List Bd) : (chW f l).length = l.length:=by simp [chW]
theorem dotF_chW (f : Int → Int) (l : List Bd) (x : Nat → Int) : dotF (chW f l) x = ((List.range l.length).map fun i=>x i * f (bAt l i).b).sum:=by
 unfold dotF
 rw [chW_len]
 congr 1
 exact List.map_congr_left fun i hi=>by rw [bAt_chW f l (List.mem_range.1 hi)]
theorem TruthN.chW {den : Int} {l : List Bd} {x : Nat → Int} {f g : Int → Int} (h : TruthN den (chW f l) x) : TruthN den (chW g l) x:=by
 refine ⟨fun i hi=>?_,?_⟩
 · rw [chW_len] at hi
   have:=h.each i (by rw [chW_len]; exact hi)
   rw [bAt_chW f l hi] at this
   rw [bAt_chW g l hi]
   exact this
 · have:=h.sum
   rw [chW_len] at this ⊢
   exact this
theorem lowest_eq {r1 r2 : Ru} (h : r1.out = r2.out) : lowestR r1 = lowestR r2:=by unfold lowestR; rw [h]
structure LeR (r1 r2 : Ru) (m : Bool) : Prop where
 start : r1.start = r2.start
 out : r1.out = r2.out
 n : r1.ends.length = r2.ends.length
 aims : ∀ a1 ∈ r1.aims,∃ a2 ∈ r2.aims,∀ f g : Int → Int,(∀ b,0 ≤ b → b ≤ 499 → 0 ≤ f b ∧ f b ≤ 1000000) → (∀ b,0 ≤ b → b ≤ 499 → 0 ≤ g b ∧ g b ≤ 1000000) → (∀ b,0 ≤ b → b ≤ 499 → f b ≤ g b) → meanD m r1.d (chW f a1.beds) ≤ meanD m r2.d (chW g a2.beds)
 ends : ∀ k,k < r1.ends.length → endsD m (r2.ends.getD k (0,0)) ≤ endsD m (r1.ends.getD k (0,0))
theorem LeR.means {r1 r2 : Ru} {m : Bool} (h : LeR r1 r2 m) (hne : r1.aims ≠ []) {f g : Int → Int} (hf : ∀ b,0 ≤ b → b ≤ 499 → 0 ≤ f b ∧ f b ≤ 1000000) (hg : ∀ b,0 ≤ b → b ≤ 499 → 0 ≤ g b ∧ g b ≤ 1000000) (hfg : ∀ b,0 ≤ b → b ≤ 499 → f b ≤ g b) :
 maxL (meansV r1 m f) ≤ maxL (meansV r2 m g):=by
 obtain ⟨a,ha,e⟩:=List.mem_map.1 (maxL_mem (l:=meansV r1 m f) (by simpa [meansV] using hne))
 obtain ⟨a2,h2,h3⟩:=h.aims a ha
 rw [← e]
 exact Int.le_trans (h3 f g hf hg hfg) (le_maxL (List.mem_map.2 ⟨a2,h2,rfl⟩))
theorem LeR.after {r1 r2 : Ru} {m : Bool} (h : LeR r1 r2 m) (he : ∀ x ∈ r1.ends,endOk x = true) {T T' : List (List Int)} {k y : Nat} (hk : k < r1.ends.length)
 (hT : k + 1 < r1.ends.length → 0 ≤ (T.getD (k + 1) []).getD y 0 ∧ (T.getD (k + 1) []).getD y 0 ≤ (T'.getD (k + 1) []).getD y 0) : afterD r1 m T k y ≤ afterD r2 m T' k y:=by
 unfold afterD
 rw [← h.n]
 split
 · omega
 · rename_i hn
   obtain ⟨h0,h1⟩:=hT (by omega)
   have hm : r1.ends.getD k (0,0) ∈ r1.ends:=by
    rw [List.getD_eq_getElem?_getD,List.getElem?_eq_getElem hk]; exact List.getElem_mem _
   obtain ⟨g1,g2,g3⟩:=endOk_le (he _ hm)
   have hd:=h.ends k hk
   refine overD_mono (fun h=>h) (by omega) ?_
   have h3 : 0 ≤ 1000000 - endsD m (r1.ends.getD k (0,0)):=by unfold endsD; split <;> omega
   exact Int.mul_le_mul h1 (by omega) h3 (by omega)
theorem next_le2 {r1 r2 : Ru} {m : Bool} {T T' : List (List Int)} {k st left : Nat} {val val' : Nat → Int} {last : Bool} {b : Int} (ho : r1.out = r2.out) (b0 : 0 ≤ b) (b1 : b ≤ 499) (hst : (st : Int) ≤ r1.start) (hl : (left : Int) ≤ r1.start)
 (hA : ∀ y : Nat,(y : Int) ≤ r1.start → afterD r1 m T k y ≤ afterD r2 m T' k y) (hv : last = false → ∀ y : Nat,(y : Int) ≤ r1.start → val y ≤ val' y) :
 nextV r1 m T k st val last left b ≤ nextV r2 m T' k st val' last left b:=by
 obtain ⟨s0,s1⟩:=score_le b0 b1
 unfold nextV
 rw [lowest_eq ho,ho]
 split
 · omega
 · split
   · exact hA st hst
   · split
     · exact hA _ (by omega)
     · rename_i hn
       exact hv (by simpa using hn) _ (by omega)
theorem LeR.val {r1 r2 : Ru} {m : Bool} (hL : LeR r1 r2 m) (hA : AimsG r1) (hA2 : AimsG r2) {T T' : List (List Int)} {k st : Nat} (h : VisG r1 T k st) (h' : VisG r2 T' k st) (hT : RowLe r1 T T' k) :
 ∀ n left : Nat,(left : Int) ≤ r1.start → valV r1 m T k st n left ≤ valV r2 m T' k st n left
 | 0,_,_=>by simp only [valV]; omega
 | n + 1, left, hl => by
   simp only [valV]
   have hl2 : (left : Int) ≤ r2.start:=by rw [← hL.start]; exact hl
   exact hL.means hA.ne (fun b b0 b1=>nextV_le h hl b0 b1 fun _ x hx=>valV_le h hA n x hx) (fun b b0 b1=>nextV_le h' hl2 b0 b1 fun _ x hx=>valV_le h' hA2 n x hx)
    fun b b0 b1=>next_le2 hL.out b0 b1 h.st40 hl (fun y hy=>hL.after h.ends h.kk fun hk=>⟨h.row0 hy hk,hT hk y hy⟩) fun _ y hy=>hL.val hA hA2 h h' hT n y hy
theorem LeR.tab {r1 r2 : Ru} {m : Bool} (hL : LeR r1 r2 m) (h1 : RuG r1) (h2 : RuG r2) : ∀ i,i ≤ r1.ends.length → ∀ j y : Nat,(y : Int) ≤ r1.start → ((tabI r1 m i).getD j []).getD y 0 ≤ ((tabI r2 m i).getD j []).getD y 0
 | 0,_,j,y,_=>by simp only [tabI,hL.n]; omega
 | i + 1, hi, j, y, hy => by
   have ih:=hL.tab h1 h2 i (by omega)
   have hy2 : (y : Int) ≤ r2.start:=by rw [← hL.start]; exact hy
   have hn:=hL.n
   simp only [tabI];rw [← hn]
   by_cases e : j = r1.ends.length - 1 - i
   · subst e
     have g0 : ((tabI r1 m i).set (r1.ends.length - 1 - i) (rowV r1 m (tabI r1 m i) (r1.ends.length - 1 - i))).getD (r1.ends.length - 1 - i) [] = rowV r1 m (tabI r1 m i) (r1.ends.length - 1 - i):=by
      rw [List.getD_eq_getElem?_getD,List.getElem?_set_self (by rw [tabI_len]; omega)]; rfl
     have g1 : ((tabI r2 m i).set (r1.ends.length - 1 - i) (rowV r2 m (tabI r2 m i) (r1.ends.length - 1 - i))).getD (r1.ends.length - 1 - i) [] = rowV r2 m (tabI r2 m i) (r1.ends.length - 1 - i):=by
      rw [List.getD_eq_getElem?_getD,List.getElem?_set_self (by rw [tabI_len]; omega)]; rfl
     rw [g0,g1,rowV_getD _ _ _ _ _ hy,rowV_getD _ _ _ _ _ hy2,lowest_eq hL.out]
     split
     · omega
     · have v2:=vis_at h2 m i (by omega) y hy2
       rw [← hn] at v2
       exact hL.val h1.aims h2.aims (vis_at h1 m i (by omega) y hy) v2 (fun _ z hz=>ih _ z hz) 3 y hy
   · have g0 : ∀ (A : List (List Int)) (x : List Int),(A.set (r1.ends.length - 1 - i) x).getD j [] = A.getD j []:=fun A x=>by
      rw [List.getD_eq_getElem?_getD,List.getD_eq_getElem?_getD,List.getElem?_set_ne (fun h=>e h.symm)]
     rw [g0,g0]
     exact ih j y hy
theorem LeR.tabF {r1 r2 : Ru} {m : Bool} (hL : LeR r1 r2 m) (h1 : RuG r1) (h2 : RuG r2) {j y : Nat} (hy : (y : Int) ≤ r1.start) : ((Go.Proofs.Ytlljkgiomkmjbaa.Du.tabF r1 m).getD j []).getD y 0 ≤ ((Go.Proofs.Ytlljkgiomkmjbaa.Du.tabF r2 m).getD j []).getD y 0:=by
 unfold Go.Proofs.Ytlljkgiomkmjbaa.Du.tabF
 rw [← hL.n]
 exact hL.tab h1 h2 _ (Nat.le_refl _) j y hy
structure NarB (l l' : List Bd) : Prop where
 len : l'.length = l.length
 each : ∀ i,i < l.length → (bAt l' i).b = (bAt l i).b ∧ (bAt l i).lo ≤ (bAt l' i).lo ∧ (bAt l' i).hi ≤ (bAt l i).hi
theorem TruthN.wide {den : Int} {l l' : List Bd} {x : Nat → Int} {f g : Int → Int} (hN : NarB l l') (h : TruthN den (Go.Proofs.Ytlljkgiomkmjbaa.Du.chW f l') x) : TruthN den (Go.Proofs.Ytlljkgiomkmjbaa.Du.chW g l) x:=by
 refine ⟨fun i hi=>?_,?_⟩
 · rw [chW_len] at hi
   have h1:=h.each i (by rw [chW_len,hN.len]; exact hi)
   rw [bAt_chW f l' (by rw [hN.len]; exact hi)] at h1
   rw [bAt_chW g l hi]
   have h2:=hN.each i hi
   simp only at h1 ⊢
   omega
 · have:=h.sum
   rw [chW_len,hN.len] at this
   rw [chW_len]; exact this
theorem dot_nar {l l' : List Bd} {x : Nat → Int} {f : Int → Int} (hN : NarB l l') : dotF (Go.Proofs.Ytlljkgiomkmjbaa.Du.chW f l') x = dotF (Go.Proofs.Ytlljkgiomkmjbaa.Du.chW f l) x:=by
 rw [dotF_chW,dotF_chW,hN.len]
 congr 1
 exact List.map_congr_left fun i hi=>by rw [(hN.each i (List.mem_range.1 hi)).1]
theorem dot_le {den : Int} {l : List Bd} {x : Nat → Int} {f g : Int → Int} (h : TruthN den (Go.Proofs.Ytlljkgiomkmjbaa.Du.chW f l) x) (h0 : ∀ c ∈ l,0 ≤ c.lo ∧ f c.b ≤ g c.b) : dotF (Go.Proofs.Ytlljkgiomkmjbaa.Du.chW f l) x ≤ dotF (Go.Proofs.Ytlljkgiomkmjbaa.Du.chW g l) x:=by
 rw [dotF_chW,dotF_chW]
 refine sum_le_map fun i hi=>?_
 have hil:=List.mem_range.1 hi
 have h1:=h.each i (by rw [chW_len]; exact hil)
 rw [bAt_chW f l hil] at h1
 have h2:=h0 _ (bAt_mem hil)
 simp only at h1
 exact Int.mul_le_mul_of_nonneg_left h2.2 (by omega)
theorem nar_mean {den : Int} {l l' : List Bd} (hN : NarB l l') {f g : Int → Int} (hf : ChG den (Go.Proofs.Ytlljkgiomkmjbaa.Du.chW f l)) (hg : ChG den (Go.Proofs.Ytlljkgiomkmjbaa.Du.chW g l)) (hf' : ChG den (Go.Proofs.Ytlljkgiomkmjbaa.Du.chW f l')) (hg' : ChG den (Go.Proofs.Ytlljkgiomkmjbaa.Du.chW g l')) (hh : den ≤ hiS l) (hh' : den ≤ hiS l')
 (hfg : ∀ c ∈ l,0 ≤ c.lo ∧ f c.b ≤ g c.b) : meanD true den (Go.Proofs.Ytlljkgiomkmjbaa.Du.chW f l') ≤ meanD true den (Go.Proofs.Ytlljkgiomkmjbaa.Du.chW g l) ∧ meanD false den (Go.Proofs.Ytlljkgiomkmjbaa.Du.chW f l) ≤ meanD false den (Go.Proofs.Ytlljkgiomkmjbaa.Du.chW g l'):=by
 constructor
 · obtain ⟨x,x1,x2,x3⟩:=mean_opt (most:=true) hf' (by rw [hiS_chW]; exact hh')
   obtain ⟨y,y1,y2,y3⟩:=mean_opt (most:=true) hg (by rw [hiS_chW]; exact hh)
   have h1:=y3 x (x1.wide hN)
   have h2:=dot_le (x1.wide (g:=f) hN) hfg
   simp only [leD,if_true] at h1
   rw [x2,y2,dot_nar hN]
   exact overD_mono (fun h=>h) hf.den0 (by omega)
 · obtain ⟨x,x1,x2,x3⟩:=mean_opt (most:=false) hf (by rw [hiS_chW]; exact hh)
   obtain ⟨y,y1,y2,y3⟩:=mean_opt (most:=false) hg' (by rw [hiS_chW]; exact hh')
   have h1:=x3 y (y1.wide hN)
   have h2:=dot_le (y1.wide (g:=f) hN) hfg
   simp only [leD,Bool.false_eq_true,if_false] at h1
   rw [x2,y2,dot_nar hN]
   exact overD_mono (fun h=>h) hf.den0 (by omega)
theorem endOk_mk {x : Int × Int} (h : 0 ≤ x.1 ∧ x.1 ≤ x.2 ∧ x.2 ≤ 1000000) : endOk x = true:=by
 simp only [endOk,withinL,List.all_cons,List.all_nil,Bool.and_true,Bool.and_eq_true,decide_eq_true_eq]
 omega
theorem ruE_of {r : Ru} (hc : checkV r.d r.aims = 0) (hs : 2 ≤ r.start ∧ r.start ≤ 40) (ho : 0 ≤ r.out ∧ r.out ≤ 2) (hn : 1 ≤ r.ends.length ∧ r.ends.length ≤ 10) (he : ∀ x ∈ r.ends,endOk x = true) (hl : lastE r = 1000000) : ruE r = 0:=by
 have he':=List.all_eq_true.2 he
 simp [ruE,hc,he',hl,hs,ho,hn]
theorem aims_all {r : Ru} (h : checkV r.d r.aims = 0) : ∀ a ∈ r.aims,aimOk r.d a = true:=by
 unfold checkV at h
 split at h
 · cases h
 · split at h
   · cases h
   · split at h
     · rename_i h3; exact List.all_eq_true.1 h3
     · cases h
theorem aimOk_parts {d : Int} {a : Am} (h : aimOk d a = true) : bedOk a.at_ = true ∧ a.beds ≠ [] ∧ seqOk none a.beds = true ∧ (∀ x ∈ a.beds,0 ≤ x.lo ∧ x.lo ≤ x.hi ∧ x.hi ≤ d) ∧ loS a.beds ≤ d ∧ d ≤ hiS a.beds:=by
 simp only [aimOk,Bool.and_eq_true,decide_eq_true_eq] at h
 obtain ⟨⟨⟨⟨⟨h1,h2⟩,h3⟩,h4⟩,h5⟩,h6⟩:=h
 refine ⟨h1,fun e=>by rw [e] at h2; simp at h2,h3,fun x hx=>?_,h5,h6⟩
 simp only [chOk,List.all_eq_true,Bool.and_eq_true,decide_eq_true_eq] at h4
 have:=h4 x hx
 omega
theorem wfA_aim {d : Int} {a : Am} (hd : d ≤ 3000) (h : aimOk d a = true) : WfA a:=by
 obtain ⟨h1,_,h3,h4,_,_⟩:=aimOk_parts h
 have hb:=fun b (hb : bedOk b = true)=>bedOk_le hb
 have:=hb _ h1
 refine ⟨by unfold I64; omega,fun c hc=>?_⟩
 have:=h4 c hc
 have hcb : 0 ≤ c.b ∧ c.b ≤ 499:=by
  rcases seq_beds h3 c hc with h | h
  · omega
  · exact hb _ h
 unfold I64
 omega
theorem wfL_chk {d : Int} {l : List Am} (h : checkV d l = 0) (hd : 0 ≤ d ∧ d ≤ 3000) : WfL d l:=⟨by unfold I64; omega,fun a ha=>wfA_aim hd.2 (aims_all (r:=⟨d,l,0,0,[]⟩) h a ha)⟩
set_option linter.unusedSimpArgs false
set_option maxRecDepth 8000
theorem bedP_all : ∀ n,n < 256 → bedOk (bedP n) = true ∧ 0 ≤ scoreOf (bedP n) ∧ scoreOf (bedP n) ≤ 60:=by decide +kernel
theorem there_mem {l : List Nat} {b : Nat} : ∀ {i : Nat},(thereB l i).getD b false = true → ∃ j,j < i ∧ b = bedP (bytA l j)
 | 0, h => by
   unfold thereB at h
   rw [List.getD_eq_getElem?_getD,List.getElem?_replicate] at h
   split at h <;> simp at h
 | i + 1, h => by
   unfold thereB at h
   rw [List.getD_eq_getElem?_getD,List.getElem?_set] at h
   split at h
   · rename_i e
     exact ⟨i,by omega,e.symm⟩
   · rw [← List.getD_eq_getElem?_getD] at h
     obtain ⟨j,hj,e⟩:=there_mem h
     exact ⟨j,by omega,e⟩
theorem there_set (l : List Nat) (i : Nat) : (thereB l (i + 1)).getD (bedP (bytA l i)) false = true:=by
 have:=bedP_lt (n:=bytA l i)
 unfold thereB
 rw [List.getD_eq_getElem?_getD,List.getElem?_set,if_pos rfl,if_pos (by rw [there_len]; omega)]
 rfl
theorem here_len (B : List Bool) : ∀ k,(hereB B k).length = (B.take k).countP id
 | 0=>by simp [hereB]
 | k + 1 => by
   rw [here_snoc,List.length_append,here_len B k]
   by_cases h : k < B.length
   · obtain ⟨x,hx⟩:=opt_of_lt h
     rw [take_of_opt hx,List.countP_append,List.getD_eq_getElem?_getD,hx]
     cases x <;> simp
   · rw [List.take_of_length_le (by omega),List.take_of_length_le (by omega),List.getD_eq_getElem?_getD,List.getElem?_eq_none (by omega)]
     simp
theorem count_set (v : Bool) : ∀ (B : List Bool) (j : Nat),(B.set j v).countP id ≤ B.countP id + 1
 | [],j=>by simp
 | x :: B, 0 => by
   rw [List.set_cons_zero,List.countP_cons,List.countP_cons]
   split <;> split <;> omega
 | x :: B, j + 1 => by
   rw [List.set_cons_succ,List.countP_cons,List.countP_cons]
   have:=count_set v B j
   omega
theorem there_count (l : List Nat) : ∀ i,(thereB l i).countP id ≤ i
 | 0=>by simp [thereB,List.countP_replicate]
 | i + 1 => by
   have h1:=there_count l i
   have h2:=count_set true (thereB l i) (bedP (bytA l i))
   unfold thereB
   omega
abbrev bsP (l : List Nat) (most : Nat) : List Int:=(bedsP l most).map fun n : Nat=>(n : Int)
theorem bsP_ok {l : List Nat} (hl : ∀ n ∈ l,n < 256) {most : Nat} (hm : 1 ≤ most ∧ most ≤ 10) : Th.BsOk (bsP l most):=by
 have hr : 1 ≤ rndN l most ∧ rndN l most ≤ most:=by unfold rndN; omega
 refine ⟨?_,?_,?_,?_⟩
 · rw [List.pairwise_map]
   have : (bedsP l most).Pairwise (· < ·):=by
    unfold bedsP hereB
    exact (List.pairwise_lt_range (n:=500)).filter _
   exact this.imp fun h=>by omega
 · intro e
   have e:=List.map_eq_nil_iff.1 e
   have hs:=there_set l (rndN l most - 1)
   have hlt:=bedP_lt (n:=bytA l (rndN l most - 1))
   rw [show rndN l most - 1 + 1 = rndN l most by omega] at hs
   have hmem : bedP (bytA l (rndN l most - 1)) ∈ bedsP l most:=List.mem_filter.2 ⟨List.mem_range.2 (by omega),hs⟩
   rw [e] at hmem
   cases hmem
 · rw [List.length_map]
   have h1:=here_len (thereB l (rndN l most)) 500
   have h2:=there_count l (rndN l most)
   rw [List.take_of_length_le (by rw [there_len]; omega)] at h1
   unfold bedsP
   omega
 · intro b hb
   obtain ⟨n,hn,rfl⟩:=List.mem_map.1 hb
   obtain ⟨j,_,rfl⟩:=there_mem (List.mem_filter.1 hn).2
   obtain ⟨q1,q2⟩:=bedP_all _ (bytA_lt hl j)
   exact ⟨.inr q1,q2⟩
def hitN (H : List (List Nat)) (i k : Nat) : Nat:=if i < H.length then (H.getD i []).getD k 0 else 0
def thP (nb : Nat) (H : List (List Nat)) (kn : Bool) (i : Nat) : Th.Th:=⟨hitN H i 0 % nb,hitN H i 1 % nb,hitN H i 2 % nb,kn⟩
def visN (H : List (List Nat)) : Nat:=max 1 (min 20 H.length)
def thsP (nb : Nat) (H : List (List Nat)) (kn : Bool) (m : Nat) : List Th.Th:=(List.range m).map (thP nb H kn)
theorem ths_ls {bs : List Int} (hb : Th.BsOk bs) (H : List (List Nat)) (kn : Bool) : Th.Ls bs (thsP bs.length H kn (visN H)):=by
 have hpos : 0 < bs.length:=List.length_pos_iff.2 hb.ne
 have hv : 1 ≤ visN H ∧ visN H ≤ 20:=by unfold visN; omega
 refine ⟨hb,fun e=>?_,by simp [thsP]; omega,fun p hp=>?_⟩
 · have : (thsP bs.length H kn (visN H)).length = 0:=by rw [e]; rfl
   simp [thsP] at this
   omega
 · obtain ⟨i,_,rfl⟩:=List.mem_map.1 hp
   exact ⟨Nat.mod_lt _ hpos,Nat.mod_lt _ hpos,Nat.mod_lt _ hpos⟩
theorem ths_cnt (nb : Nat) (H : List (List Nat)) (m k : Nat) : Th.cntK (thsP nb H true m) k = Th.cntK (thsP nb H false m) k:=by
 simp only [Th.cntK,thsP,List.map_map]
 rfl
def fitB (bs : List Int) (H : List (List Nat)) (kn : Bool) : List Bd:=Th.spB bs (Th.visL bs (thsP bs.length H kn (visN H)))
theorem fit_nar {bs : List Int} (hb : Th.BsOk bs) (H : List (List Nat)) : NarB (fitB bs H false) (fitB bs H true):=by
 refine ⟨by simp [fitB,Th.spB],fun i hi=>?_⟩
 have hi : i < bs.length:=by simpa [fitB,Th.spB] using hi
 have hl:=hb.len
 have g : ∀ kn,bAt (fitB bs H kn) i = ⟨bs.getD i 0,((Th.visL bs (thsP bs.length H kn (visN H))).map (Th.loK bs i)).sum,((Th.visL bs (thsP bs.length H kn (visN H))).map (Th.hiK bs i)).sum⟩:=fun kn=>by
  simp [bAt,fitB,Th.spB,List.getD,hi]
 rw [g false,g true]
 have h1:=Th.cnt_between (k:=i) (by omega) (ths_ls hb H false)
 have h2:=Th.cnt_full (k:=i) (by omega) (ths_ls hb H true) fun p hp=>by
  obtain ⟨j,_,rfl⟩:=List.mem_map.1 hp
  rfl
 rw [ths_cnt] at h2
 exact ⟨rfl,by simp only; omega,by simp only; omega⟩
theorem fit_chk {bs : List Int} (hb : Th.BsOk bs) (H : List (List Nat)) (kn : Bool) : checkV (3 * (visN H : Int)) [⟨201,fitB bs H kn⟩] = 0:=by
 have h:=Th.spB_check (ths_ls hb H kn)
 have hl : (thsP bs.length H kn (visN H)).length = visN H:=by simp [thsP]
 rw [hl] at h
 exact h
theorem fit_val {bs : List Int} (hb : Th.BsOk bs) (H : List (List Nat)) (kn : Bool) : Th.fitV (Th.aimB bs) (Th.visL bs (thsP bs.length H kn (visN H))) = (⟨201,fitB bs H kn⟩,3 * (visN H : Int),0,0):=by
 have h:=Th.fit_vis (ths_ls hb H kn)
 have hl : (thsP bs.length H kn (visN H)).length = visN H:=by simp [thsP]
 rw [hl] at h
 exact h
theorem nar_le {d st g : Int} {en : List Sp} {a a' : Am} (h : ruE ⟨d,[a],st,g,en⟩ = 0) (h' : ruE ⟨d,[a'],st,g,en⟩ = 0) (hN : NarB a.beds a'.beds) :
 LeR ⟨d,[a'],st,g,en⟩ ⟨d,[a],st,g,en⟩ true ∧ LeR ⟨d,[a],st,g,en⟩ ⟨d,[a'],st,g,en⟩ false:=by
 obtain ⟨hG,_⟩:=ruG_of h
 obtain ⟨hG',_⟩:=ruG_of h'
 have hH:=refH_of h
 have hH':=refH_of h'
 have key : ∀ f g : Int → Int,(∀ b,0 ≤ b → b ≤ 499 → 0 ≤ f b ∧ f b ≤ 1000000) → (∀ b,0 ≤ b → b ≤ 499 → 0 ≤ g b ∧ g b ≤ 1000000) → (∀ b,0 ≤ b → b ≤ 499 → f b ≤ g b) →
  meanD true d (Go.Proofs.Ytlljkgiomkmjbaa.Du.chW f a'.beds) ≤ meanD true d (Go.Proofs.Ytlljkgiomkmjbaa.Du.chW g a.beds) ∧ meanD false d (Go.Proofs.Ytlljkgiomkmjbaa.Du.chW f a.beds) ≤ meanD false d (Go.Proofs.Ytlljkgiomkmjbaa.Du.chW g a'.beds):=fun f g hf hg hfg=>by
  have m1 : a ∈ [a]:=by simp
  have m2 : a' ∈ [a']:=by simp
  refine nar_mean hN (hG.aims.ch hf a m1) (hG.aims.ch hg a m1) (hG'.aims.ch hf a' m2) (hG'.aims.ch hg a' m2) (hH.hi a m1) (hH'.hi a' m2) fun c hc=>?_
  obtain ⟨q1,q2⟩:=(hG.aims.beds a m1).2.2 c hc
  exact ⟨q2.1,hfg _ q1.1 q1.2⟩
 refine ⟨⟨rfl,rfl,rfl,fun x hx=>?_,fun k _=>Int.le_refl _⟩,⟨rfl,rfl,rfl,fun x hx=>?_,fun k _=>Int.le_refl _⟩⟩
 · simp only [List.mem_singleton] at hx
   subst hx
   exact ⟨a,by simp,fun f g hf hg hfg=>(key f g hf hg hfg).1⟩
 · simp only [List.mem_singleton] at hx
   subst hx
   exact ⟨a',by simp,fun f g hf hg hfg=>(key f g hf hg hfg).2⟩
set_option maxHeartbeats 4000000
abbrev totR (l : List Int) : RV:=.sl 2 (l.map fun n=>[.ns,i64 n])
abbrev totV (l : List Int) : List Th.Vi:=l.map fun n=>⟨[],n⟩
theorem cellsN_rel {w : World} {R : Nat → Prop} : ∀ (l : List Int) (ad : Addr) (j : Nat),RV.relE w R 2 (l.map fun n=>[.ns,i64 n]) ad j → RV.relE w R 2 ((totV l).map Th.viC) ad j
 | [],_,_,h=>h
 | n :: l, ad, j, h => by
   simp only [List.map_cons,RV.relE,RV.relC,Th.viC] at h ⊢
   obtain ⟨_,⟨⟨u,h1,h2,h3⟩,h5⟩,h4⟩:=h
   have e:=cellT_rel (l:=[]) (w:=w) (R:=R) (v:=u) (by unfold cellT; rw [if_pos rfl]; exact h3)
   exact ⟨rfl,⟨⟨u,h1,h2,e⟩,h5⟩,cellsN_rel l ad (j + 2) h4⟩
theorem totR_rel {w : World} {R : Nat → Prop} {l : List Int} {v : Value} (h : (totR l).rel w R v) : (Th.visR (totV l)).rel w R v:=by
 simp only [RV.rel,List.length_map] at h ⊢
 obtain ⟨A,c,h1,h2,h3,h4⟩:=h
 refine ⟨A,c,h1,h2,h3,fun hn=>?_⟩
 obtain ⟨ad,g1,g2,g3⟩:=h4 (by cases l <;> simp_all)
 exact ⟨ad,g1,g2,cellsN_rel _ _ _ g3⟩
theorem fit_ns {x : RV} {l : List Int} {v : RV} (h : ACalls Try.prog 74 [x,Th.visR (totV l)] v) : ACalls Try.prog 74 [x,totR l] v:=acalls_weak h fun w R vs hv=>by
 simp only [RV.relV] at hv ⊢
 obtain ⟨u,us,e1,hu,u2,us2,e2,h2,h3⟩:=hv
 exact ⟨u,us,e1,hu,u2,us2,e2,totR_rel h2,h3⟩
def triN (nb : Nat) (H : List (List Nat)) (i k : Nat) : Nat:=hitN H i k % nb
def dartsL (bs : List Int) (H : List (List Nat)) (i k : Nat) : List Int:=(List.range k).map fun j=>bs.getD (triN bs.length H i j) 0
def totL (bs : List Int) (H : List (List Nat)) (i k : Nat) : Int:=((dartsL bs H i k).map scoreOf).sum
theorem darts_snoc (bs : List Int) (H : List (List Nat)) (i k : Nat) : dartsL bs H i (k + 1) = dartsL bs H i k ++ [bs.getD (triN bs.length H i k) 0]:=by
 simp [dartsL,List.range_succ]
theorem tot_snoc (bs : List Int) (H : List (List Nat)) (i k : Nat) : totL bs H i (k + 1) = totL bs H i k + scoreOf (bs.getD (triN bs.length H i k) 0):=by
 simp [totL,darts_snoc]
theorem darts_len (bs : List Int) (H : List (List Nat)) (i k : Nat) : (dartsL bs H i k).length = k:=by simp [dartsL]
theorem vis_known (bs : List Int) (H : List (List Nat)) (i : Nat) : Th.visP bs (thP bs.length H true i) = ⟨dartsL bs H i 3,0⟩:=rfl
theorem vis_total (bs : List Int) (H : List (List Nat)) (i : Nat) : Th.visP bs (thP bs.length H false i) = ⟨[],totL bs H i 3⟩:=by
 show (⟨[],Th.sum3 bs _ _ _⟩ : Th.Vi) = _
 simp [Th.sum3,totL,dartsL,List.range_succ,thP,triN]
 omega
theorem tot_le {bs : List Int} (hb : Th.BsOk bs) (H : List (List Nat)) (i : Nat) : ∀ k,0 ≤ totL bs H i k ∧ totL bs H i k ≤ 60 * k
 | 0=>by simp [totL,dartsL]
 | k + 1 => by
   have hpos : 0 < bs.length:=List.length_pos_iff.2 hb.ne
   have hm:=hb.bed _ (Th.mem_getD (k:=triN bs.length H i k) (Nat.mod_lt _ hpos))
   have ih:=tot_le hb H i k
   rw [tot_snoc]
   omega
def knL (bs : List Int) (H : List (List Nat)) (m : Nat) : List (List RV):=(List.range m).map fun i=>[ints (dartsL bs H i 3),i64 0]
def toL (bs : List Int) (H : List (List Nat)) (m : Nat) : List Int:=(List.range m).map fun i=>totL bs H i 3
theorem kn_snoc (bs : List Int) (H : List (List Nat)) (m : Nat) : knL bs H (m + 1) = knL bs H m ++ [[ints (dartsL bs H m 3),i64 0]]:=by simp [knL,List.range_succ]
theorem to_snoc (bs : List Int) (H : List (List Nat)) (m : Nat) : toL bs H (m + 1) = toL bs H m ++ [totL bs H m 3]:=by simp [toL,List.range_succ]
theorem kn_len (bs : List Int) (H : List (List Nat)) (m : Nat) : (knL bs H m).length = m:=by simp [knL]
theorem to_len (bs : List Int) (H : List (List Nat)) (m : Nat) : (toL bs H m).length = m:=by simp [toL]
theorem kn_eq (bs : List Int) (H : List (List Nat)) (m : Nat) : (Th.visL bs (thsP bs.length H true m)).map Th.viC = knL bs H m:=by
 simp only [thsP,knL,List.map_map];exact List.map_congr_left fun i _=>by simp only [Function.comp,vis_known,Th.viC]
theorem to_eq (bs : List Int) (H : List (List Nat)) (m : Nat) : Th.visL bs (thsP bs.length H false m) = totV (toL bs H m):=by
 simp only [thsP,toL,List.map_map];exact List.map_congr_left fun i _=>by simp only [Function.comp,vis_total]
theorem fit_known {bs : List Int} (hb : Th.BsOk bs) (H : List (List Nat)) : ACalls Try.prog 74 [aimV (Th.aimB bs),.sl 2 (knL bs H (visN H))] (.tu [aimV ⟨201,fitB bs H true⟩,i64 (3 * (visN H : Int)),i64 0,i64 0]):=by
 have hw : WfA (Th.aimB bs):=by
  refine ⟨by unfold Th.aimB I64; simp only; omega,fun c hc=>?_⟩
  obtain ⟨b,hb',rfl⟩:=List.mem_map.1 hc
  have hq : 0 ≤ b ∧ b ≤ 499:=by
   rcases (hb.bed b hb').1 with h | h
   · omega
   · exact bedOk_le h
  unfold I64; simp only; omega
 have h:=Th.fit_ok (Th.aimB bs) (Th.visL bs (thsP bs.length H true (visN H))) hw
 rw [fit_val hb H true] at h
 rw [← kn_eq]
 exact h
theorem fit_total {bs : List Int} (hb : Th.BsOk bs) (H : List (List Nat)) : ACalls Try.prog 74 [aimV (Th.aimB bs),totR (toL bs H (visN H))] (.tu [aimV ⟨201,fitB bs H false⟩,i64 (3 * (visN H : Int)),i64 0,i64 0]):=by
 have hw : WfA (Th.aimB bs):=by
  refine ⟨by unfold Th.aimB I64; simp only; omega,fun c hc=>?_⟩
  obtain ⟨b,hb',rfl⟩:=List.mem_map.1 hc
  have hq : 0 ≤ b ∧ b ≤ 499:=by
   rcases (hb.bed b hb').1 with h | h
   · omega
   · exact bedOk_le h
  unfold I64; simp only; omega
 have h:=Th.fit_ok (Th.aimB bs) (Th.visL bs (thsP bs.length H false (visN H))) hw
 rw [fit_val hb H false,to_eq] at h
 exact fit_ns h
theorem tables_ok (A B : List (List Int)) (n st : Nat) (hn : n ≤ 1000) (hs : st ≤ 1000) (h1 : A.length = n ∧ ∀ r ∈ A,r.length = st + 1) (h2 : B.length = n ∧ ∀ r ∈ B,r.length = st + 1) :
 ACalls Try.prog 35 [tabR A,tabR B,i64 (n : Int),i64 (st : Int)] (.bo true):=by
 have w1 : IntKind.i64.wrap ((st : Int) + 1) = (st : Int) + 1:=by rw [zI] <;> omega
 refine acalls_st (rs:=[.bo true]) [.tmp 8] Try.func35 rfl (by kernel_rfl) Try.ntmps35 rfl (by simp) rfl fun C vs=>?_
 repeat refine zq ?_
 refine zb fun K hK=>?_;simp only [go_sem];(try simp (disch:=omega) only [zI]);repeat first | intro _ | refine ⟨by omega,?_⟩
 refine hK _ ?_;clear hK K;refine zw (zk [0,1,2,3]) ?_;simp only [go_sem]
 repeat refine zq ?_
 refine zb fun K hK=>?_;simp only [go_sem,h1.1,h2.1,List.length_map,bne_self_eq_false];(try simp (disch:=omega) only [zI]);repeat first | intro _ | refine ⟨by omega,?_⟩
 refine hK _ ?_;clear hK K;refine zw (zk [0,1,2,3,19]) ?_;simp only [go_sem]
 repeat refine zq ?_
 refine zc rfl (fun hc=>?_) (fun hc=>?_) <;> (try simp only [go_sem] at hc)
 refine zx ?_
 try simp only [go_sem]
 repeat refine zq ?_
 refine zb fun K hK=>?_;simp only [go_sem];(try simp (disch:=omega) only [zI]);repeat first | intro _ | refine ⟨by omega,?_⟩
 refine hK _ ?_;clear hK K;refine zw (zk [0,1,2,3,9]) ?_;simp only [go_sem]
 repeat refine zq ?_
 refine zd ?_
 refine awp_upto (n:=43) n (fun i vs=>[(0,.r (tabR A)),(1,.r (tabR B)),(2,.r (i64 (n : Int))),(3,.r (i64 (st : Int))),(9,.r (i64 (i : Int)))])
  (fun i=>[]) (fun _=>True) 0 (fit_of [] ?_ ?_) (Nat.zero_le _) trivial ?_
 · try simp only [go_sem]
 · try simp only [go_sem]
 · intro i vs hi _
   by_cases hin : i < n
   · obtain ⟨ra,hra⟩:=opt_of_lt (l:=A) (i:=i) (by omega)
     obtain ⟨rb,hrb⟩:=opt_of_lt (l:=B) (i:=i) (by omega)
     have la:=h1.2 ra (mem_of_opt hra)
     have lb:=h2.2 rb (mem_of_opt hrb)
     have hiA : i < A.length:=by omega
     have hiB : i < B.length:=by omega
     have g1 : decide ((i : Int) < (n : Int)) = true:=decide_eq_true (by omega)
     have e1 : (((st + 1 : Nat) : Int) != (st : Int) + 1) = false:=by simp
     repeat refine zq ?_
     refine zb fun K hK=>?_;simp only [go_sem,hin];(try simp (disch:=omega) only [zI]);repeat first | intro _ | refine ⟨by omega,?_⟩
     refine hK _ ?_;clear hK K;refine zw (zk [0,1,2,3,9,22]) ?_;simp only [go_sem]
     repeat refine zq ?_
     refine zc rfl (fun hc=>?_) (fun hc=>?_) <;> (try simp only [go_sem] at hc)
     refine zx ?_
     try simp only [go_sem]
     repeat refine zq ?_
     refine zd ?_
     repeat refine zq ?_
     refine zb fun K hK=>?_;simp only [go_sem,hra,hrb,la,lb,hiA,hiB,w1,e1,List.length_map,bne_self_eq_false];(try simp (disch:=omega) only [zI]);repeat first | intro _ | refine ⟨by omega,?_⟩
     repeat first | intro _ | refine ⟨by omega,?_⟩
     refine hK _ ?_;clear hK K;refine zw (zk [0,1,2,3,9,42]) ?_;simp only [go_sem]
     repeat refine zq ?_
     refine zc rfl (fun hc=>?_) (fun hc=>?_) <;> (try simp only [go_sem] at hc)
     refine zx ?_
     try simp only [go_sem]
     repeat refine zq ?_
     refine zb fun K hK=>?_;simp only [go_sem];(try simp (disch:=omega) only [zI]);repeat first | intro _ | refine ⟨by omega,?_⟩
     refine hK _ ?_;clear hK K
     try simp only [go_sem]
     refine ⟨by omega,fit_of [] ?_ ?_⟩
     · try simp only [go_sem]
     · try simp only [go_sem]
   · have hie : i = n:=by omega
     subst hie
     repeat refine zq ?_
     refine zb fun K hK=>?_;simp only [go_sem,Nat.lt_irrefl];(try simp (disch:=omega) only [zI]);repeat first | intro _ | refine ⟨by omega,?_⟩
     refine hK _ ?_;clear hK K;refine zw (zk [22]) ?_;simp only [go_sem]
     repeat refine zq ?_
     refine zc rfl (fun hc=>?_) (fun hc=>?_) <;> (try simp only [go_sem] at hc)
     refine zf ?_;simp only [go_sem]
     repeat refine zq ?_
     refine zb fun K hK=>?_;simp only [go_sem];(try simp (disch:=omega) only [zI]);repeat first | intro _ | refine ⟨by omega,?_⟩
     refine hK _ ?_;clear hK K;refine zw (zk [8]) ?_;simp only [go_sem];refine ze ?_;simp only [go_sem]
abbrev trisR (H : List (List Nat)) : RV:=.sl 3 (H.map fun a=>a.map u8Q)
theorem fits_ok (l : List Nat) (hl : ∀ n ∈ l,n < 256) (H : List (List Nat)) (hH : ∀ a ∈ H,a.length = 3 ∧ ∀ n ∈ a,n < 256) :
 ACalls Try.prog 36 [bytR l,trisR H] (.tu [aimV ⟨201,fitB (bsP l 5) H true⟩,aimV ⟨201,fitB (bsP l 5) H false⟩,i64 (3 * (visN H : Int)),.bo true]):=by
 have hbs:=bsP_ok hl (most:=5) (by omega)
 have hpb:=pbeds_ok l 5 hl (by omega)
 have hkn:=fit_known hbs H
 have hto:=fit_total hbs H
 have hint : intsN (bedsP l 5) = ints (bsP l 5):=rfl
 rw [hint] at hpb
 have hpos : 0 < (bsP l 5).length:=List.length_pos_iff.2 hbs.ne
 have hb10:=hbs.len
 generalize bsP l 5 = bs at *
 have hvn : 1 ≤ visN H ∧ visN H ≤ 20:=by unfold visN; omega
 refine acalls_st (rs:=[aimV ⟨201,fitB bs H true⟩,aimV ⟨201,fitB bs H false⟩,i64 (3 * (visN H : Int)),.bo true]) [.cell 4 81,.cell 5 81,.tmp 6,.tmp 7] Try.func36 rfl (by kernel_rfl) Try.ntmps36 rfl (by simp) rfl fun C vs=>?_
 repeat refine zq ?_
 refine zb fun K hK=>?_;simp only [go_sem];(try simp (disch:=omega) only [zI]);repeat first | intro _ | refine ⟨by omega,?_⟩
 refine hK _ ?_;clear hK K;refine zw (zk [0,1,4,5]) ?_;simp only [go_sem]
 repeat refine zq ?_
 refine zb fun K hK=>?_;simp only [go_sem];(try simp (disch:=omega) only [zI])
 refine zh (hpb) rfl (by simp only [go_sem,i64,ints]) (by simp only [go_sem,i64,ints]) (by first | exact .inl rfl | exact .inr rfl) ?_
 (try simp only [go_sem]);(try simp (disch:=omega) only [zI]);repeat first | intro _ | refine ⟨by omega,?_⟩
 refine hK _ ?_;clear hK K;refine zw (sub_ownB 9 1 319 83 3 (by omega) (by omega) rfl (by simp only [go_sem,List.getElem?_cons_succ,List.getElem?_cons_zero])) ?_;refine zw (zk [1,4,5,8,9]) ?_;simp only [go_sem]
 repeat refine zq ?_
 refine zb fun K hK=>?_;simp only [go_sem];(try simp (disch:=omega) only [zI]);repeat first | intro _ | refine ⟨by omega,?_⟩
 refine hK _ ?_;clear hK K;refine zw (zk [1,4,5,8,9,10]) ?_;simp only [go_sem]
 repeat refine zq ?_
 refine zd ?_
 refine awp_uptoV (n:=141) bs.length (fun i vs=>[(1,.r (trisR H)),(4,.pt 4 (vs 4) 0),(5,.pt 5 (vs 5) 0),(8,.r (ints bs)),(9,.pt 9 (vs 9) 0),(10,.r (i64 (i : Int)))])
  (fun i vs=>[(4,.box [.r (i64 0),.r .ns]),(5,.box [.r (i64 0),.r .ns]),(9,.box [.r (i64 201),.os 319 (vs 319) 3 0 i]),(319,.arr 83 3 ((bs.take i).map fun b=>[i64 b,i64 0,i64 0]))]) (fun _=>True) 0 (zj [] ?_ ?_) (Nat.zero_le _) trivial ?_
 · try simp only [go_sem]
   try rfl
 · try simp only [go_sem]
   try rfl
 · intro i vs hi _
   by_cases hin : i < bs.length
   · obtain ⟨b,hb⟩:=opt_of_lt hin
     have hlt : (bs.take i).length = i:=by rw [List.length_take]; omega
     rw [take_of_opt hb]
     repeat refine zq ?_
     refine zb fun K hK=>?_;simp only [go_sem,hin,List.length_map];(try simp (disch:=omega) only [zI]);repeat first | intro _ | refine ⟨by omega,?_⟩
     refine hK _ ?_;clear hK K;refine zw (zk [1,4,5,8,9,10,30]) ?_;simp only [go_sem]
     repeat refine zq ?_
     refine zc rfl (fun hc=>?_) (fun hc=>?_) <;> (try simp only [go_sem] at hc)
     refine zx ?_
     try simp only [go_sem]
     repeat refine zq ?_
     refine zd ?_
     repeat refine zq ?_
     refine awp_dreg3 [(9,some 9),(8,none),(10,none)] [9] follows (by decide +kernel) (by kernel_rfl) (by simp only [keysOk,List.mem_cons,List.not_mem_nil,forall_eq_or_imp,Oc.keyOf,go_sem]; simp) (by intro k hk; simp only [List.mem_cons,List.not_mem_nil,or_false] at hk; first | (subst hk; exact ⟨_,rfl⟩) | (rcases hk with rfl | rfl <;> exact ⟨_,rfl⟩) | (rcases hk with rfl | rfl | rfl <;> exact ⟨_,rfl⟩)) fun K hK=>?_
     simp only [go_sem,hb,hin,hlt,List.length_map];(try simp (disch:=omega) only [zI]);repeat first | intro _ | refine ⟨by omega,?_⟩
     refine hK _ ?_;clear hK K;refine zw (zk [1,4,5,8,9,10]) ?_;simp only [go_sem]
     repeat refine zq ?_
     refine zb fun K hK=>?_;simp only [go_sem];(try simp (disch:=omega) only [zI]);repeat first | intro _ | refine ⟨by omega,?_⟩
     refine hK _ ?_;clear hK K
     try simp only [go_sem]
     refine ⟨by omega,zj [] ?_ ?_⟩
     · try simp only [go_sem]
     · try simp only [go_sem]
       try simp
   · have hie : i = bs.length:=by omega
     subst hie
     repeat refine zq ?_
     refine zb fun K hK=>?_;simp only [go_sem,Nat.lt_irrefl,List.length_map];(try simp (disch:=omega) only [zI]);repeat first | intro _ | refine ⟨by omega,?_⟩
     refine hK _ ?_;clear hK K;refine zw (zk [1,4,5,8,9,30]) ?_;simp only [go_sem]
     repeat refine zq ?_
     refine zc rfl (fun hc=>?_) (fun hc=>?_) <;> (try simp only [go_sem] at hc)
     refine zf ?_;simp only [go_sem];rw [List.take_length]
     refine zw (sub_frzB 9 1 319 (ty:=83) (sz:=3) (off:=0) (m:=bs.length) (es:=bs.map fun b=>[i64 b,i64 0,i64 0]) (by omega) (by omega) rfl (by simp only [go_sem,List.getElem?_cons_succ,List.getElem?_cons_zero]) (by rfl) (by simp)) ?_
     have tk1 : List.take bs.length ((Th.aimB bs).beds.map bedR) = (Th.aimB bs).beds.map bedR:=List.take_of_length_le (by simp [Th.aimB])
     have haim : (bs.map fun b=>[i64 b,i64 0,i64 0]) = (Th.aimB bs).beds.map bedR:=by
      simp only [Th.aimB,List.map_map]; rfl
     simp only [go_sem,List.drop_zero,haim,tk1,List.set_cons_succ,List.set_cons_zero];refine zw (sub_frzP 9 9 [i64 201,bedsR (Th.aimB bs).beds] (by omega) rfl rfl) ?_;refine zw (zk [1,4,5,8,9]) ?_;simp only [go_sem]
     repeat refine zq ?_
     refine zb fun K hK=>?_;simp only [go_sem];(try simp (disch:=omega) only [zI]);repeat first | intro _ | refine ⟨by omega,?_⟩
     refine hK _ ?_;clear hK K;refine zw (sub_own 11 311 211 2 (by omega) rfl) ?_;refine zw (sub_own 12 312 211 2 (by omega) rfl) ?_;refine zw (zk [1,4,5,8,9,11,12]) ?_;simp only [go_sem]
     repeat refine zq ?_
     refine zb fun K hK=>?_;simp only [go_sem];(try simp (disch:=omega) only [zI]);repeat first | intro _ | refine ⟨by omega,?_⟩
     refine hK _ ?_;clear hK K;refine zw (zk [1,4,5,8,9,11,12,13]) ?_;simp only [go_sem]
     repeat refine zq ?_
     refine zd ?_
     refine awp_uptoV (n:=141) (visN H) (fun i vs=>[(1,.r (trisR H)),(4,.pt 4 (vs 4) 0),(5,.pt 5 (vs 5) 0),(8,.r (ints bs)),(9,.r (.rp [i64 201,bedsR (Th.aimB bs).beds])),(11,.os 311 (vs 311) 2 0 i),(12,.os 312 (vs 312) 2 0 i),(13,.r (i64 (i : Int)))])
      (fun i vs=>[(4,.box [.r (i64 0),.r .ns]),(5,.box [.r (i64 0),.r .ns]),(311,.arr 211 2 (knL bs H i)),(312,.arr 211 2 ((toL bs H i).map fun n=>[.ns,i64 n]))]) (fun _=>True) 0 (zj [] ?_ ?_) (Nat.zero_le _) trivial ?_
     · try simp only [go_sem]
       try rfl
     · try simp only [go_sem]
       try rfl
     · intro i vs hi _
       by_cases hin : i < visN H
       · have hkl:=kn_len bs H i
         have htl:=to_len bs H i
         rw [kn_snoc,to_snoc]
         generalize hKN : knL bs H i = KN at *
         generalize hTO : toL bs H i = TO at *
         repeat refine zq ?_
         refine awp_joinV (n:=141) (fun (_ : Unit) vs=>[(1,.r (trisR H)),(4,.pt 4 (vs 4) 0),(5,.pt 5 (vs 5) 0),(8,.r (ints bs)),(9,.r (.rp [i64 201,bedsR (Th.aimB bs).beds])),(11,.os 311 (vs 311) 2 0 i),(12,.os 312 (vs 312) 2 0 i),(13,.r (i64 (i : Int))),(56,.r (.bo true))])
          (fun _ vs=>[(4,.box [.r (i64 0),.r .ns]),(5,.box [.r (i64 0),.r .ns]),(311,.arr 211 2 (KN)),(312,.arr 211 2 ((TO).map fun n=>[.ns,i64 n]))]) (fun _=>True) (fun _ h=>h) ?_ ?_
         · by_cases hi0 : i = 0
           · subst hi0
             repeat refine zq ?_
             refine zb fun K hK=>?_;simp only [go_sem,beq_self_eq_true];(try simp (disch:=omega) only [zI]);repeat first | intro _ | refine ⟨by omega,?_⟩
             refine hK _ ?_;clear hK K
             try simp only [go_sem]
             refine ⟨(),zj [] ?_ ?_⟩
             · try simp only [go_sem]
             · try simp only [go_sem]
           · have q0 : ((i : Int) == 0) = false:=by rw [beq_eq_false_iff_ne]; omega
             have q0' : (i == 0) = false:=by rw [beq_eq_false_iff_ne]; omega
             have q1 : i < H.length:=by unfold visN at hin; omega
             have q2 : decide ((i : Int) < 20) = true:=decide_eq_true (by omega)
             repeat refine zq ?_
             refine zb fun K hK=>?_;simp only [go_sem,q0,q0',q1,q2,List.length_map];(try simp (disch:=omega) only [zI]);repeat first | intro _ | refine ⟨by omega,?_⟩
             repeat first | intro _ | refine ⟨by omega,?_⟩
             refine hK _ ?_;clear hK K
             try simp only [go_sem]
             refine ⟨(),zj [] ?_ ?_⟩
             · try simp only [go_sem]
             · try simp only [go_sem]
         intro _ vs _
         repeat refine zq ?_
         refine zc rfl (fun hc=>?_) (fun hc=>?_) <;> (try simp only [go_sem] at hc)
         refine zx ?_
         try simp only [go_sem]
         repeat refine zq ?_
         refine zd ?_
         repeat refine zq ?_
         refine zb fun K hK=>?_;simp only [go_sem];(try simp (disch:=omega) only [zI]);repeat first | intro _ | refine ⟨by omega,?_⟩
         refine hK _ ?_;clear hK K;refine zw (sub_ownB 14 0 314 69 1 (by omega) (by omega) rfl (by simp only [go_sem,List.getElem?_cons_succ,List.getElem?_cons_zero])) ?_;refine zw (zk [1,4,5,8,9,11,12,13,14,15]) ?_;simp only [go_sem]
         repeat refine zq ?_
         refine zb fun K hK=>?_;simp only [go_sem];(try simp (disch:=omega) only [zI]);repeat first | intro _ | refine ⟨by omega,?_⟩
         refine hK _ ?_;clear hK K;refine zw (zk [1,4,5,8,9,11,12,13,14,15,16]) ?_;simp only [go_sem]
         have hdl:=darts_len bs H i
         have htt:=tot_le hbs H i
         repeat refine zq ?_
         refine zd ?_
         refine awp_uptoV (n:=141) 3 (fun k vs=>[(1,.r (trisR H)),(4,.pt 4 (vs 4) 0),(5,.pt 5 (vs 5) 0),(8,.r (ints bs)),(9,.r (.rp [i64 201,bedsR (Th.aimB bs).beds])),(11,.os 311 (vs 311) 2 0 i),(12,.os 312 (vs 312) 2 0 i),(13,.r (i64 (i : Int))),(14,.pt 14 (vs 14) 0),(15,.r (i64 (totL bs H i k))),(16,.r (i64 (k : Int)))])
          (fun k vs=>[(4,.box [.r (i64 0),.r .ns]),(5,.box [.r (i64 0),.r .ns]),(14,.box [.os 314 (vs 314) 1 0 k,.r (i64 0)]),(311,.arr 211 2 KN),(312,.arr 211 2 (TO.map fun n=>[.ns,i64 n])),(314,.arr 69 1 ((dartsL bs H i k).map fun b=>[i64 b]))]) (fun _=>True) 0 (zj [] ?_ ?_) (Nat.zero_le _) trivial ?_
         · try simp only [go_sem]
           try rfl
         · try simp only [go_sem]
           try rfl
         · intro k vs hk _
           by_cases hkn : k < 3
           · have g1 : decide ((k : Int) < 3) = true:=decide_eq_true (by omega)
             have hdk:=hdl k
             have htk:=htt k
             obtain ⟨N,hN⟩ : ∃ N,N = hitN H i k:=⟨_,rfl⟩
             have hmN:=Nat.mod_lt N hpos
             obtain ⟨b,hb⟩:=opt_of_lt (l:=bs) (i:=N % bs.length) hmN
             have hbr:=hbs.bed b (mem_of_opt hb)
             have hgb : bs.getD (triN bs.length H i k) 0 = b:=by unfold triN; rw [← hN,List.getD_eq_getElem?_getD,hb]; rfl
             have hbq : 0 ≤ b ∧ b ≤ 499:=by
              rcases hbr.1 with h | h
              · omega
              · exact bedOk_le h
             rw [darts_snoc,tot_snoc,hgb]
             generalize hDL : dartsL bs H i k = DL at *
             generalize hTT : totL bs H i k = TT at *
             repeat refine zq ?_
             refine zb fun K hK=>?_;simp only [go_sem,g1];(try simp (disch:=omega) only [zI]);repeat first | intro _ | refine ⟨by omega,?_⟩
             refine hK _ ?_;clear hK K;refine zw (zk [1,4,5,8,9,11,12,13,14,15,16,61]) ?_;simp only [go_sem]
             repeat refine zq ?_
             refine zc rfl (fun hc=>?_) (fun hc=>?_) <;> (try simp only [go_sem] at hc)
             refine zx ?_
             try simp only [go_sem]
             repeat refine zq ?_
             refine zd ?_
             repeat refine zq ?_
             refine zb fun K hK=>?_;simp only [go_sem];(try simp (disch:=omega) only [zI]);repeat first | intro _ | refine ⟨by omega,?_⟩
             refine hK _ ?_;clear hK K;refine zw (zk [1,4,5,8,9,11,12,13,14,15,16,17]) ?_;simp only [go_sem]
             repeat refine zq ?_
             refine awp_joinV (n:=141) (fun (_ : Unit) vs=>[(1,.r (trisR H)),(4,.pt 4 (vs 4) 0),(5,.pt 5 (vs 5) 0),(8,.r (ints bs)),(9,.r (.rp [i64 201,bedsR (Th.aimB bs).beds])),(11,.os 311 (vs 311) 2 0 i),(12,.os 312 (vs 312) 2 0 i),(13,.r (i64 (i : Int))),(14,.pt 14 (vs 14) 0),(15,.r (i64 TT)),(16,.r (i64 (k : Int))),(17,.r (i64 0)),(67,.r (.bo (decide (i < H.length))))])
              (fun _ vs=>[(4,.box [.r (i64 0),.r .ns]),(5,.box [.r (i64 0),.r .ns]),(14,.box [.os 314 (vs 314) 1 0 k,.r (i64 0)]),(311,.arr 211 2 KN),(312,.arr 211 2 (TO.map fun n=>[.ns,i64 n])),(314,.arr 69 1 (DL.map fun b=>[i64 b]))]) (fun _=>True) (fun _ h=>h) ?_ ?_
             · repeat refine zq ?_
               refine zb fun K hK=>?_;simp only [go_sem,List.length_map];(try simp (disch:=omega) only [zI]);repeat first | intro _ | refine ⟨by omega,?_⟩
               refine hK _ ?_;clear hK K
               try simp only [go_sem]
               refine ⟨(),zj [] ?_ ?_⟩
               · try simp only [go_sem]
               · try simp only [go_sem]
             intro _ vs _
             refine awp_joinV (n:=141) (fun (_ : Unit) vs=>[(1,.r (trisR H)),(4,.pt 4 (vs 4) 0),(5,.pt 5 (vs 5) 0),(8,.r (ints bs)),(9,.r (.rp [i64 201,bedsR (Th.aimB bs).beds])),(11,.os 311 (vs 311) 2 0 i),(12,.os 312 (vs 312) 2 0 i),(13,.r (i64 (i : Int))),(14,.pt 14 (vs 14) 0),(15,.r (i64 TT)),(16,.r (i64 (k : Int))),(17,.r (i64 (N : Int)))])
              (fun _ vs=>[(4,.box [.r (i64 0),.r .ns]),(5,.box [.r (i64 0),.r .ns]),(14,.box [.os 314 (vs 314) 1 0 k,.r (i64 0)]),(311,.arr 211 2 KN),(312,.arr 211 2 (TO.map fun n=>[.ns,i64 n])),(314,.arr 69 1 (DL.map fun b=>[i64 b]))]) (fun _=>True) (fun _ h=>h) ?_ ?_
             · by_cases hq : i < H.length
               · have hd : decide (i < H.length) = true:=decide_eq_true hq
                 obtain ⟨a,ha⟩:=opt_of_lt hq
                 obtain ⟨a3,a8⟩:=hH a (mem_of_opt ha)
                 obtain ⟨y,hy⟩:=opt_of_lt (l:=a) (i:=k) (by omega)
                 have hNy : N = y:=by rw [hN]; unfold hitN; rw [if_pos hq]; simp only [List.getD_eq_getElem?_getD,ha,Option.getD_some,hy]
                 have y8:=a8 y (mem_of_opt hy)
                 have k8 : IntKind.i64.wrap (y : Int) = y:=by rw [zI] <;> omega
                 have hkl3 : k < a.length:=by omega
                 rw [hd,hNy]
                 repeat refine zq ?_
                 refine zc rfl (fun hc=>?_) (fun hc=>?_) <;> (try simp only [go_sem] at hc)
                 have hdrp : (List.drop k (a.map u8Q)).headD RV.un = u8Q y:=by
                  rw [show (List.drop k (a.map u8Q)) = u8Q y :: List.drop (k + 1) (a.map u8Q) from drop_of_opt (by rw [List.getElem?_map,hy]; rfl)]; rfl
                 repeat refine zq ?_
                 refine zb fun K hK=>?_;simp only [go_sem,ha,hq,hkl3,a3,k8,hdrp,hkn,List.length_map,Nat.mul_one];(try simp (disch:=omega) only [zI]);repeat first | intro _ | refine ⟨by omega,?_⟩
                 repeat first | intro _ | refine ⟨by omega,?_⟩
                 refine hK _ ?_;clear hK K
                 try simp only [go_sem]
                 refine ⟨(),zj [] ?_ ?_⟩
                 · try simp only [go_sem]
                 · try simp only [go_sem]
               · have hd : decide (i < H.length) = false:=decide_eq_false hq
                 have hNy : N = 0:=by rw [hN]; unfold hitN; rw [if_neg hq]
                 rw [hd,hNy]
                 repeat refine zq ?_
                 refine zc rfl (fun hc=>?_) (fun hc=>?_) <;> (try simp only [go_sem] at hc)
                 refine zx ?_
                 try simp only [go_sem]
                 refine ⟨(),zj [] ?_ ?_⟩
                 · try simp only [go_sem]
                   try rfl
                 · try simp only [go_sem]
             intro _ vs _
             have n0 : N < 256:=by
              rw [hN]
              unfold hitN
              split
              · rename_i hq
                obtain ⟨a,ha⟩:=opt_of_lt hq
                obtain ⟨a3,a8⟩:=hH a (mem_of_opt ha)
                obtain ⟨y,hy⟩:=opt_of_lt (l:=a) (i:=k) (by omega)
                simp only [List.getD_eq_getElem?_getD,ha,Option.getD_some,hy];exact a8 y (mem_of_opt hy)
              · omega
             have r1 : Int.tmod (N : Int) (bs.length : Int) = ((N % bs.length : Nat) : Int):=rfl
             have r2 : IntKind.i64.wrap ((N % bs.length : Nat) : Int) = ((N % bs.length : Nat) : Int):=by rw [zI] <;> omega
             have r3 : (bs.length : Int) ≠ 0:=by omega
             generalize hM : N % bs.length = M at *
             repeat refine zq ?_
             refine awp_dreg3 [(14,some 14),(8,none),(17,none)] [14] follows (by decide +kernel) (by kernel_rfl) (by simp only [keysOk,List.mem_cons,List.not_mem_nil,forall_eq_or_imp,Oc.keyOf,go_sem]; simp) (by intro k hk; simp only [List.mem_cons,List.not_mem_nil,or_false] at hk; first | (subst hk; exact ⟨_,rfl⟩) | (rcases hk with rfl | rfl <;> exact ⟨_,rfl⟩) | (rcases hk with rfl | rfl | rfl <;> exact ⟨_,rfl⟩)) fun K hK=>?_
             simp only [go_sem,hb,hmN,hM,r1,r2,r3,hdk,List.length_map];(try simp (disch:=omega) only [zI]);repeat first | intro _ | refine ⟨by omega,?_⟩
             repeat first | intro _ | refine ⟨by omega,?_⟩
             refine hK _ ?_;clear hK K;refine zw (zk [1,4,5,8,9,11,12,13,14,15,16]) ?_;simp only [go_sem]
             have hwo:=worth_ok b hbq
             have hlk : k < (DL.map (fun b=>[i64 b]) ++ [[RV.it IntKind.i64 b]]).length:=by simp; omega
             have hgk : (DL.map (fun b=>[i64 b]) ++ [[RV.it IntKind.i64 b]]).getD k [] = [i64 b]:=by
              rw [List.getD_eq_getElem?_getD,List.getElem?_append_right (by simp; omega),List.length_map,hdk,Nat.sub_self]; rfl
             have hok : (DL.map (fun b=>[i64 b]) ++ [[RV.it IntKind.i64 b]])[k]? = some [i64 b]:=by
              rw [List.getElem?_append_right (by simp; omega),List.length_map,hdk,Nat.sub_self]; rfl
             have hw18 : IntKind.i64.wrap (TT + scoreOf b) = TT + scoreOf b:=by rw [zI] <;> omega
             repeat refine zq ?_
             refine zb fun K hK=>?_;simp only [go_sem,hgk,hok,hlk,hdk];(try simp (disch:=omega) only [zI]);repeat first | intro _ | refine ⟨by omega,?_⟩
             refine zh (hwo) rfl (by simp only [go_sem,i64,ints,hw18]) (by simp only [go_sem,i64,ints,hw18]) (by first | exact .inl rfl | exact .inr rfl) ?_
             (try simp only [go_sem,hw18]);(try simp (disch:=omega) only [zI]);repeat first | intro _ | refine ⟨by omega,?_⟩
             repeat first | intro _ | refine ⟨by omega,?_⟩
             refine hK _ ?_;clear hK K;refine zw (zk [1,4,5,8,9,11,12,13,14,15,16]) ?_;simp only [go_sem]
             repeat refine zq ?_
             refine zb fun K hK=>?_;simp only [go_sem];(try simp (disch:=omega) only [zI]);repeat first | intro _ | refine ⟨by omega,?_⟩
             refine hK _ ?_;clear hK K
             try simp only [go_sem]
             refine ⟨by omega,zj [] ?_ ?_⟩
             · try simp only [go_sem]
             · try simp only [go_sem]
               try simp
           · have hke : k = 3:=by omega
             subst hke
             repeat refine zq ?_
             refine zb fun K hK=>?_;simp only [go_sem];(try simp (disch:=omega) only [zI]);repeat first | intro _ | refine ⟨by omega,?_⟩
             refine hK _ ?_;clear hK K;refine zw (zk [1,4,5,8,9,11,12,13,14,15,61]) ?_;simp only [go_sem]
             repeat refine zq ?_
             refine zc rfl (fun hc=>?_) (fun hc=>?_) <;> (try simp only [go_sem] at hc)
             refine zf ?_;simp only [go_sem]
             have hd3:=hdl 3
             generalize hDL : dartsL bs H i 3 = DL at *
             generalize hTT : totL bs H i 3 = TT at *
             refine zw (sub_frzB 14 0 314 (ty:=69) (sz:=1) (off:=0) (m:=3) (es:=DL.map fun b=>[i64 b]) (by omega) (by omega) rfl (by simp only [go_sem,List.getElem?_cons_succ,List.getElem?_cons_zero]) (by rfl) (by simp [hd3])) ?_
             have tk1 : List.take 3 (DL.map fun b=>[i64 b]) = DL.map fun b=>[i64 b]:=List.take_of_length_le (by simp [hd3])
             simp only [go_sem,List.drop_zero,tk1,List.set_cons_succ,List.set_cons_zero];refine zw (sub_frzP 14 14 [ints DL,i64 0] (by omega) rfl rfl) ?_;refine zw (zk [1,4,5,8,9,11,12,13,14,15]) ?_;simp only [go_sem]
             repeat refine zq ?_
             refine zb fun K hK=>?_;simp only [go_sem,hkl,htl,List.length_map];(try simp (disch:=omega) only [zI]);repeat first | intro _ | refine ⟨by omega,?_⟩
             refine hK _ ?_;clear hK K;refine zw (zk [1,4,5,8,9,11,12,13]) ?_;simp only [go_sem]
             repeat refine zq ?_
             refine zb fun K hK=>?_;simp only [go_sem];(try simp (disch:=omega) only [zI]);repeat first | intro _ | refine ⟨by omega,?_⟩
             refine hK _ ?_;clear hK K
             try simp only [go_sem]
             refine ⟨by omega,zj [] ?_ ?_⟩
             · try simp only [go_sem]
             · try simp only [go_sem]
               try simp
       · have hie : i = visN H:=by omega
         subst hie
         have q0 : (((visN H : Nat) : Int) == 0) = false:=by rw [beq_eq_false_iff_ne]; omega
         have q0' : (visN H == 0) = false:=by rw [beq_eq_false_iff_ne]; omega
         have hkl:=kn_len bs H (visN H)
         have htl:=to_len bs H (visN H)
         generalize hVN : visN H = V at *
         generalize hKN : knL bs H V = KN at *
         generalize hTO : toL bs H V = TO at *
         repeat refine zq ?_
         refine awp_joinV (n:=141) (fun (_ : Unit) vs=>[(4,.pt 4 (vs 4) 0),(5,.pt 5 (vs 5) 0),(9,.r (.rp [i64 201,bedsR (Th.aimB bs).beds])),(11,.os 311 (vs 311) 2 0 V),(12,.os 312 (vs 312) 2 0 V),(56,.r (.bo false))])
          (fun _ vs=>[(4,.box [.r (i64 0),.r .ns]),(5,.box [.r (i64 0),.r .ns]),(311,.arr 211 2 KN),(312,.arr 211 2 (TO.map fun n=>[.ns,i64 n]))]) (fun _=>True) (fun _ h=>h) ?_ ?_
         · by_cases hq : V < H.length
           · have hq2 : decide ((V : Int) < 20) = false:=decide_eq_false (by unfold visN at hVN; omega)
             repeat refine zq ?_
             refine zb fun K hK=>?_;simp only [go_sem,q0,q0',hq,hq2,List.length_map];(try simp (disch:=omega) only [zI]);repeat first | intro _ | refine ⟨by omega,?_⟩
             repeat first | intro _ | refine ⟨by omega,?_⟩
             refine hK _ ?_;clear hK K
             try simp only [go_sem]
             refine ⟨(),zj [] ?_ ?_⟩
             · try simp only [go_sem]
             · try simp only [go_sem]
           · repeat refine zq ?_
             refine zb fun K hK=>?_;simp only [go_sem,q0,q0',hq,List.length_map];(try simp (disch:=omega) only [zI]);repeat first | intro _ | refine ⟨by omega,?_⟩
             repeat first | intro _ | refine ⟨by omega,?_⟩
             refine hK _ ?_;clear hK K
             try simp only [go_sem]
             refine ⟨(),zj [] ?_ ?_⟩
             · try simp only [go_sem]
             · try simp only [go_sem]
         intro _ vs _
         repeat refine zq ?_
         refine zc rfl (fun hc=>?_) (fun hc=>?_) <;> (try simp only [go_sem] at hc)
         refine zf ?_;simp only [go_sem];refine zw (sub_frz (ty:=211) (sz:=2) (off:=0) (m:=V) (es:=KN) 11 311 (by omega) rfl (by rfl) (by simp [hkl])) ?_;refine zw (sub_frz (ty:=211) (sz:=2) (off:=0) (m:=V) (es:=TO.map fun n=>[.ns,i64 n]) 12 312 (by omega) rfl (by rfl) (by simp [htl])) ?_
         have tkk : List.take V KN = KN:=List.take_of_length_le (by omega)
         have tkt : List.take V (TO.map fun n=>[RV.ns,i64 n]) = TO.map fun n=>[.ns,i64 n]:=List.take_of_length_le (by simp [htl])
         simp only [go_sem,List.drop_zero,tkk,tkt]
         have hwm : IntKind.i64.wrap (3 * (V : Int)) = 3 * (V : Int):=by rw [zI] <;> omega
         repeat refine zq ?_
         refine zb fun K hK=>?_;simp only [go_sem];(try simp (disch:=omega) only [zI])
         have hat : (Th.aimB bs).at_ = 201:=rfl
         refine zh (hkn) rfl (by simp only [go_sem,i64,ints,aimV,hat]) (by simp only [go_sem,i64,ints,aimV,hat]) (by first | exact .inl rfl | exact .inr rfl) ?_
         (try simp only [go_sem,aimV,hat]);(try simp (disch:=omega) only [zI]);repeat first | intro _ | refine ⟨by omega,?_⟩
         refine hK _ ?_;clear hK K;refine zw (zk [4,5,9,11,12,18,20]) ?_;simp only [go_sem]
         repeat refine zq ?_
         refine zb fun K hK=>?_;simp only [go_sem];(try simp (disch:=omega) only [zI])
         refine zh (hto) rfl (by simp only [go_sem,i64,ints,aimV,hat,totR]) (by simp only [go_sem,i64,ints,aimV,hat,totR]) (by first | exact .inl rfl | exact .inr rfl) ?_
         (try simp only [go_sem,aimV,hat,totR]);(try simp (disch:=omega) only [zI]);repeat first | intro _ | refine ⟨by omega,?_⟩
         refine hK _ ?_;clear hK K;refine zw (zk [4,5,11,18,20,21,23]) ?_;simp only [go_sem]
         repeat refine zq ?_
         refine awp_dreg2 [(4,some 4),(5,some 5)] follows (by decide +kernel) (by kernel_rfl) (by simp only [keysOk,List.mem_cons,List.not_mem_nil,forall_eq_or_imp,Oc.keyOf,go_sem]; simp) fun K hK=>?_
         simp only [go_sem,hkl,hwm,beq_self_eq_true,List.length_map];(try simp (disch:=omega) only [zI]);repeat first | intro _ | refine ⟨by omega,?_⟩
         repeat first | intro _ | refine ⟨by omega,?_⟩
         refine hK _ ?_;clear hK K;refine zw (zk [4,5,6,7]) ?_;simp only [go_sem];refine ze ?_;simp only [go_sem]
         try rfl
end Go.Proofs.Ytlljkgiomkmjbaa.Du

namespace Go.Proofs.Ytlljkgiomkmjbaa.Du.Th
open Go Go.Oc
set_option linter.unusedSimpArgs false
set_option linter.unusedVariables false
set_option maxRecDepth 8000
def cmpI (x y : Int) : Int:=if x < y then -1 else if y < x then 1 else 0
theorem nan_ok (n : Int) : ACalls Try.prog 207 [i64 n] (.bo false):=by
 refine acalls_st (rs:=[.bo false]) [.tmp 2] Try.func207 rfl (by kernel_rfl) Try.ntmps207 rfl (by simp) rfl fun C vs=>?_
 repeat refine zq ?_
 refine zb fun K hK=>?_;simp only [go_sem];(try simp (disch:=omega) only [zI]);repeat first | intro _ | refine ⟨by omega,?_⟩
 refine hK _ ?_;clear hK K
 repeat refine zq ?_
 refine zb fun K hK=>?_;simp only [go_sem];(try simp (disch:=omega) only [zI]);repeat first | intro _ | refine ⟨by omega,?_⟩
 refine hK _ ?_;clear hK K;refine ze ?_;simp only [go_sem]
 simp
theorem compare_ok (x y : Int) : ACalls Try.prog 149 [i64 x,i64 y] (i64 (cmpI x y)):=by
 refine acalls_st (rs:=[i64 (cmpI x y)]) [.tmp 4] Try.func149 rfl (by kernel_rfl) Try.ntmps149 rfl (by simp) rfl fun C vs=>?_
 repeat refine zq ?_
 refine zb fun K hK=>?_;simp only [go_sem];(try simp (disch:=omega) only [zI]);repeat first | intro _ | refine ⟨by omega,?_⟩
 refine hK _ ?_;clear hK K
 repeat refine zq ?_
 refine zb fun K hK=>?_;simp only [go_sem];(try simp (disch:=omega) only [zI])
 refine zh (nan_ok x) rfl (by simp only [go_sem,i64,ints]) (by simp only [go_sem,i64,ints]) (by first | exact .inl rfl | exact .inr rfl) ?_
 (try simp only [go_sem]);(try simp (disch:=omega) only [zI]);repeat first | intro _ | refine ⟨by omega,?_⟩
 refine hK _ ?_;clear hK K
 repeat refine zq ?_
 refine zb fun K hK=>?_;simp only [go_sem];(try simp (disch:=omega) only [zI])
 refine zh (nan_ok y) rfl (by simp only [go_sem,i64,ints]) (by simp only [go_sem,i64,ints]) (by first | exact .inl rfl | exact .inr rfl) ?_
 (try simp only [go_sem]);(try simp (disch:=omega) only [zI]);repeat first | intro _ | refine ⟨by omega,?_⟩
 refine hK _ ?_;clear hK K
 repeat refine zq ?_
 refine zb fun K hK=>?_;simp only [go_sem];(try simp (disch:=omega) only [zI]);repeat first | intro _ | refine ⟨by omega,?_⟩
 refine hK _ ?_;clear hK K
 repeat refine zq ?_
 refine zc rfl (fun hc=>?_) (fun hc=>?_) <;> (try simp only [go_sem] at hc)
 refine zx ?_
 try simp only [go_sem]
 repeat refine zq ?_
 refine zb fun K hK=>?_;simp only [go_sem];(try simp (disch:=omega) only [zI]);repeat first | intro _ | refine ⟨by omega,?_⟩
 refine hK _ ?_;clear hK K
 repeat refine zq ?_
 refine zc rfl (fun hc=>?_) (fun hc=>?_) <;> (try simp only [go_sem] at hc)
 refine zx ?_
 try simp only [go_sem]
 repeat refine zq ?_
 refine zb fun K hK=>?_;simp only [go_sem];(try simp (disch:=omega) only [zI]);repeat first | intro _ | refine ⟨by omega,?_⟩
 refine hK _ ?_;clear hK K
 repeat refine zq ?_
 refine zc rfl (fun hc=>?_) (fun hc=>?_) <;> (try simp only [go_sem] at hc)
 · repeat refine zq ?_
   refine zb fun K hK=>?_;simp only [go_sem];(try simp (disch:=omega) only [zI]);repeat first | intro _ | refine ⟨by omega,?_⟩
   refine hK _ ?_;clear hK K;refine ze ?_;simp only [go_sem]
   simp [cmpI,hc]
 refine zx ?_
 try simp only [go_sem]
 repeat refine zq ?_
 refine zb fun K hK=>?_;simp only [go_sem];(try simp (disch:=omega) only [zI]);repeat first | intro _ | refine ⟨by omega,?_⟩
 refine hK _ ?_;clear hK K
 have h1:=hc
 repeat refine zq ?_
 refine zc rfl (fun hc=>?_) (fun hc=>?_) <;> (try simp only [go_sem] at hc)
 · repeat refine zq ?_
   refine zb fun K hK=>?_;simp only [go_sem];(try simp (disch:=omega) only [zI]);repeat first | intro _ | refine ⟨by omega,?_⟩
   refine hK _ ?_;clear hK K;refine ze ?_;simp only [go_sem]
   have : ¬ x < y:=by omega
   simp [cmpI,hc,this]
 refine zx ?_
 try simp only [go_sem]
 repeat refine zq ?_
 refine zb fun K hK=>?_;simp only [go_sem];(try simp (disch:=omega) only [zI]);repeat first | intro _ | refine ⟨by omega,?_⟩
 refine hK _ ?_;clear hK K;refine ze ?_;simp only [go_sem]
 have h2 : ¬ x < y:=by omega
 have h3 : ¬ y < x:=by omega
 simp [cmpI,h2,h3]
theorem rising_ok (x y : Int) : ACalls Try.prog 126 [i64 x,i64 y] (i64 (cmpI x y)):=by
 refine acalls_st (rs:=[i64 (cmpI x y)]) [.tmp 4] Try.func126 rfl (by kernel_rfl) Try.ntmps126 rfl (by simp) rfl fun C vs=>?_
 repeat refine zq ?_
 refine zb fun K hK=>?_;simp only [go_sem];(try simp (disch:=omega) only [zI]);repeat first | intro _ | refine ⟨by omega,?_⟩
 refine hK _ ?_;clear hK K
 repeat refine zq ?_
 refine zb fun K hK=>?_;simp only [go_sem];(try simp (disch:=omega) only [zI])
 refine zh (compare_ok x y) rfl (by simp only [go_sem,i64,ints]) (by simp only [go_sem,i64,ints]) (by first | exact .inl rfl | exact .inr rfl) ?_
 (try simp only [go_sem]);(try simp (disch:=omega) only [zI]);repeat first | intro _ | refine ⟨by omega,?_⟩
 refine hK _ ?_;clear hK K;refine ze ?_;simp only [go_sem]
theorem falling_ok (x y : Int) : ACalls Try.prog 127 [i64 x,i64 y] (i64 (cmpI y x)):=by
 refine acalls_st (rs:=[i64 (cmpI y x)]) [.tmp 4] Try.func127 rfl (by kernel_rfl) Try.ntmps127 rfl (by simp) rfl fun C vs=>?_
 repeat refine zq ?_
 refine zb fun K hK=>?_;simp only [go_sem];(try simp (disch:=omega) only [zI]);repeat first | intro _ | refine ⟨by omega,?_⟩
 refine hK _ ?_;clear hK K
 repeat refine zq ?_
 refine zb fun K hK=>?_;simp only [go_sem];(try simp (disch:=omega) only [zI])
 refine zh (compare_ok y x) rfl (by simp only [go_sem,i64,ints]) (by simp only [go_sem,i64,ints]) (by first | exact .inl rfl | exact .inr rfl) ?_
 (try simp only [go_sem]);(try simp (disch:=omega) only [zI]);repeat first | intro _ | refine ⟨by omega,?_⟩
 refine hK _ ?_;clear hK K;refine ze ?_;simp only [go_sem]
theorem filled1_ok (i k : Nat) (vals : List Int) (f : Nat) (cm : Int → Int → Int) (hf : ∀ x y,ACalls Try.prog f [i64 x,i64 y] (i64 (cm x y))) {x y : Int} (hx : vals[i]? = some x) (hy : vals[k]? = some y) :
 ACalls Try.prog 187 [i64 i,i64 k,.rp [.fn f []],.rp [ints vals]] (i64 (cm x y)):=by
 have hi:=(List.getElem?_eq_some_iff.1 hx).1
 have hk:=(List.getElem?_eq_some_iff.1 hy).1
 refine acalls_st (rs:=[i64 (cm x y)]) [.tmp 6] Try.func187 rfl (by kernel_rfl) Try.ntmps187 rfl (by simp) rfl fun C vs=>?_
 repeat refine zq ?_
 refine zb fun K hK=>?_;simp only [go_sem];(try simp (disch:=omega) only [zI]);repeat first | intro _ | refine ⟨by omega,?_⟩
 refine hK _ ?_;clear hK K
 repeat refine zq ?_
 refine zg follows (by decide +kernel) (by kernel_rfl) fun K hK=>?_;simp only [go_sem,hx,hy,hi,hk];(try simp (disch:=omega) only [zI])
 refine zh (hf x y) rfl (by simp only [go_sem,i64,ints]) (by simp only [go_sem,i64,ints]) (by first | exact .inl rfl | exact .inr rfl) ?_
 (try simp only [go_sem]);(try simp (disch:=omega) only [zI]);repeat first | intro _ | refine ⟨by omega,?_⟩
 refine hK _ ?_;clear hK K;refine ze ?_;simp only [go_sem]
def insB (lt : Nat → Nat → Bool) (x : Nat) : List Nat → List Nat
 | []=>[x]
 | y :: ys=>if lt x y then y :: insB lt x ys else x :: y :: ys
def sortB (lt : Nat → Nat → Bool) : List Nat → List Nat → List Nat
 | [],R=>R
 | x :: xs,R=>sortB lt xs (insB lt x R)
def sortN (lt : Nat → Nat → Bool) (l : List Nat) : List Nat:=(sortB lt l []).reverse
theorem insB_len (lt : Nat → Nat → Bool) (x : Nat) : ∀ R,(insB lt x R).length = R.length + 1
 | []=>rfl
 | y :: R => by
   unfold insB
   split
   · simp [insB_len lt x R]
   · rfl
theorem insB_skip (lt : Nat → Nat → Bool) (x : Nat) : ∀ (R : List Nat) (k : Nat),(∀ y ∈ R.take k,lt x y = true) → insB lt x R = R.take k ++ insB lt x (R.drop k)
 | R,0,_=>by simp
 | [],k + 1,_=>by simp
 | y :: R, k + 1, h => by
   have hy : lt x y = true:=h y (by simp)
   have ih:=insB_skip lt x R k fun z hz=>h z (by simp [hz])
   simp only [List.take_succ_cons,List.drop_succ_cons,List.cons_append];rw [← ih]
   simp [insB,hy]
theorem sortB_snoc (lt : Nat → Nat → Bool) : ∀ (l : List Nat) (x : Nat) (R : List Nat),sortB lt (l ++ [x]) R = insB lt x (sortB lt l R)
 | [],_,_=>rfl
 | y :: l,x,R=>by simp only [List.cons_append,sortB]; exact sortB_snoc lt l x _
theorem sortB_len (lt : Nat → Nat → Bool) : ∀ (l R : List Nat),(sortB lt l R).length = l.length + R.length
 | [],R=>by simp [sortB]
 | x :: l,R=>by simp only [sortB]; rw [sortB_len lt l,insB_len]; simp; omega
theorem mem_insB (lt : Nat → Nat → Bool) (x z : Nat) : ∀ R,z ∈ insB lt x R ↔ z = x ∨ z ∈ R
 | []=>by simp [insB]
 | y :: R => by
   unfold insB
   split
   · simp only [List.mem_cons,mem_insB lt x z R]
     constructor
     · rintro (h | h | h) <;> simp [h]
     · rintro (h | h | h) <;> simp [h]
   · simp
theorem mem_sortB (lt : Nat → Nat → Bool) (z : Nat) : ∀ l R,z ∈ sortB lt l R ↔ z ∈ l ∨ z ∈ R
 | [],R=>by simp [sortB]
 | x :: l, R => by
   simp only [sortB];rw [mem_sortB lt z l,mem_insB]
   simp only [List.mem_cons]
   constructor
   · rintro (h | h | h) <;> simp [h]
   · rintro ((h | h) | h) <;> simp [h]
def holeL (R : List Nat) (x k : Nat) (rest : List Nat) : List Nat:=(R.drop k).reverse ++ x :: ((R.take k).reverse ++ rest)
theorem hole_len (R : List Nat) (x k : Nat) (rest : List Nat) (hk : k ≤ R.length) : (holeL R x k rest).length = R.length + 1 + rest.length:=by
 simp [holeL]; omega
theorem hole_at (R : List Nat) (x k : Nat) (rest : List Nat) (hk : k ≤ R.length) : (holeL R x k rest)[R.length - k]? = some x:=by
 unfold holeL
 rw [List.getElem?_append_right (by simp)]
 simp
theorem hole_next {R : List Nat} {x k y : Nat} {rest : List Nat} (hy : R[k]? = some y) : (holeL R x k rest)[R.length - k - 1]? = some y ∧ (holeL R x k rest) = (R.drop (k + 1)).reverse ++ y :: x :: ((R.take k).reverse ++ rest) ∧ holeL R x (k + 1) rest = (R.drop (k + 1)).reverse ++ x :: y :: ((R.take k).reverse ++ rest):=by
 have hk:=(List.getElem?_eq_some_iff.1 hy).1
 have hd:=drop_of_opt hy
 have ht:=take_of_opt hy
 have e1 : (holeL R x k rest) = (R.drop (k + 1)).reverse ++ y :: x :: ((R.take k).reverse ++ rest):=by
  unfold holeL; rw [hd]; simp
 refine ⟨?_,e1,by unfold holeL; rw [ht]; simp⟩
 rw [e1,List.getElem?_append_right (by simp; omega)]
 have : R.length - k - 1 - (R.drop (k + 1)).reverse.length = 0:=by simp; omega
 rw [this]; rfl
theorem hole_swap {α : Type} (g : Nat → α) {R : List Nat} {x k y : Nat} {rest : List Nat} (hy : R[k]? = some y) :
 (((holeL R x k rest).map g).set (R.length - k) (g y)).set (R.length - k - 1) (g x) = (holeL R x (k + 1) rest).map g:=by
 obtain ⟨_,e1,e2⟩:=hole_next (x:=x) (rest:=rest) hy
 have hk:=(List.getElem?_eq_some_iff.1 hy).1
 rw [e1,e2,← List.map_set,← List.map_set]
 congr 1
 have hl : (R.drop (k + 1)).reverse.length = R.length - k - 1:=by simp; omega
 generalize (R.drop (k + 1)).reverse = A at hl
 generalize (R.take k).reverse ++ rest = B
 have e3 : R.length - k = A.length + 1:=by omega
 rw [e3,Nat.add_sub_cancel]
 rw [List.set_append_right _ _ (by omega)]
 simp only [Nat.add_sub_cancel_left,List.set_cons_succ,List.set_cons_zero];rw [List.set_append_right _ _ (by omega)]
 simp
theorem lent_put {vs : Nat → Nat} {k : Nat} (h : Lent vs) : Lent (upd vs k 0):=fun j hj=>by
 unfold upd; split
 · rfl
 · exact h j hj
abbrev idx (l : List Nat) : List (List RV):=l.map fun (x : Nat)=>[i64 (x : Int)]
theorem insertion_ok (lt : Nat → Nat → Bool) (c : Nat → Nat → Int) (f : Nat) (caps : List RV) (l : List Nat) (hl : l.length ≤ 1000) (hlt : ∀ x y,lt x y = decide (c x y < 0))
 (hcc : ∀ x ∈ l,∀ y ∈ l,ACalls Try.prog f (i64 (x : Int) :: i64 (y : Int) :: caps) (i64 (c x y))) :
 MCalls Try.prog 161 [(1000,.arr 3 1 (idx l))] [(1000,.arr 3 1 (idx (sortN lt l)))] [.os 1000 0 1 0 l.length,.r (i64 0),.r (i64 l.length),.r (.fn f caps)] (.tu []):=by
 refine mcalls_st (n:=53) (rs:=[]) _ _ [] Try.func161 rfl (by kernel_rfl) Try.ntmps161 rfl (by simp) rfl rfl fun C=>?_
 have hmem : ∀ i z,z ∈ sortB lt (l.take i) [] → z ∈ l:=fun i z hz=>by
  rw [mem_sortB] at hz
  rcases hz with hz | hz
  · exact List.mem_of_mem_take hz
  · cases hz
 repeat refine zq ?_
 refine zb fun K hK=>?_;simp only [go_sem];(try simp (disch:=omega) only [zI]);repeat first | intro _ | refine ⟨by omega,?_⟩
 refine hK _ ?_;clear hK K;refine zw (zk [0,1,2,3,8]) ?_;simp only [go_sem]
 repeat refine zq ?_
 refine zd ?_
 refine awp_upto0 (n:=53) (max l.length 1) (fun i vs=>[(0,.os 1000 0 1 0 l.length),(1,.r (i64 0)),(2,.r (i64 l.length)),(3,.r (.fn f caps)),(8,.r (i64 i))])
  (fun i=>[(1000,.arr 3 1 (idx ((sortB lt (l.take i) []).reverse ++ l.drop i)))]) (fun i=>1 ≤ i) 1 (fit0_of [] lent_zero ?_ ?_) (by omega) (Nat.le_refl _) ?_
 · try simp only [go_sem]
 · simp only [go_sem]
   cases l with
   | nil=>rfl
   | cons x l=>simp [sortB,insB]
 · intro i vs hv hi hi1
   have hv0:=hv 1000 (by omega)
   repeat refine zq ?_
   refine zb fun K hK=>?_;simp only [go_sem];(try simp (disch:=omega) only [zI]);repeat first | intro _ | refine ⟨by omega,?_⟩
   refine hK _ ?_;clear hK K;refine zw (zk [0,1,2,3,8,14]) ?_;simp only [go_sem]
   repeat refine zq ?_
   refine zc rfl (fun hc=>?_) (fun hc=>?_) <;> (try simp only [go_sem] at hc)
   · have hci : i < l.length:=by omega
     obtain ⟨x,hx⟩:=opt_of_lt hci
     obtain ⟨R,hR⟩ : ∃ R,R = sortB lt (l.take i) []:=⟨_,rfl⟩
     have hRl : R.length = i:=by rw [hR,sortB_len]; simp; omega
     have hRm : ∀ z ∈ R,z ∈ l:=fun z hz=>hmem i z (hR ▸ hz)
     have hnx : sortB lt (l.take (i + 1)) [] = insB lt x R:=by rw [take_of_opt hx,sortB_snoc,hR]
     have hst : (sortB lt (l.take i) []).reverse ++ l.drop i = holeL R x 0 (l.drop (i + 1)):=by rw [← hR,drop_of_opt hx]; simp [holeL]
     rw [hst]
     refine zx ?_
     repeat refine zq ?_
     refine zd ?_
     repeat refine zq ?_
     refine zb fun K hK=>?_;simp only [go_sem];(try simp (disch:=omega) only [zI]);repeat first | intro _ | refine ⟨by omega,?_⟩
     refine hK _ ?_;clear hK K;refine zw (zk [0,1,2,3,8,9]) ?_;simp only [go_sem]
     repeat refine zq ?_
     refine zd ?_
     refine awp_upto0 (n:=53) i (fun k vs=>[(0,.os 1000 0 1 0 l.length),(1,.r (i64 0)),(2,.r (i64 l.length)),(3,.r (.fn f caps)),(8,.r (i64 i)),(9,.r (i64 (i - k : Nat)))])
      (fun k=>[(1000,.arr 3 1 (idx (holeL R x k (l.drop (i + 1)))))]) (fun k=>∀ y ∈ R.take k,lt x y = true) 0 (fit0_of [] hv ?_ ?_) (Nat.zero_le _) (by simp) ?_
     · try simp only [go_sem]
     · try simp only [go_sem]
     · intro k vs hv hk hI
       have hv0:=hv 1000 (by omega)
       have hins:=insB_skip lt x R k hI
       have done : insB lt x (R.drop k) = x :: R.drop k → sortB lt (l.take (i + 1)) [] = R.take k ++ x :: R.drop k:=fun h=>by rw [hnx,hins,h]
       by_cases hk0 : k = i
       · have e0 : i - k = 0:=by omega
         repeat refine zq ?_
         refine awp_dreg2 [(0,some 1000)] follows (by decide +kernel) (by kernel_rfl) (by simp only [keysOk,List.mem_cons,List.not_mem_nil,forall_eq_or_imp,Oc.keyOf,go_sem]; simp) fun K hK=>?_
         simp only [go_sem,hv0,e0];(try simp (disch:=omega) only [zI]);repeat first | intro _ | refine ⟨by omega,?_⟩
         refine hK _ ?_;clear hK K;refine zw (zk [0,1,2,3,8,9,34]) ?_;simp only [go_sem]
         repeat refine zq ?_
         refine zc rfl (fun hc=>?_) (fun hc=>?_) <;> (try simp only [go_sem] at hc)
         refine zf ?_;simp only [go_sem]
         repeat refine zq ?_
         refine zb fun K hK=>?_;simp only [go_sem];(try simp (disch:=omega) only [zI]);repeat first | intro _ | refine ⟨by omega,?_⟩
         refine hK _ ?_;clear hK K
         try simp only [go_sem]
         refine ⟨by omega,fit0_of [] hv ?_ ?_⟩
         · try simp only [go_sem]
         · have hd0 : R.drop k = []:=List.drop_eq_nil_of_le (by omega)
           have:=done (by rw [hd0]; rfl)
           simp only [go_sem,this]
           simp [holeL]
       · obtain ⟨y,hy⟩:=opt_of_lt (l:=R) (i:=k) (by omega)
         obtain ⟨j,hj⟩ : ∃ j,i - k = j + 1:=⟨i - k - 1,by omega⟩
         have hjs : IntKind.i64.wrap ((j : Int) + 1 - 1) = j:=by rw [zI] <;> omega
         have hlen : (holeL R x k (l.drop (i + 1))).length = l.length:=by rw [hole_len _ _ _ _ (by omega),List.length_drop]; omega
         have hxa : (holeL R x k (l.drop (i + 1)))[j + 1]? = some x:=by rw [← hj,← hRl]; exact hole_at R x k _ (by omega)
         have hya : (holeL R x k (l.drop (i + 1)))[j]? = some y:=by
          have:=(hole_next (x:=x) (rest:=l.drop (i + 1)) hy).1
          rw [hRl,hj] at this
          exact this
         have hcall:=hcc x (mem_of_opt hx) y (hRm y (mem_of_opt hy))
         have hpos : (0 < (j : Int) + 1) = True:=by simp
         have hlxy:=hlt x y
         repeat refine zq ?_
         refine awp_dreg2 [(0,some 1000)] follows (by decide +kernel) (by kernel_rfl) (by simp only [keysOk,List.mem_cons,List.not_mem_nil,forall_eq_or_imp,Oc.keyOf,go_sem]; simp) fun K hK=>?_
         simp only [go_sem,hv0,hj,hjs,hxa,hya,hlen,hpos];(try simp (disch:=omega) only [zI])
         refine ⟨by omega,by omega,?_⟩
         refine zh (hcall) rfl (by simp only [go_sem,i64,ints,hv0]) (by simp only [go_sem,i64,ints,hv0]) (by first | exact .inl rfl | exact .inr rfl) ?_
         (try simp only [go_sem,hv0]);(try simp (disch:=omega) only [zI]);repeat first | intro _ | refine ⟨by omega,?_⟩
         refine hK _ ?_;clear hK K;refine zw (zk [0,1,2,3,8,9,34]) ?_;simp only [go_sem]
         cases hcx : decide (c x y < 0)
         · repeat refine zq ?_
           refine zc rfl (fun hc=>?_) (fun hc=>?_) <;> (try simp only [go_sem] at hc)
           refine zf ?_;simp only [go_sem]
           repeat refine zq ?_
           refine zb fun K hK=>?_;simp only [go_sem];(try simp (disch:=omega) only [zI]);repeat first | intro _ | refine ⟨by omega,?_⟩
           refine hK _ ?_;clear hK K
           try simp only [go_sem]
           refine ⟨by omega,fit0_of [] hv ?_ ?_⟩
           · try simp only [go_sem]
           · have:=done (by rw [drop_of_opt hy]; simp [insB,hlxy,hcx])
             simp only [go_sem,this]
             simp [holeL]
         · repeat refine zq ?_
           refine zc rfl (fun hc=>?_) (fun hc=>?_) <;> (try simp only [go_sem] at hc)
           refine zx ?_
           try simp only [go_sem]
           repeat refine zq ?_
           refine zd ?_
           have hset : ((idx (holeL R x k (l.drop (i + 1)))).set (j + 1) [i64 (y : Int)]).getD j [] = [i64 (y : Int)]:=by
            rw [List.getD_eq_getElem?_getD,List.getElem?_set_ne (by omega),List.getElem?_map,hya]; rfl
           have hsw:=hole_swap (fun (x : Nat)=>[i64 (x : Int)]) (x:=x) (rest:=l.drop (i + 1)) hy
           rw [hRl,hj] at hsw
           simp only [Nat.add_sub_cancel] at hsw
           repeat refine zq ?_
           refine awp_dreg2 [(0,some 1000)] follows (by decide +kernel) (by kernel_rfl) (by simp only [keysOk,List.mem_cons,List.not_mem_nil,forall_eq_or_imp,Oc.keyOf,go_sem]; simp) fun K hK=>?_
           simp only [go_sem,hv0,hj,hjs,hxa,hya,hlen,hset,List.length_set];(try simp (disch:=omega) only [zI])
           repeat' first | intro _ | refine And.intro ?_ ?_
           all_goals first | omega | skip
           all_goals (refine hK _ ?_; clear hK K)
           refine zw (zk [0,1,2,3,8,9]) ?_;simp only [go_sem]
           repeat refine zq ?_
           refine zb fun K hK=>?_;simp only [go_sem,hjs];(try simp (disch:=omega) only [zI]);repeat first | intro _ | refine ⟨by omega,?_⟩
           refine hK _ ?_;clear hK K
           try simp only [go_sem]
           have hj2 : i - (k + 1) = j:=by omega
           refine ⟨by omega,?_,fit0_of [] (lent_put (lent_put hv)) ?_ ?_⟩
           · rw [take_of_opt hy]
             intro z hz
             rcases List.mem_append.1 hz with hz | hz
             · exact hI z hz
             · simp only [List.mem_singleton] at hz
               subst hz
               rw [hlxy,hcx]
           · simp only [go_sem,hj2]
           · simp only [go_sem];exact congrArg (fun z=>[(1000,RowC.arr 3 1 z)]) hsw
   · refine zf ?_;simp only [go_sem]
     have h1 : l.take i = l:=List.take_of_length_le (by omega)
     have h2 : l.drop i = []:=List.drop_eq_nil_of_le (by omega)
     rw [h1,h2,List.append_nil]
     rfl
theorem stable_ok (lt : Nat → Nat → Bool) (c : Nat → Nat → Int) (f : Nat) (caps : List RV) (l : List Nat) (hl : l.length ≤ 19) (hlt : ∀ x y,lt x y = decide (c x y < 0))
 (hcc : ∀ x ∈ l,∀ y ∈ l,ACalls Try.prog f (i64 (x : Int) :: i64 (y : Int) :: caps) (i64 (c x y))) :
 MCalls Try.prog 94 [(1000,.arr 3 1 (idx l))] [(1000,.arr 3 1 (idx (sortN lt l)))] [.os 1000 0 1 0 l.length,.r (i64 l.length),.r (.fn f caps)] (.tu []):=by
 refine mcalls_st (n:=63) (rs:=[]) _ _ [] Try.func94 rfl (by kernel_rfl) Try.ntmps94 rfl (by simp) rfl rfl fun C=>?_
 repeat refine zq ?_
 refine zb fun K hK=>?_;simp only [go_sem];(try simp (disch:=omega) only [zI]);repeat first | intro _ | refine ⟨by omega,?_⟩
 refine hK _ ?_;clear hK K
 repeat refine zq ?_
 refine zb fun K hK=>?_;simp only [go_sem];(try simp (disch:=omega) only [zI]);repeat first | intro _ | refine ⟨by omega,?_⟩
 refine hK _ ?_;clear hK K;refine zw (zk [0,1,2,6,7,8]) ?_;simp only [go_sem]
 repeat refine zq ?_
 refine zd ?_
 refine awp_upto0 (n:=63) 0 (fun i vs=>[(0,.os 1000 0 1 0 l.length),(1,.r (i64 l.length)),(2,.r (.fn f caps)),(6,.r (i64 20)),(7,.r (i64 0)),(8,.r (i64 20))])
  (fun i=>[(1000,.arr 3 1 (idx l))]) (fun i=>True) 0 (fit0_of [] lent_zero ?_ ?_) (Nat.zero_le _) trivial ?_
 · try simp only [go_sem]
 · try simp only [go_sem]
 intro i vs hv _ _
 have hv0:=hv 1000 (by omega)
 repeat refine zq ?_
 refine zb fun K hK=>?_;simp only [go_sem];(try simp (disch:=omega) only [zI]);repeat first | intro _ | refine ⟨by omega,?_⟩
 refine hK _ ?_;clear hK K
 repeat refine zq ?_
 refine zc rfl (fun hc=>?_) (fun hc=>?_) <;> (try simp only [go_sem] at hc)
 · omega
 refine zf ?_;simp only [go_sem]
 repeat refine zq ?_
 refine zb fun K hK=>?_;simp only [go_sem];(try simp (disch:=omega) only [zI])
 refine xcall_mut (insertion_ok lt c f caps l (by omega) hlt hcc) [(1000,1000)] rfl (by simp only [go_sem,i64,ints,hv0]) (by simp only [go_sem,i64,ints,hv0]) (by rfl) (by rfl) ?_
 (try simp only [go_sem,hv0]);(try simp (disch:=omega) only [zI]);repeat first | intro _ | refine ⟨by omega,?_⟩
 refine hK _ ?_;clear hK K
 try simp only [go_sem]
 repeat refine zq ?_
 refine zd ?_
 refine awp_upto0 (n:=63) 0 (fun i vs=>[(1,.r (i64 l.length)),(6,.r (i64 20))])
  (fun i=>[(1000,.arr 3 1 (idx (sortN lt l)))]) (fun i=>True) 0 (fit0_of [] hv ?_ ?_) (Nat.zero_le _) trivial ?_
 · try simp only [go_sem]
 · try simp only [go_sem]
 intro i vs hv _ _
 repeat refine zq ?_
 refine zb fun K hK=>?_;simp only [go_sem];(try simp (disch:=omega) only [zI]);repeat first | intro _ | refine ⟨by omega,?_⟩
 refine hK _ ?_;clear hK K
 repeat refine zq ?_
 refine zc rfl (fun hc=>?_) (fun hc=>?_) <;> (try simp only [go_sem] at hc)
 · omega
 refine zf ?_;simp only [go_sem]
theorem sortStable_ok (lt : Nat → Nat → Bool) (c : Nat → Nat → Int) (f : Nat) (caps : List RV) (l : List Nat) (hl : l.length ≤ 19) (hlt : ∀ x y,lt x y = decide (c x y < 0))
 (hcc : ∀ x ∈ l,∀ y ∈ l,ACalls Try.prog f (i64 (x : Int) :: i64 (y : Int) :: caps) (i64 (c x y))) :
 MCalls Try.prog 48 [(1000,.arr 3 1 (idx l))] [(1000,.arr 3 1 (idx (sortN lt l)))] [.os 1000 0 1 0 l.length,.r (.fn f caps)] (.tu []):=by
 refine mcalls_st (n:=9) (rs:=[]) _ _ [] Try.func48 rfl (by kernel_rfl) Try.ntmps48 rfl (by simp) rfl rfl fun C=>?_
 repeat refine zq ?_
 refine zb fun K hK=>?_;simp only [go_sem];(try simp (disch:=omega) only [zI])
 intro _
 refine xcall_mut (stable_ok lt c f caps l (by omega) hlt hcc) [(1000,1000)] rfl (by simp only [go_sem,i64,ints]) (by simp only [go_sem,i64,ints]) (by rfl) (by rfl) ?_
 (try simp only [go_sem]);(try simp (disch:=omega) only [zI]);repeat first | intro _ | refine ⟨by omega,?_⟩
 refine hK _ ?_;clear hK K
 try simp only [go_sem]
theorem relV_unmap {w : World} {p : Plan} {ver : Nat → Nat} : ∀ {xs : List RV} {vs : List Value},AV.relV w p ver (xs.map .r) vs → RV.relV w p.R xs vs
 | [],_,h=>by simpa only [List.map_nil,AV.relV,RV.relV] using h
 | x :: xs, vs, h => by
   simp only [List.map_cons,AV.relV,AV.rel] at h
   simp only [RV.relV]
   obtain ⟨u,us,h1,h2,h3⟩:=h
   exact ⟨u,us,h1,h2,relV_unmap h3⟩
theorem mcalls_fn {F : Nat} {L L' : List (Nat × RowC)} {x r : AV} {f : Nat} {caps : List RV} (h : MCalls Try.prog F L L' [x,.r (.fn f caps)] r) : MCalls Try.prog F L L' [x,.fn f (caps.map .r)] r :=
 ⟨h.1,fun w p vs h1 h2 h3 h4 h5 h6 hV=>h.2 w p vs h1 h2 h3 h4 h5 h6 (by
  simp only [AV.relV] at hV ⊢
  obtain ⟨u,us,e1,k1,u',us',e2,k2,e3⟩:=hV
  refine ⟨u,us,e1,k1,u',us',e2,?_,e3⟩
  simp only [AV.rel,RV.rel] at k2 ⊢
  obtain ⟨ws,k3,k4⟩:=k2
  exact ⟨ws,k3,relV_unmap k4⟩)⟩
def moreS (l : List Bd) (o : List Int) (m : Int) (i : Nat) : Int:=min m ((l[i]?.map (·.hi)).getD 0 - (o[i]?).getD 0)
def fillS (l : List Bd) : List Nat → List Int × Int → List Int × Int
 | [],x=>x
 | i :: is,x=>fillS l is (x.1.set i ((x.1[i]?).getD 0 + moreS l x.1 x.2 i),x.2 - moreS l x.1 x.2 i)
theorem fillS_snoc (l : List Bd) : ∀ (is : List Nat) (i : Nat) (x : List Int × Int),fillS l (is ++ [i]) x = ((fillS l is x).1.set i (((fillS l is x).1[i]?).getD 0 + moreS l (fillS l is x).1 (fillS l is x).2 i),(fillS l is x).2 - moreS l (fillS l is x).1 (fillS l is x).2 i)
 | [],_,_=>rfl
 | j :: is,i,x=>by simp only [List.cons_append,fillS]; exact fillS_snoc l is i _
def FillOk (l : List Bd) (x : List Int × Int) : Prop:=x.1.length = l.length ∧ (0 ≤ x.2 ∧ x.2 ≤ 6000) ∧ ∀ (i : Nat) (b : Bd) (o : Int),l[i]? = some b → x.1[i]? = some o → b.lo ≤ o ∧ o ≤ b.hi
theorem fillOk_step {l : List Bd} {x : List Int × Int} (h : FillOk l x) {i : Nat} {b : Bd} {o : Int} (hb : l[i]? = some b) (ho : x.1[i]? = some o) :
 moreS l x.1 x.2 i = min x.2 (b.hi - o) ∧ 0 ≤ moreS l x.1 x.2 i ∧ FillOk l (x.1.set i ((x.1[i]?).getD 0 + moreS l x.1 x.2 i),x.2 - moreS l x.1 x.2 i):=by
 obtain ⟨h1,h2,h3⟩:=h
 obtain ⟨h4,h5⟩:=h3 i b o hb ho
 have hm : moreS l x.1 x.2 i = min x.2 (b.hi - o):=by simp [moreS,hb,ho]
 refine ⟨hm,by omega,by simp [h1],by simp only; omega,fun k b' o' hb' ho'=>?_⟩
 simp only [ho,Option.getD_some] at ho'
 by_cases e : i = k
 · subst e
   rw [List.getElem?_set_self (by have:=(List.getElem?_eq_some_iff.1 ho).1; exact this)] at ho'
   injection ho' with ho'
   rw [hb] at hb'
   injection hb' with hb'
   subst hb'
   omega
 · rw [List.getElem?_set_ne e] at ho'
   exact h3 k b' o' hb' ho'
theorem fillOk_all {l : List Bd} : ∀ (is : List Nat) (x : List Int × Int),(∀ i ∈ is,i < l.length) → FillOk l x → FillOk l (fillS l is x)
 | [],_,_,h=>h
 | i :: is, x, hi, h => by
   obtain ⟨b,hb⟩:=opt_of_lt (hi i (by simp))
   obtain ⟨o,ho⟩:=opt_of_lt (l:=x.1) (i:=i) (by have:=hi i (by simp); have:=h.1; omega)
   exact fillOk_all is _ (fun j hj=>hi j (by simp [hj])) (fillOk_step h hb ho).2.2
def startF (d : Int) (l : List Bd) : List Int × Int:=(l.map (·.lo),d - loS l)
def keyLt (cm : Int → Int → Int) (vals : List Int) (i k : Nat) : Bool:=decide (cm ((vals[i]?).getD 0) ((vals[k]?).getD 0) < 0)
def filledV (cm : Int → Int → Int) (d : Int) (l : List Bd) (vals : List Int) : List Int:=(fillS l (sortN (keyLt cm vals) (List.range l.length)) (startF d l)).1
theorem startF_ok {d : Int} {l : List Bd} (hc : chOk d l = true) (hd : d ≤ 3000) (h1 : loS l ≤ d) (h0 : 0 ≤ loS l) : FillOk l (startF d l):=by
 refine ⟨by simp [startF],by simp only [startF]; omega,fun i b o hb ho=>?_⟩
 simp only [startF,List.getElem?_map,hb,Option.map_some,Option.some.injEq] at ho
 have:=List.all_eq_true.1 hc b (mem_of_opt hb)
 simp only [Bool.and_eq_true,decide_eq_true_eq] at this
 omega
theorem mem_sortN {lt : Nat → Nat → Bool} {l : List Nat} {z : Nat} : z ∈ sortN lt l ↔ z ∈ l:=by
 unfold sortN
 rw [List.mem_reverse,mem_sortB]
 simp
theorem sortN_len (lt : Nat → Nat → Bool) (l : List Nat) : (sortN lt l).length = l.length:=by
 unfold sortN
 rw [List.length_reverse,sortB_len]
 simp
theorem rep_at {g : List (List RV)} {z : List RV} {n i : Nat} (hg : g.length = i) (hi : i < n) : (g ++ List.replicate (n - i) z).getD i [] = z:=by
 rw [List.getD_eq_getElem?_getD,List.getElem?_append_right (by omega),hg,Nat.sub_self,List.getElem?_replicate,if_pos (by omega)]
 rfl
theorem rep_len {g : List (List RV)} {z : List RV} {n i : Nat} (hg : g.length = i) (hi : i < n) : (g ++ List.replicate (n - i) z).length = n:=by simp; omega
theorem rep_set {g : List (List RV)} {z v : List RV} {n i : Nat} (hg : g.length = i) (hi : i < n) : (g ++ List.replicate (n - i) z).set i v = (g ++ [v]) ++ List.replicate (n - (i + 1)) z:=by
 rw [List.set_append_right _ _ (by omega),hg,Nat.sub_self]
 have : n - i = (n - (i + 1)) + 1:=by omega
 rw [this,List.replicate_succ,List.set_cons_zero]
 simp
theorem filled_ok (a : Int) (l : List Bd) (d : Int) (vals : List Int) (f : Nat) (cm : Int → Int → Int) (hf : ∀ x y,ACalls Try.prog f [i64 x,i64 y] (i64 (cm x y))) (hv : vals.length = l.length) (hl : l.length ≤ 19) (hch : chOk d l = true) (hd : d ≤ 3000) (h1 : loS l ≤ d) :
 ACalls Try.prog 125 [.ag [i64 a,bedsR l,i64 d],ints vals,.fn f []] (ints (filledV cm d l vals)):=by
 have hs:=chOk_small hch (by omega)
 have hsm:=sums_le hs
 refine acalls_st (rs:=[ints (filledV cm d l vals)]) [.tmp 6] Try.func125 rfl (by kernel_rfl) Try.ntmps125 rfl (by simp) rfl fun C vs=>?_
 repeat refine zq ?_
 refine zb fun K hK=>?_;simp only [go_sem];(try simp (disch:=omega) only [zI]);repeat first | intro _ | refine ⟨by omega,?_⟩
 refine hK _ ?_;clear hK K;refine zw (sub_frzP 3 3 [i64 a,bedsR l,i64 d] (by omega) rfl rfl) ?_;refine zw (sub_frzP 4 4 [ints vals] (by omega) rfl rfl) ?_;refine zw (sub_frzP 5 5 [.fn f []] (by omega) rfl rfl) ?_;refine zw (zk [3,4,5]) ?_;simp only [go_sem]
 repeat refine zq ?_
 refine awp_dreg2 [(3,none)] follows (by decide +kernel) (by kernel_rfl) (by simp only [keysOk,List.mem_cons,List.not_mem_nil,forall_eq_or_imp,Oc.keyOf,go_sem]; simp) fun K hK=>?_
 simp only [go_sem];(try simp (disch:=omega) only [zI])
 intro _
 refine ⟨⟨by omega,by omega⟩,fun _=>⟨⟨by omega,by omega⟩,?_⟩⟩
 repeat first | intro _ | refine ⟨by omega,?_⟩
 refine hK _ ?_;clear hK K;refine zw (zk [3,4,5,7,8,9]) ?_;simp only [go_sem]
 repeat refine zq ?_
 refine zb fun K hK=>?_;simp only [go_sem];(try simp (disch:=omega) only [zI])
 intro _
 repeat first | intro _ | refine ⟨by omega,?_⟩
 refine hK _ ?_;clear hK K;refine zw (zk [3,4,5,7,8,9,29,30,31]) ?_;simp only [go_sem]
 repeat refine zq ?_
 refine zd ?_
 refine awp_upto (n:=90) l.length (fun i vs=>[(3,.r (.rp [i64 a,bedsR l,i64 d])),(4,.r (.rp [ints vals])),(5,.r (.rp [.fn f []])),(7,.os 19 (vs 19) 1 0 l.length),(8,.os 24 (vs 24) 1 0 l.length),(9,.r (i64 (d - loS (l.take i)))),(29,.r (bedsR l)),(30,.r (i64 l.length)),(31,.r (i64 i))])
  (fun i=>[(19,.arr 3 1 (idx (List.range i) ++ List.replicate (l.length - i) [i64 0])),(24,.arr 3 1 (((l.take i).map fun x=>[i64 x.lo]) ++ List.replicate (l.length - i) [i64 0]))]) (fun _=>True) 0 (fit_of [3,4,5] ?_ ?_) (Nat.zero_le _) trivial ?_
 · try simp only [go_sem]
   simp [loS]
 · try simp only [go_sem]
   simp
 · intro i vs hi _
   repeat refine zq ?_
   refine zb fun K hK=>?_;simp only [go_sem];(try simp (disch:=omega) only [zI]);repeat first | intro _ | refine ⟨by omega,?_⟩
   refine hK _ ?_;clear hK K
   repeat refine zq ?_
   refine zc rfl (fun hc=>?_) (fun hc=>?_) <;> (try simp only [go_sem] at hc)
   · have hci:=hc
     obtain ⟨x,hx⟩:=opt_of_lt hci
     obtain ⟨⟨x1,x2⟩,x3,x4⟩:=hs x (mem_of_opt hx)
     have hsub:=sums_le (hs.take (i + 1))
     have hsub0:=sums_le (hs.take i)
     have htl : ((l.take (i + 1)).length : Int) ≤ 20:=by rw [List.length_take]; omega
     have htl0 : ((l.take i).length : Int) ≤ 20:=by rw [List.length_take]; omega
     have hlo : loS (l.take (i + 1)) = loS (l.take i) + x.lo:=by rw [take_of_opt hx,loS_snoc]
     rw [hlo] at hsub
     refine zx ?_
     repeat refine zq ?_
     refine zd ?_
     repeat refine zq ?_
     refine zb fun K hK=>?_;simp only [go_sem,hx,hci,bedR];(try simp (disch:=omega) only [zI]);repeat first | intro _ | refine ⟨by omega,?_⟩
     refine hK _ ?_;clear hK K;refine zw (zk [3,4,5,7,8,9,10,11,29,30,31]) ?_;simp only [go_sem]
     have g1 : (idx (List.range i)).length = i:=by simp
     have g2 : ((l.take i).map fun x=>[i64 x.lo]).length = i:=by simp; omega
     have r1:=rep_at (z:=[i64 0]) g1 hci
     have r2:=rep_at (z:=[i64 0]) g2 hci
     have r3:=rep_len (z:=[i64 0]) g1 hci
     have r4:=rep_len (z:=[i64 0]) g2 hci
     have r5:=fun v=>rep_set (z:=[i64 0]) (v:=v) g1 hci
     have r6:=fun v=>rep_set (z:=[i64 0]) (v:=v) g2 hci
     repeat refine zq ?_
     refine awp_dreg2 [(7,some 19),(8,some 24),(10,none),(11,some 11)] follows (by decide +kernel) (by kernel_rfl) (by simp only [keysOk,List.mem_cons,List.not_mem_nil,forall_eq_or_imp,Oc.keyOf,go_sem]; simp) fun K hK=>?_
     simp only [go_sem,hci,r1,r2,r3,r4,r5,r6];(try simp (disch:=omega) only [zI]);repeat first | intro _ | refine ⟨by omega,?_⟩
     refine hK _ ?_;clear hK K;refine zw (zk [3,4,5,7,8,9,10,11,29,30,31]) ?_;simp only [go_sem]
     repeat refine zq ?_
     refine zb fun K hK=>?_;simp only [go_sem];(try simp (disch:=omega) only [zI]);repeat first | intro _ | refine ⟨by omega,?_⟩
     refine hK _ ?_;clear hK K;refine zw (zk [3,4,5,7,8,9,29,30,31]) ?_;simp only [go_sem]
     repeat refine zq ?_
     refine zb fun K hK=>?_;simp only [go_sem];(try simp (disch:=omega) only [zI]);repeat first | intro _ | refine ⟨by omega,?_⟩
     refine hK _ ?_;clear hK K
     try simp only [go_sem]
     refine ⟨hci,fit_of [11] ?_ ?_⟩
     · simp only [go_sem,hlo]
       omega
     · try simp only [go_sem]
       have hr : List.range (i + 1) = List.range i ++ [i]:=List.range_succ
       simp only [take_of_opt hx,hr,List.map_append,List.map_cons,List.map_nil]
   · refine zf ?_;simp only [go_sem]
     have hii : i = l.length:=by omega
     subst hii
     have e1 : idx (List.range l.length) ++ List.replicate (l.length - l.length) [i64 0] = idx (List.range l.length):=by simp
     have e2 : ((l.take l.length).map fun x=>[i64 x.lo]) ++ List.replicate (l.length - l.length) [i64 0] = (l.map (·.lo)).map fun x=>[i64 x]:=by simp
     have e3 : l.take l.length = l:=List.take_length
     rw [e1,e2,e3]
     have hmem : ∀ i ∈ List.range l.length,i < vals.length:=fun i hi=>by rw [hv]; exact List.mem_range.1 hi
     have hsort:=sortStable_ok (keyLt cm vals) (fun i k=>cm ((vals[i]?).getD 0) ((vals[k]?).getD 0)) 187 [.rp [.fn f []],.rp [ints vals]] (List.range l.length) (by simpa using hl) (fun _ _=>rfl) (fun i hi k hk=>by
      obtain ⟨x,hx⟩:=opt_of_lt (hmem i hi)
      obtain ⟨y,hy⟩:=opt_of_lt (hmem k hk)
      have:=filled1_ok i k vals f cm hf hx hy
      simpa [hx,hy] using this)
     rw [List.length_range] at hsort
     repeat refine zq ?_
     refine zb fun K hK=>?_;simp only [go_sem];(try simp (disch:=omega) only [zI])
     refine xcall_mut (mcalls_fn hsort) [(1000,19)] rfl (by simp only [go_sem,i64,ints]) (by simp only [go_sem,i64,ints]) (by rfl) (by rfl) ?_
     (try simp only [go_sem]);(try simp (disch:=omega) only [zI]);repeat first | intro _ | refine ⟨by omega,?_⟩
     refine hK _ ?_;clear hK K;refine zw (zk [3,4,5,7,8,9]) ?_;simp only [go_sem]
     obtain ⟨S,hS⟩ : ∃ S,S = sortN (keyLt cm vals) (List.range l.length):=⟨_,rfl⟩
     have hSl : S.length = l.length:=by rw [hS,sortN_len,List.length_range]
     have hSm : ∀ i ∈ S,i < l.length:=fun i hi=>by rw [hS,mem_sortN,List.mem_range] at hi; exact hi
     rw [← hS]
     repeat refine zq ?_
     refine zb fun K hK=>?_;simp only [go_sem];(try simp (disch:=omega) only [zI])
     intro _
     repeat first | intro _ | refine ⟨by omega,?_⟩
     refine hK _ ?_;clear hK K;refine zw (zk [3,4,5,7,8,9,55,56,57]) ?_;simp only [go_sem]
     repeat refine zq ?_
     refine zd ?_
     have hst:=startF_ok hch hd h1 hsm.1.1
     refine awp_upto (n:=90) l.length (fun i vs=>[(3,.r (.rp [i64 a,bedsR l,i64 d])),(8,.os 24 (vs 24) 1 0 l.length),(9,.r (i64 (fillS l (S.take i) (startF d l)).2)),(55,.os 19 (vs 19) 1 0 l.length),(56,.r (i64 l.length)),(57,.r (i64 i))])
      (fun i=>[(19,.arr 3 1 (idx S)),(24,.arr 3 1 ((fillS l (S.take i) (startF d l)).1.map fun x=>[i64 x]))]) (fun _=>True) 0 (fit_of [] ?_ ?_) (Nat.zero_le _) trivial ?_
     · try simp only [go_sem]
       simp [fillS,startF]
     · try simp only [go_sem]
       simp [fillS,startF]
     · intro q vs hq _
       repeat refine zq ?_
       refine zb fun K hK=>?_;simp only [go_sem];(try simp (disch:=omega) only [zI]);repeat first | intro _ | refine ⟨by omega,?_⟩
       refine hK _ ?_;clear hK K
       repeat refine zq ?_
       refine zc rfl (fun hc=>?_) (fun hc=>?_) <;> (try simp only [go_sem] at hc)
       · have hci:=hc
         obtain ⟨i,hi⟩:=opt_of_lt (l:=S) (i:=q) (by omega)
         have hil:=hSm i (mem_of_opt hi)
         obtain ⟨x,hx⟩:=opt_of_lt hil
         obtain ⟨F,hF⟩ : ∃ F,F = fillS l (S.take q) (startF d l):=⟨_,rfl⟩
         have hFo : FillOk l F:=hF ▸ fillOk_all _ _ (fun j hj=>hSm j (List.mem_of_mem_take hj)) hst
         obtain ⟨o,ho⟩:=opt_of_lt (l:=F.1) (i:=i) (by have:=hFo.1; omega)
         obtain ⟨s1,s2,s3⟩:=fillOk_step hFo hx ho
         have hnx : fillS l (S.take (q + 1)) (startF d l) = (F.1.set i (o + moreS l F.1 F.2 i),F.2 - moreS l F.1 F.2 i):=by
          rw [take_of_opt hi,fillS_snoc,← hF]
          simp [ho]
         obtain ⟨⟨x1,x2⟩,x3,x4⟩:=hs x (mem_of_opt hx)
         obtain ⟨f1,f2,f3⟩:=hFo
         have f4:=f3 i x o hx ho
         rw [← hF]
         refine zx ?_
         repeat refine zq ?_
         refine zd ?_
         repeat refine zq ?_
         refine zb fun K hK=>?_;simp only [go_sem,hi,hci];(try simp (disch:=omega) only [zI]);repeat first | intro _ | refine ⟨by omega,?_⟩
         refine hK _ ?_;clear hK K;refine zw (zk [3,8,9,13,55,56,57]) ?_;simp only [go_sem]
         repeat refine zq ?_
         refine awp_dreg2 [(3,none),(8,some 24),(9,none),(13,none)] follows (by decide +kernel) (by kernel_rfl) (by simp only [keysOk,List.mem_cons,List.not_mem_nil,forall_eq_or_imp,Oc.keyOf,go_sem]; simp) fun K hK=>?_
         simp only [go_sem,hx,ho,hil,bedR,f1];(try simp (disch:=omega) only [zI]);repeat first | intro _ | refine ⟨by omega,?_⟩
         refine hK _ ?_;clear hK K;refine zw (zk [3,8,9,13,14,55,56,57]) ?_;simp only [go_sem]
         repeat refine zq ?_
         refine zb fun K hK=>?_;simp only [go_sem,ho,hil,f1];(try simp (disch:=omega) only [zI])
         have hwr : IntKind.i64.wrap (o + min F.2 (x.hi - o)) = o + min F.2 (x.hi - o):=by rw [zI] <;> omega
         repeat first | intro _ | refine ⟨by omega,?_⟩
         refine hK _ ?_;clear hK K;refine zw (zk [3,8,9,55,56,57]) ?_;simp only [go_sem]
         repeat refine zq ?_
         refine zb fun K hK=>?_;simp only [go_sem];(try simp (disch:=omega) only [zI]);repeat first | intro _ | refine ⟨by omega,?_⟩
         refine hK _ ?_;clear hK K
         try simp only [go_sem]
         refine ⟨hci,fit_of [] ?_ ?_⟩
         · simp only [go_sem,hnx,s1]
         · simp only [go_sem,hnx,s1];rw [List.map_set]
       · refine zf ?_;simp only [go_sem]
         repeat refine zq ?_
         refine zb fun K hK=>?_;simp only [go_sem];(try simp (disch:=omega) only [zI]);repeat first | intro _ | refine ⟨by omega,?_⟩
         refine hK _ ?_;clear hK K;refine ze ?_;simp only [go_sem]
         have e4 : S.take q = S:=List.take_of_length_le (by omega)
         rw [e4]
         have hfin:=fillOk_all S (startF d l) hSm hst
         refine ⟨by have:=hfin.1; omega,?_⟩
         rw [List.take_of_length_le (by simp; have:=hfin.1; omega),filledV,← hS]
def dotV : List Int → List Int → Int
 | x :: xs,y :: ys=>x * y + dotV xs ys
 | _,_=>0
theorem dotV_snoc : ∀ {xs ys : List Int} {x y : Int},xs.length = ys.length → dotV (xs ++ [x]) (ys ++ [y]) = dotV xs ys + x * y
 | [],[],x,y,_=>by simp [dotV]
 | _ :: xs,_ :: ys,x,y,h=>by simp only [List.cons_append,dotV]; rw [dotV_snoc (by simpa using h)]; omega
 | [],_ :: _,_,_,h=>by simp at h
 | _ :: _,[],_,_,h=>by simp at h
def Vals (l : List Int) : Prop:=∀ x ∈ l,-1000000000000 ≤ x ∧ x ≤ 1000000000000
theorem mul_bound {x y : Int} (h0 : 0 ≤ x) (h1 : x ≤ 6000) (h2 : -1000000000000 ≤ y) (h3 : y ≤ 1000000000000) : -6000000000000000 ≤ x * y ∧ x * y ≤ 6000000000000000:=by
 constructor
 · have h4 : x * -1000000000000 ≤ x * y:=Int.mul_le_mul_of_nonneg_left h2 h0
   omega
 · have h4 : x * y ≤ x * 1000000000000:=Int.mul_le_mul_of_nonneg_left h3 h0
   omega
theorem dotV_bound : ∀ {xs ys : List Int},(∀ x ∈ xs,0 ≤ x ∧ x ≤ 6000) → Vals ys → -6000000000000000 * (xs.length : Int) ≤ dotV xs ys ∧ dotV xs ys ≤ 6000000000000000 * xs.length
 | [],_,_,_=>by simp [dotV]
 | _ :: _,[],_,_=>by simp only [dotV,List.length_cons]; omega
 | x :: xs, y :: ys, h, hv => by
   have h1:=dotV_bound (xs:=xs) (ys:=ys) (fun z hz=>h z (by simp [hz])) fun z hz=>hv z (by simp [hz])
   have h2:=h x (by simp)
   have h3:=hv y (by simp)
   have h4:=mul_bound h2.1 h2.2 h3.1 h3.2
   simp only [dotV,List.length_cons]
   omega
theorem filled_facts {cm : Int → Int → Int} {d : Int} {l : List Bd} {vals : List Int} (hch : chOk d l = true) (hd : d ≤ 3000) (h1 : loS l ≤ d) : (filledV cm d l vals).length = l.length ∧ ∀ x ∈ filledV cm d l vals,0 ≤ x ∧ x ≤ 3000:=by
 have hs:=chOk_small hch (by omega)
 have hsm:=sums_le hs
 have hst:=startF_ok hch hd h1 hsm.1.1
 have hfin:=fillOk_all (sortN (keyLt cm vals) (List.range l.length)) (startF d l) (fun i hi=>by rw [mem_sortN,List.mem_range] at hi; exact hi) hst
 refine ⟨hfin.1,fun x hx=>?_⟩
 obtain ⟨i,hi⟩:=List.getElem?_of_mem hx
 obtain ⟨b,hb⟩:=opt_of_lt (l:=l) (i:=i) (by have:=(List.getElem?_eq_some_iff.1 hi).1; have:=hfin.1; unfold filledV at *; omega)
 have h2:=hfin.2.2 i b x hb hi
 have:=List.all_eq_true.1 hch b (mem_of_opt hb)
 simp only [Bool.and_eq_true,decide_eq_true_eq] at this
 omega
theorem mean1_ok (a : Int) (l : List Bd) (d : Int) (vals : List Int) (f : Nat) (cm : Int → Int → Int) (hf : ∀ x y,ACalls Try.prog f [i64 x,i64 y] (i64 (cm x y))) (hv : vals.length = l.length) (hl : l.length ≤ 19) (hch : chOk d l = true) (hd : d ≤ 3000) (h1 : loS l ≤ d) (hvs : Vals vals) :
 ACalls Try.prog 124 [.fn f [],.rp [i64 a,bedsR l,i64 d],.rp [ints vals]] (i64 (dotV (filledV cm d l vals) vals)):=by
 obtain ⟨q1,q2⟩:=filled_facts (cm:=cm) (vals:=vals) hch hd h1
 obtain ⟨F,hF⟩ : ∃ F,F = filledV cm d l vals:=⟨_,rfl⟩
 have hfl:=filled_ok a l d vals f cm hf hv hl hch hd h1
 rw [← hF] at q1 q2 hfl ⊢
 refine acalls_st (rs:=[i64 (dotV F vals)]) [.tmp 4] Try.func124 rfl (by kernel_rfl) Try.ntmps124 rfl (by simp) rfl fun C vs=>?_
 repeat refine zq ?_
 refine zb fun K hK=>?_;simp only [go_sem];(try simp (disch:=omega) only [zI]);repeat first | intro _ | refine ⟨by omega,?_⟩
 refine hK _ ?_;clear hK K
 repeat refine zq ?_
 refine zb fun K hK=>?_;simp only [go_sem];(try simp (disch:=omega) only [zI])
 refine zh (hfl) rfl (by simp only [go_sem,i64,ints]) (by simp only [go_sem,i64,ints]) (by first | exact .inl rfl | exact .inr rfl) ?_
 (try simp only [go_sem]);(try simp (disch:=omega) only [zI])
 intro _
 repeat first | intro _ | refine ⟨by omega,?_⟩
 refine hK _ ?_;clear hK K;refine zw (zk [2,4,10,11,12]) ?_;simp only [go_sem]
 repeat refine zq ?_
 refine zd ?_
 refine awp_upto (n:=27) F.length (fun i vs=>[(2,.r (.rp [ints vals])),(4,.r (i64 (dotV (F.take i) (vals.take i)))),(10,.r (ints F)),(11,.r (i64 F.length)),(12,.r (i64 i))]) (fun _=>[]) (fun _=>True) 0 (fit_of [] ?_ ?_) (Nat.zero_le _) trivial ?_
 · try simp only [go_sem]
   simp [dotV]
 · try simp only [go_sem]
 · intro i vs hi _
   repeat refine zq ?_
   refine zb fun K hK=>?_;simp only [go_sem];(try simp (disch:=omega) only [zI]);repeat first | intro _ | refine ⟨by omega,?_⟩
   refine hK _ ?_;clear hK K
   repeat refine zq ?_
   refine zc rfl (fun hc=>?_) (fun hc=>?_) <;> (try simp only [go_sem] at hc)
   · have hci:=hc
     have hcv : i < vals.length:=by omega
     obtain ⟨x,hx⟩:=opt_of_lt hci
     obtain ⟨y,hy⟩:=opt_of_lt hcv
     have b1:=q2 x (mem_of_opt hx)
     have b2:=hvs y (mem_of_opt hy)
     have b3:=mul_bound b1.1 (by omega) b2.1 b2.2
     have b4:=dotV_bound (xs:=F.take i) (ys:=vals.take i) (fun z hz=>by have:=q2 z (List.mem_of_mem_take hz); omega) (fun z hz=>hvs z (List.mem_of_mem_take hz))
     have b5 : ((F.take i).length : Int) ≤ 19:=by rw [List.length_take]; omega
     have hsn : dotV (F.take (i + 1)) (vals.take (i + 1)) = dotV (F.take i) (vals.take i) + x * y:=by
      rw [take_of_opt hx,take_of_opt hy,dotV_snoc (by simp; omega)]
     have hw1 : IntKind.i64.wrap (x * y) = x * y:=by rw [zI] <;> omega
     refine zx ?_
     repeat refine zq ?_
     refine zd ?_
     repeat refine zq ?_
     refine zb fun K hK=>?_;simp only [go_sem,hx,hci];(try simp (disch:=omega) only [zI]);repeat first | intro _ | refine ⟨by omega,?_⟩
     refine hK _ ?_;clear hK K
     repeat refine zq ?_
     refine zb fun K hK=>?_;simp only [go_sem,hy,hcv,hw1];(try simp (disch:=omega) only [zI]);repeat first | intro _ | refine ⟨by omega,?_⟩
     refine hK _ ?_;clear hK K;refine zw (zk [2,4,10,11,12]) ?_;simp only [go_sem]
     repeat refine zq ?_
     refine zb fun K hK=>?_;simp only [go_sem];(try simp (disch:=omega) only [zI]);repeat first | intro _ | refine ⟨by omega,?_⟩
     refine hK _ ?_;clear hK K
     try simp only [go_sem]
     refine ⟨hci,fit_of [] ?_ ?_⟩
     · simp only [go_sem,hsn]
     · try simp only [go_sem]
   · refine zf ?_;simp only [go_sem]
     repeat refine zq ?_
     refine zb fun K hK=>?_;simp only [go_sem];(try simp (disch:=omega) only [zI]);repeat first | intro _ | refine ⟨by omega,?_⟩
     refine hK _ ?_;clear hK K;refine ze ?_;simp only [go_sem];rw [List.take_of_length_le (by omega),List.take_of_length_le (by omega)]
def meanLo (d : Int) (l : List Bd) (vals : List Int) : Int:=dotV (filledV cmpI d l vals) vals
def meanHi (d : Int) (l : List Bd) (vals : List Int) : Int:=dotV (filledV (fun x y=>cmpI y x) d l vals) vals
theorem mean_ok (a : Int) (l : List Bd) (d : Int) (vals : List Int) (hv : vals.length = l.length) (hl : l.length ≤ 19) (hch : chOk d l = true) (hd : d ≤ 3000) (h1 : loS l ≤ d) (hvs : Vals vals) :
 ACalls Try.prog 72 [.ag [i64 a,bedsR l,i64 d],ints vals] (.ag [i64 (meanLo d l vals),i64 (meanHi d l vals)]):=by
 refine acalls_st (rs:=[.ag [i64 (meanLo d l vals),i64 (meanHi d l vals)]]) [.cell 4 30] Try.func72 rfl (by kernel_rfl) Try.ntmps72 rfl (by simp) rfl fun C vs=>?_
 repeat refine zq ?_
 refine zb fun K hK=>?_;simp only [go_sem];(try simp (disch:=omega) only [zI]);repeat first | intro _ | refine ⟨by omega,?_⟩
 refine hK _ ?_;clear hK K
 repeat refine zq ?_
 refine zb fun K hK=>?_;simp only [go_sem];(try simp (disch:=omega) only [zI]);repeat first | intro _ | refine ⟨by omega,?_⟩
 refine hK _ ?_;clear hK K
 repeat refine zq ?_
 refine zb fun K hK=>?_;simp only [go_sem];(try simp (disch:=omega) only [zI])
 refine zh (mean1_ok a l d vals 126 cmpI rising_ok hv hl hch hd h1 hvs) rfl (by simp only [go_sem,i64,ints]) (by simp only [go_sem,i64,ints]) (by first | exact .inl rfl | exact .inr rfl) ?_
 (try simp only [go_sem]);(try simp (disch:=omega) only [zI])
 refine zh (mean1_ok a l d vals 127 (fun x y=>cmpI y x) falling_ok hv hl hch hd h1 hvs) rfl (by simp only [go_sem,i64,ints]) (by simp only [go_sem,i64,ints]) (by first | exact .inl rfl | exact .inr rfl) ?_
 (try simp only [go_sem]);(try simp (disch:=omega) only [zI]);repeat first | intro _ | refine ⟨by omega,?_⟩
 refine hK _ ?_;clear hK K;refine ze ?_;simp only [go_sem]
 simp [meanLo,meanHi]
def aimAt (l : List Am) (i : Int) : Am:=(l[i.toNat]?).getD ⟨0,[]⟩
def pickE (d : Int) (l : List Am) (i : Int) (vals : List Int) : Int :=
 if checkV d l ≠ 0 then checkV d l
 else if ¬ (0 ≤ i ∧ i < l.length) then 7
 else if vals.length ≠ (aimAt l i).beds.length then 4
 else if withinL (-1000000000000) 1000000000000 vals = false then 2 else 0
def meanV (d : Int) (l : List Am) (i : Int) (vals : List Int) : Int × Int:=if pickE d l i vals = 0 then (meanLo d (aimAt l i).beds vals,meanHi d (aimAt l i).beds vals) else (0,0)
def truthV (d : Int) (l : List Am) (i : Int) (vals : List Int) (g : Bool) : List Int:=if pickE d l i vals = 0 then filledV (if g then fun x y=>cmpI y x else cmpI) d (aimAt l i).beds vals else []
theorem bedOk_range {b : Int} (h : bedOk b = true) : 100 ≤ b ∧ b ≤ 499:=by
 simp only [bedOk,Bool.or_eq_true,Bool.and_eq_true,decide_eq_true_eq] at h
 omega
theorem seqOk_mem : ∀ {p : Option Int} {l : List Bd},seqOk p l = true → ∀ x ∈ l,0 ≤ x.b ∧ x.b ≤ 499
 | _,[],_,x,hx=>by cases hx
 | p, y :: l, h, x, hx => by
   simp only [seqOk,Bool.and_eq_true,Bool.or_eq_true,decide_eq_true_eq] at h
   rcases List.mem_cons.1 hx with rfl | hx
   · rcases h.1.1 with h0 | h0
     · omega
     · have:=bedOk_range h0; omega
   · exact seqOk_mem h.2 x hx
def scoresOf (l : List Bd) : List Int:=l.map fun x=>scoreOf x.b
def spanOf (d : Int) (a : Am) : Int × Int:=(meanLo d a.beds (scoresOf a.beds),meanHi d a.beds (scoresOf a.beds))
abbrev spansR (l : List (Int × Int)) : RV:=.sl 2 (l.map fun x=>[i64 x.1,i64 x.2])
def spansV (d : Int) (l : List Am) : List (Int × Int):=if checkV d l = 0 then l.map (spanOf d) else []
theorem Score_ok (d : Int) (l : List Am) (hw : WfL d l) : ACalls Try.prog 73 [lawV d l] (.tu [spansR (spansV d l),i64 (checkV d l)]):=by
 refine acalls_stR (rs:=[spansR (spansV d l),i64 (checkV d l)]) [.cell 2 33,.tmp 3] Try.func73 rfl (by kernel_rfl) Try.ntmps73 rfl (by simp) rfl fun C hC vs=>?_
 repeat refine zq ?_
 refine zb fun K hK=>?_;simp only [go_sem];(try simp (disch:=omega) only [zI]);repeat first | intro _ | refine ⟨by omega,?_⟩
 refine hK _ ?_;clear hK K
 repeat refine zq ?_
 refine zb fun K hK=>?_;simp only [go_sem];(try simp (disch:=omega) only [zI])
 refine zh (check_ok d l hw) rfl (by simp only [go_sem,i64,ints]) (by simp only [go_sem,i64,ints]) (by first | exact .inl rfl | exact .inr rfl) ?_
 (try simp only [go_sem]);(try simp (disch:=omega) only [zI]);repeat first | intro _ | refine ⟨by omega,?_⟩
 refine hK _ ?_;clear hK K
 repeat refine zq ?_
 refine zb fun K hK=>?_;simp only [go_sem];(try simp (disch:=omega) only [zI])
 cases hE : checkV d l != 0
 case true =>
  repeat first | intro _ | refine ⟨by omega,?_⟩
  refine hK _ ?_;clear hK K
  have hne : ¬ checkV d l = 0:=by simpa using hE
  repeat refine zq ?_
  refine zc rfl (fun hc=>?_) (fun hc=>?_) <;> (try simp only [go_sem] at hc)
  repeat refine zq ?_
  refine zb fun K hK=>?_;simp only [go_sem];(try simp (disch:=omega) only [zI]);repeat first | intro _ | refine ⟨by omega,?_⟩
  refine hK _ ?_;clear hK K;refine ze ?_;simp only [go_sem]
  simp [hne,spansV]
 have h0 : checkV d l = 0:=by simpa using hE
 obtain ⟨c1,c2,c3,c4,c5⟩:=checkV_zero h0
 repeat first | intro _ | refine ⟨by omega,?_⟩
 refine hK _ ?_;clear hK K
 repeat refine zq ?_
 refine zc rfl (fun hc=>?_) (fun hc=>?_) <;> (try simp only [go_sem] at hc)
 refine zx ?_
 try simp only [go_sem]
 repeat refine zq ?_
 refine zb fun K hK=>?_;simp only [go_sem];(try simp (disch:=omega) only [zI])
 refine zh (all_ok d l) rfl (by simp only [go_sem,i64,ints]) (by simp only [go_sem,i64,ints]) (by first | exact .inl rfl | exact .inr rfl) ?_
 (try simp only [go_sem]);(try simp (disch:=omega) only [zI]);repeat first | intro _ | refine ⟨by omega,?_⟩
 refine hK _ ?_;clear hK K;refine zw (zk [2,16]) ?_;simp only [go_sem]
 repeat refine zq ?_
 refine zd ?_;refine zw (sub_ownB 2 0 39 30 2 (by omega) (by omega) rfl rfl) ?_
 try simp only [go_sem]
 refine awp_rangeF hC (enumA d l) (all1_ok d l) [2,16] (by decide) (fun vs=>[(2,.pt 2 (vs 2) 0),(16,.r (.fn 188 [.rp [i64 d,aimsR l]]))])
  (fun i vs=>[(2,.box [.os 39 (vs 39) 2 0 i]),(39,.arr 30 2 (((l.map (spanOf d)).take i).map fun x=>[i64 x.1,i64 x.2]))])
  (fun i=>True) (zj [1] ?_ ?_) trivial (fun _=>rfl) (fun _=>rfl) (fun _ _=>rfl) (by simp) (fun e he=>enumA_len he) ?_ ?_
 · try simp only [go_sem]
 · try simp only [go_sem]
 · intro i e vs us C he _
   obtain ⟨x,hx,rfl⟩:=enumA_get he
   obtain ⟨_,_,k3,k4,k5,_⟩:=aimOk_facts (c5 x (mem_of_opt hx))
   have hsq:=seqOk_mem k3
   have hbl:=c2 x (mem_of_opt hx)
   have hil : i < l.length:=(List.getElem?_eq_some_iff.1 hx).1
   have hlt : ((l.map (spanOf d)).take i).length = i:=by rw [List.length_take]; simp; omega
   have htx : (l.map (spanOf d)).take (i + 1) = (l.map (spanOf d)).take i ++ [spanOf d x]:=take_of_opt (by simp [hx])
   have hvals : Vals (scoresOf x.beds):=fun v hv=>by
    obtain ⟨y,hy,rfl⟩:=List.mem_map.1 hv
    have:=score_le (hsq y hy).1 (hsq y hy).2
    omega
   repeat refine zq ?_
   refine zb fun K hK=>?_;simp only [go_sem];(try simp (disch:=omega) only [zI]);repeat first | intro _ | refine ⟨by omega,?_⟩
   refine hK _ ?_;clear hK K
   refine ⟨rfl,fun C'=>?_⟩
   refine zw (zk [2,6,16]) ?_;simp only [go_sem]
   repeat refine zq ?_
   refine zd ?_
   repeat refine zq ?_
   refine zb fun K hK=>?_;simp only [go_sem];(try simp (disch:=omega) only [zI]);repeat first | intro _ | refine ⟨by omega,?_⟩
   refine hK _ ?_;clear hK K
   repeat refine zq ?_
   refine zb fun K hK=>?_;simp only [go_sem];(try simp (disch:=omega) only [zI])
   intro _
   repeat first | intro _ | refine ⟨by omega,?_⟩
   refine hK _ ?_;clear hK K;refine zw (zk [2,6,7,16,21,22,23]) ?_;simp only [go_sem];refine zw (sub_own 7 32 3 1 (by omega) rfl) ?_
   try simp only [go_sem]
   repeat refine zq ?_
   refine zd ?_
   refine awp_uptoV (n:=41) x.beds.length (fun k vs=>[(2,.pt 2 (vs 2) 0),(6,.pt 6 (vs 6) 0),(7,.os 32 (vs 32) 1 0 k),(16,.r (.fn 188 [.rp [i64 d,aimsR l]])),(21,.r (bedsR x.beds)),(22,.r (i64 x.beds.length)),(23,.r (i64 k))])
    (fun k vs=>[(0,.sus [.pt 2 (vs 2) 0,.r (.fn 188 [.rp [i64 d,aimsR l]])] us),(2,.box [.os 39 (vs 39) 2 0 i]),(6,.box [.r (i64 x.at_),.r (bedsR x.beds),.r (i64 d)]),(32,.arr 3 1 (((scoresOf x.beds).take k).map fun x=>[i64 x])),(39,.arr 30 2 (((l.map (spanOf d)).take i).map fun x=>[i64 x.1,i64 x.2]))])
    (fun _=>True) 0 (zj [] ?_ ?_) (Nat.zero_le _) trivial ?_
   · try simp only [go_sem]
   · try simp only [go_sem]
   · intro k vs hk _
     have hlk : ((scoresOf x.beds).take k).length = k:=by rw [List.length_take]; simp [scoresOf]; omega
     repeat refine zq ?_
     refine zb fun K hK=>?_;simp only [go_sem];(try simp (disch:=omega) only [zI]);repeat first | intro _ | refine ⟨by omega,?_⟩
     refine hK _ ?_;clear hK K
     repeat refine zq ?_
     refine zc rfl (fun hc=>?_) (fun hc=>?_) <;> (try simp only [go_sem] at hc)
     · have hci:=hc
       obtain ⟨y,hy⟩:=opt_of_lt hc
       have hsy:=hsq y (mem_of_opt hy)
       have htk : (scoresOf x.beds).take (k + 1) = (scoresOf x.beds).take k ++ [scoreOf y.b]:=take_of_opt (by simp [scoresOf,hy])
       refine zx ?_
       repeat refine zq ?_
       refine zd ?_
       repeat refine zq ?_
       refine zb fun K hK=>?_;simp only [go_sem,hy,hc,bedR];(try simp (disch:=omega) only [zI]);repeat first | intro _ | refine ⟨by omega,?_⟩
       refine hK _ ?_;clear hK K;refine zw (zk [2,6,7,9,16,21,22,23]) ?_;simp only [go_sem]
       repeat refine zq ?_
       refine zb fun K hK=>?_;simp only [go_sem,hlk];(try simp (disch:=omega) only [zI])
       refine zh (score_ok y.b hsy.1 hsy.2) rfl (by simp only [go_sem,i64,ints,hlk]) (by simp only [go_sem,i64,ints,hlk]) (by first | exact .inl rfl | exact .inr rfl) ?_
       (try simp only [go_sem,hlk]);(try simp (disch:=omega) only [zI]);repeat first | intro _ | refine ⟨by omega,?_⟩
       refine hK _ ?_;clear hK K;refine zw (zk [2,6,7,16,21,22,23]) ?_;simp only [go_sem]
       repeat refine zq ?_
       refine zb fun K hK=>?_;simp only [go_sem];(try simp (disch:=omega) only [zI]);repeat first | intro _ | refine ⟨by omega,?_⟩
       refine hK _ ?_;clear hK K
       try simp only [go_sem]
       refine ⟨hci,zj [9] ?_ ?_⟩
       · try simp only [go_sem]
       · try simp only [go_sem]
         rw [htk]
         simp
     · refine zf ?_;simp only [go_sem]
       have hkk : k = x.beds.length:=by omega
       subst hkk
       have e1 : (scoresOf x.beds).take x.beds.length = scoresOf x.beds:=List.take_of_length_le (by simp [scoresOf])
       rw [e1]
       have hvl : (scoresOf x.beds).length = x.beds.length:=by simp [scoresOf]
       refine zw (sub_frz (ty:=3) (sz:=1) (off:=0) (m:=x.beds.length) (es:=(scoresOf x.beds).map fun x=>[i64 x]) 7 32 (by omega) (by try simp only [go_sem]) (by try simp only [go_sem]) (by simp [hvl])) ?_
       have e2 : (((scoresOf x.beds).map fun x=>[i64 x]).drop 0).take x.beds.length = (scoresOf x.beds).map fun x=>[i64 x]:=by
        rw [List.drop_zero,List.take_of_length_le (by simp [hvl])]
       rw [e2]
       try simp only [go_sem]
       repeat refine zq ?_
       refine awp_dreg3 [(2,some 2),(6,some 6),(7,none)] [2,6] follows (by decide +kernel) (by kernel_rfl) (by simp only [keysOk,List.mem_cons,List.not_mem_nil,forall_eq_or_imp,Oc.keyOf,go_sem]; simp) (by intro k hk; simp only [List.mem_cons,List.not_mem_nil,or_false] at hk; first | (subst hk; exact ⟨_,rfl⟩) | (rcases hk with rfl | rfl <;> exact ⟨_,rfl⟩) | (rcases hk with rfl | rfl | rfl <;> exact ⟨_,rfl⟩)) fun K hK=>?_
       simp only [go_sem,hlt];(try simp (disch:=omega) only [zI])
       refine zh (mean_ok x.at_ x.beds d (scoresOf x.beds) hvl (by omega) k4 (by omega) k5 hvals) rfl (by simp only [go_sem,i64,ints,hlt]) (by simp only [go_sem,i64,ints,hlt]) (by first | exact .inl rfl | exact .inr rfl) ?_
       (try simp only [go_sem,hlt]);(try simp (disch:=omega) only [zI]);repeat first | intro _ | refine ⟨by omega,?_⟩
       refine hK _ ?_;clear hK K
       try simp only [go_sem]
       refine zj (F:=fun _=>[]) [6] (by try simp only [go_sem]) ?_
       try simp only [go_sem]
       rw [htx]
       simp [spanOf]
 · intro vs us _
   try simp only [go_sem]
   refine zw (sub_wake rfl) ?_
   repeat refine zq ?_
   refine zb fun K hK=>?_;simp only [go_sem];(try simp (disch:=omega) only [zI]);repeat first | intro _ | refine ⟨by omega,?_⟩
   refine hK _ ?_;clear hK K;refine ze ?_;simp only [go_sem]
   have hel : (enumA d l).length = l.length:=by simp [enumA]
   rw [hel,h0]
   have e1 : (l.map (spanOf d)).take l.length = l.map (spanOf d):=List.take_of_length_le (by simp)
   rw [e1]
   refine ⟨⟨by simp,?_⟩,rfl⟩
   rw [List.take_of_length_le (by simp),spansV,if_pos h0]
end Go.Proofs.Ytlljkgiomkmjbaa.Du.Th

namespace Go.Proofs.Ytlljkgiomkmjbaa.Du
open Go Go.Oc
set_option linter.unusedSimpArgs false
set_option linter.unusedVariables false
set_option maxRecDepth 8000
set_option maxHeartbeats 4000000
def thL : List Am:=[⟨320,[⟨120,4,6⟩,⟨205,0,1⟩,⟨301,1,2⟩,⟨320,2,4⟩]⟩]
theorem wfA_of {l : List Am} (h : (l.all fun a=>decide (0 ≤ a.at_ ∧ a.at_ ≤ 1000) && a.beds.all fun c=>decide ((0 ≤ c.b ∧ c.b ≤ 1000) ∧ (0 ≤ c.lo ∧ c.lo ≤ 1000) ∧ 0 ≤ c.hi ∧ c.hi ≤ 1000)) = true) : ∀ a ∈ l,WfA a:=fun a ha=>by
 have:=List.all_eq_true.1 h a ha
 simp only [Bool.and_eq_true,decide_eq_true_eq,List.all_eq_true] at this
 obtain ⟨h1,h2⟩:=this
 refine ⟨by unfold I64; omega,fun c hc=>?_⟩
 have:=h2 c hc
 unfold I64
 omega
theorem pubThrow_ok : ACalls Try.prog 32 [] (.bo true):=by
 have hw : WfL 10 thL:=⟨by unfold I64; omega,wfA_of (by decide)⟩
 have h:=Th.Score_ok 10 thL hw
 have h0 : checkV 10 thL = 0:=by decide +kernel
 have h1 : Th.spansV 10 thL = [(236,343)]:=by decide +kernel
 rw [h0,h1] at h
 have hs:=fun a b=>span_mk a b
 refine acalls_st (rs:=[.bo true]) [.tmp 0] Try.func32 rfl (by kernel_rfl) Try.ntmps32 rfl (by simp) rfl fun C vs=>?_
 repeat refine zq ?_
 refine zb fun K hK=>?_;simp only [go_sem];(try simp (disch:=omega) only [zI]);repeat first | intro _ | refine ⟨by omega,?_⟩
 refine hK _ ?_;clear hK K;refine zw (zk [0]) ?_;simp only [go_sem]
 repeat refine zq ?_
 refine zb fun K hK=>?_;simp only [go_sem];(try simp (disch:=omega) only [zI])
 refine zh (hs 4 6) rfl (by simp only [go_sem,i64,ints]) (by simp only [go_sem,i64,ints]) (by first | exact .inl rfl | exact .inr rfl) ?_
 (try simp only [go_sem]);(try simp (disch:=omega) only [zI])
 refine zh (hs 0 1) rfl (by simp only [go_sem,i64,ints]) (by simp only [go_sem,i64,ints]) (by first | exact .inl rfl | exact .inr rfl) ?_
 (try simp only [go_sem]);(try simp (disch:=omega) only [zI])
 refine zh (hs 1 2) rfl (by simp only [go_sem,i64,ints]) (by simp only [go_sem,i64,ints]) (by first | exact .inl rfl | exact .inr rfl) ?_
 (try simp only [go_sem]);(try simp (disch:=omega) only [zI])
 refine zh (hs 2 4) rfl (by simp only [go_sem,i64,ints]) (by simp only [go_sem,i64,ints]) (by first | exact .inl rfl | exact .inr rfl) ?_
 (try simp only [go_sem]);(try simp (disch:=omega) only [zI]);repeat first | intro _ | refine ⟨by omega,?_⟩
 refine hK _ ?_;clear hK K;refine zw (sub_frzP 1 1 [i64 10,aimsR thL] (by omega) rfl rfl) ?_;refine zw (zk [0,1]) ?_;simp only [go_sem]
 repeat refine zq ?_
 refine zb fun K hK=>?_;simp only [go_sem];(try simp (disch:=omega) only [zI])
 refine zh (h) rfl (by simp only [go_sem,i64,ints,thL,aimR,bedR]) (by simp only [go_sem,i64,ints,thL,aimR,bedR]) (by first | exact .inl rfl | exact .inr rfl) ?_
 (try simp only [go_sem,thL,aimR,bedR]);(try simp (disch:=omega) only [zI]);repeat first | intro _ | refine ⟨by omega,?_⟩
 refine hK _ ?_;clear hK K;refine zw (zk [0,2,3]) ?_;simp only [go_sem]
 have eqn30 : eqN Try.prog 30 = some 2:=by kernel_rfl
 repeat refine zq ?_
 refine zg follows (by decide +kernel) (by kernel_rfl) fun K hK=>?_;simp only [go_sem,eqn30,beq_self_eq_true];(try simp (disch:=omega) only [zI])
 refine zh (hs 236 343) rfl (by simp only [go_sem,i64,ints,eqn30,beq_self_eq_true]) (by simp only [go_sem,i64,ints,eqn30,beq_self_eq_true]) (by first | exact .inl rfl | exact .inr rfl) ?_
 (try simp only [go_sem,eqn30,beq_self_eq_true]);(try simp (disch:=omega) only [zI]);repeat first | intro _ | refine ⟨by omega,?_⟩
 refine hK _ ?_;clear hK K;refine zw (zk [0]) ?_;simp only [go_sem];refine ze ?_;simp only [go_sem]
 rfl
def duR : Ru:=⟨2,[⟨201,[⟨0,1,1⟩,⟨201,1,1⟩]⟩],2,1,[(0,500000),(1000000,1000000)]⟩
theorem duR_wf : WfR duR:=⟨⟨by unfold duR I64; simp only; omega,wfA_of (by decide)⟩⟩
theorem pubDuel_ok : ACalls Try.prog 15 [] (.bo true):=by
 have h:=table_ok duR duR_wf
 have h0 : ruE duR = 0:=by decide +kernel
 have h1 : tabF duR false = [[0,0,929687],[0,0,875000]]:=by decide +kernel
 have h2 : tabF duR true = [[0,0,984375],[0,0,875000]]:=by decide +kernel
 unfold tabsV at h
 rw [if_pos h0,if_pos h0,h1,h2,h0] at h
 have hs:=fun a b=>span_mk a b
 have ho:=fun a=>one_mk a
 refine acalls_st (rs:=[.bo true]) [.tmp 0] Try.func15 rfl (by kernel_rfl) Try.ntmps15 rfl (by simp) rfl fun C vs=>?_
 repeat refine zq ?_
 refine zb fun K hK=>?_;simp only [go_sem];(try simp (disch:=omega) only [zI]);repeat first | intro _ | refine ⟨by omega,?_⟩
 refine hK _ ?_;clear hK K;refine zw (zk [0]) ?_;simp only [go_sem]
 repeat refine zq ?_
 refine zb fun K hK=>?_;simp only [go_sem];(try simp (disch:=omega) only [zI])
 refine zh (ho 1) rfl (by simp only [go_sem,i64,ints]) (by simp only [go_sem,i64,ints]) (by first | exact .inl rfl | exact .inr rfl) ?_
 (try simp only [go_sem]);(try simp (disch:=omega) only [zI])
 refine zh (ho 1) rfl (by simp only [go_sem,i64,ints]) (by simp only [go_sem,i64,ints]) (by first | exact .inl rfl | exact .inr rfl) ?_
 (try simp only [go_sem]);(try simp (disch:=omega) only [zI]);repeat first | intro _ | refine ⟨by omega,?_⟩
 refine hK _ ?_;clear hK K;refine zw (sub_frzP 1 1 [i64 2,aimsR duR.aims] (by omega) rfl rfl) ?_;refine zw (zk [0,1]) ?_;simp only [go_sem]
 repeat refine zq ?_
 refine zg follows (by decide +kernel) (by kernel_rfl) fun K hK=>?_;simp only [go_sem];(try simp (disch:=omega) only [zI])
 refine zh (hs 0 500000) rfl (by simp only [go_sem,i64,ints]) (by simp only [go_sem,i64,ints]) (by first | exact .inl rfl | exact .inr rfl) ?_
 (try simp only [go_sem]);(try simp (disch:=omega) only [zI])
 refine zh (ho 1000000) rfl (by simp only [go_sem,i64,ints]) (by simp only [go_sem,i64,ints]) (by first | exact .inl rfl | exact .inr rfl) ?_
 (try simp only [go_sem]);(try simp (disch:=omega) only [zI])
 refine zh (h) rfl (by simp only [go_sem,i64,ints,duR,ruV,ruC,aimsR,bedsR,spansR,aimR,bedR,spanR,List.map_cons,List.map_nil]) (by simp only [go_sem,i64,ints,duR,ruV,ruC,aimsR,bedsR,spansR,aimR,bedR,spanR,List.map_cons,List.map_nil]) (by first | exact .inl rfl | exact .inr rfl) ?_
 (try simp only [go_sem,duR,ruV,ruC,aimsR,bedsR,spansR,aimR,bedR,spanR,List.map_cons,List.map_nil]);(try simp (disch:=omega) only [zI]);repeat first | intro _ | refine ⟨by omega,?_⟩
 refine hK _ ?_;clear hK K;refine zw (zk [0,2,3,4]) ?_;simp only [go_sem]
 repeat refine zq ?_
 refine zb fun K hK=>?_;simp only [go_sem];(try simp (disch:=omega) only [zI]);repeat first | intro _ | refine ⟨by omega,?_⟩
 refine hK _ ?_;clear hK K;refine zw (zk [0]) ?_;simp only [go_sem];refine ze ?_;simp only [go_sem]
end Go.Proofs.Ytlljkgiomkmjbaa.Du
