/- Part 10 of the texts of this claim. -/
import Derived.Test.YtgkejinoaommeaaVC9
import Derived.Test.YtgkejinoaommeaaVC8
import Derived.Test.YtgkejinoaommeaaVC6
namespace Go.Proofs.Ytgkejinoaommeaa
open Go Go.Oc
set_option linter.unusedSimpArgs false
set_option linter.unusedVariables false
set_option maxRecDepth 8000
theorem fillS_TI {l : List Bd} {d : Int} : ∀ (I : List Nat) (x : List Int × Int),(∀ i ∈ I,i < l.length) → TI l d x → TI l d (fillS l I x) ∧ ∀ i,i < l.length → x.1.getD i 0 ≤ (fillS l I x).1.getD i 0 ∧ ((fillS l I x).2 = 0 ∨ (i ∈ I → (fillS l I x).1.getD i 0 = (bAt l i).hi))
 | [],x,_,h=>⟨h,fun i hi=>⟨Int.le_refl _,.inr fun h=>by cases h⟩⟩
 | j :: I, x, hI, h => by
   have hj:=hI j (by simp)
   have hl:=h.len
   have hm : moreS l x.1 x.2 j = takeU l j x:=by
    unfold moreS takeU bAt
    rw [List.getD_eq_getElem?_getD,List.getD_eq_getElem?_getD,List.getElem?_eq_getElem hj]; rfl
   have e : (x.1.set j ((x.1[j]?).getD 0 + moreS l x.1 x.2 j),x.2 - moreS l x.1 x.2 j) = giveU j (takeU l j x) x:=by
    rw [hm,← List.getD_eq_getElem?_getD]; rfl
   have ht:=h.take hj
   have hg:=h.give hj ⟨ht,Int.le_refl _⟩
   simp only [fillS]
   rw [e]
   obtain ⟨h1,h2⟩:=fillS_TI I (giveU j (takeU l j x) x) (fun i hi=>hI i (by simp [hi])) hg
   refine ⟨h1,fun i hi=>?_⟩
   obtain ⟨k1,k2⟩:=h2 i hi
   have hgi : (giveU j (takeU l j x) x).1.getD i 0 = if i = j then x.1.getD j 0 + takeU l j x else x.1.getD i 0:=by
    unfold giveU; exact getD_set _ _ _ _ (by omega)
   rw [hgi] at k1
   have h6:=h1.each i hi
   refine ⟨by
    split at k1
    · rename_i e; subst e; omega
    · exact k1,?_⟩
   rcases k2 with k2 | k2
   · exact .inl k2
   · by_cases e : i = j
     · subst e
       rw [if_pos rfl] at k1
       have h3:=h.each i hi
       by_cases c : x.2 ≤ (bAt l i).hi - x.1.getD i 0
       · left
         have h4:=h1.sum
         have h5:=h1.left
         have : (giveU i (takeU l i x) x).2 = 0:=by unfold giveU takeU; simp only; omega
         have hle : ∀ (I : List Nat) (y : List Int × Int),(∀ i ∈ I,i < l.length) → TI l d y → (fillS l I y).2 ≤ y.2:=by
          intro I
          induction I with
          | nil=>intro y _ _; exact Int.le_refl _
          | cons a I ih =>
            intro y hI hy
            have ha:=hI a (by simp)
            have hm : moreS l y.1 y.2 a = takeU l a y:=by
             unfold moreS takeU bAt
             rw [List.getD_eq_getElem?_getD,List.getD_eq_getElem?_getD,List.getElem?_eq_getElem ha]; rfl
            have e : (y.1.set a ((y.1[a]?).getD 0 + moreS l y.1 y.2 a),y.2 - moreS l y.1 y.2 a) = giveU a (takeU l a y) y:=by
             rw [hm,← List.getD_eq_getElem?_getD]; rfl
            have ht:=hy.take ha
            simp only [fillS]
            rw [e]
            have:=ih (giveU a (takeU l a y) y) (fun i hi=>hI i (by simp [hi])) (hy.give ha ⟨ht,Int.le_refl _⟩)
            simp only [giveU] at this ⊢
            omega
         have:=hle I (giveU i (takeU l i x) x) (fun i hi=>hI i (by simp [hi])) hg
         omega
       · right; intro _
         have : takeU l i x = (bAt l i).hi - x.1.getD i 0:=by unfold takeU; omega
         omega
     · right; intro hi'
       rcases List.mem_cons.1 hi' with h | h
       · exact absurd h e
       · exact k2 h
theorem loS_eq (l : List Bd) : loS l = ((List.range l.length).map fun i=>(bAt l i).lo).sum:=by
 conv=>lhs; rw [loS,← range_bAt l,List.map_map]
 rfl
theorem hiS_eq (l : List Bd) : hiS l = ((List.range l.length).map fun i=>(bAt l i).hi).sum:=by
 conv=>lhs; rw [hiS,← range_bAt l,List.map_map]
 rfl
theorem filled_truth {cm : Int → Int → Int} {d : Int} {l : List Bd} {vals : List Int} (h1 : ∀ c ∈ l,c.lo ≤ c.hi) (h : loS l ≤ d) (hh : d ≤ hiS l) : TruthN d l (filledV cm d l vals):=by
 have h0 : TI l d (startF d l):=by
  refine ⟨by simp [startF],fun i hi=>?_,by simp only [startF,loS]; omega,by simp only [startF]; omega⟩
  have:=h1 _ (bAt_mem hi)
  have e : (startF d l).1.getD i 0 = (bAt l i).lo:=by simp [startF,bAt,List.getD,List.getElem?_eq_getElem hi]
  rw [e]; omega
 obtain ⟨hT,hF⟩:=fillS_TI (sortN (keyLt cm vals) (List.range l.length)) (startF d l) (fun i hi=>by rw [mem_sortN,List.mem_range] at hi; exact hi) h0
 have hz : (fillS l (sortN (keyLt cm vals) (List.range l.length)) (startF d l)).2 = 0:=by
  by_cases c : (fillS l (sortN (keyLt cm vals) (List.range l.length)) (startF d l)).2 = 0
  · exact c
  · have hs:=hT.sum
    have hl:=hT.left
    have : (fillS l (sortN (keyLt cm vals) (List.range l.length)) (startF d l)).1.sum = hiS l:=by
     rw [← sum_getD,hT.len,hiS_eq]
     congr 1
     refine List.map_congr_left fun i hi=>?_
     rcases (hF i (List.mem_range.1 hi)).2 with h | h
     · exact absurd h c
     · exact h (by rw [mem_sortN]; exact hi)
    omega
 refine ⟨hT.len,hT.each,?_⟩
 have:=hT.sum
 unfold filledV
 omega
theorem sum_ge1 {f : Nat → Int} {k : Nat} : ∀ {I : List Nat},(∀ i ∈ I,0 ≤ f i) → k ∈ I → f k ≤ (I.map f).sum
 | i :: I, h, hk => by
   have h0 : 0 ≤ (I.map f).sum:=by
    have : ∀ J : List Nat,(∀ i ∈ J,0 ≤ f i) → 0 ≤ (J.map f).sum:=fun J=>by
     induction J with
     | nil=>intro _; simp
     | cons a J ih=>intro h; have:=ih fun i hi=>h i (by simp [hi]); have:=h a (by simp); simp only [List.map_cons,List.sum_cons]; omega
    exact this I fun i hi=>h i (by simp [hi])
   have hi:=h i (by simp)
   simp only [List.map_cons,List.sum_cons]
   rcases List.mem_cons.1 hk with rfl | hk
   · omega
   · have:=sum_ge1 (fun i hi=>h i (by simp [hi])) hk; omega
theorem truth_sum {d : Int} {l : List Bd} {y : List Int} (h : TruthN d l y) : ((List.range l.length).map fun i=>y.getD i 0).sum = d:=by rw [← h.len,sum_getD,h.sum]
theorem truth_le {d : Int} {l : List Bd} {y : List Int} (h : TruthN d l y) : loS l ≤ d ∧ d ≤ hiS l:=by
 have hs:=truth_sum h
 have h0 : ∀ (f g : Nat → Int) (I : List Nat),(∀ i ∈ I,f i ≤ g i) → (I.map f).sum ≤ (I.map g).sum:=fun f g I=>by
  induction I with
  | nil=>intro _; simp
  | cons a I ih=>intro h; have:=ih fun i hi=>h i (by simp [hi]); have:=h a (by simp); simp only [List.map_cons,List.sum_cons]; omega
 constructor
 · rw [loS_eq,← hs]; exact h0 _ _ _ fun i hi=>(h.each i (List.mem_range.1 hi)).1
 · rw [hiS_eq,← hs]; exact h0 _ _ _ fun i hi=>(h.each i (List.mem_range.1 hi)).2
theorem bAt_tight {d : Int} {l : List Bd} {i : Nat} (hi : i < l.length) : bAt (tightL d l) i = tightB d (loS l) (hiS l) (bAt l i):=by
 unfold bAt tightL
 rw [List.getD_eq_getElem?_getD,List.getD_eq_getElem?_getD,List.getElem?_map,List.getElem?_eq_getElem hi]; rfl
theorem tight_len (d : Int) (l : List Bd) : (tightL d l).length = l.length:=by simp [tightL]
theorem truth_tight {d : Int} {l : List Bd} {y : List Int} (h : TruthN d l y) : TruthN d (tightL d l) y:=by
 have hs:=truth_sum h
 refine ⟨by rw [tight_len]; exact h.len,fun i hi=>?_,h.sum⟩
 rw [tight_len] at hi
 rw [bAt_tight hi]
 have he:=h.each i hi
 have h1:=sum_ge1 (f:=fun i=>(bAt l i).hi - y.getD i 0) (k:=i) (I:=List.range l.length) (fun i hi=>by have:=h.each i (List.mem_range.1 hi); omega) (List.mem_range.2 hi)
 have h2:=sum_ge1 (f:=fun i=>y.getD i 0 - (bAt l i).lo) (k:=i) (I:=List.range l.length) (fun i hi=>by have:=h.each i (List.mem_range.1 hi); omega) (List.mem_range.2 hi)
 rw [sum_subL,hs,← hiS_eq] at h1
 rw [sum_subL,hs,← loS_eq] at h2
 simp only [tightB]
 omega
theorem sum_set_map {c : Bd} (f : Bd → Int) : ∀ {l : List Bd} {k : Nat},k < l.length → ((l.set k c).map f).sum = (l.map f).sum - f (bAt l k) + f c
 | x :: l,0,_=>by simp [bAt]; omega
 | x :: l, k + 1, h => by
   have:=sum_set_map (c:=c) f (l:=l) (k:=k) (by simpa using h)
   simp only [List.set_cons_succ,List.map_cons,List.sum_cons,this]
   simp only [bAt,List.getD_cons_succ]
   omega
theorem truth_with {d : Int} {l : List Bd} (h1 : ∀ c ∈ l,c.lo ≤ c.hi) {k : Nat} (hk : k < l.length) {v : Int} (hv : (bAt l k).lo ≤ v ∧ v ≤ (bAt l k).hi) (hv' : d - (hiS l - (bAt l k).hi) ≤ v ∧ v ≤ d - (loS l - (bAt l k).lo)) : ∃ y,TruthN d l y ∧ y.getD k 0 = v:=by
 have hlo : loS (l.set k ⟨0,v,v⟩) = loS l - (bAt l k).lo + v:=sum_set_map (l:=l) (k:=k) (·.lo) hk
 have hhi : hiS (l.set k ⟨0,v,v⟩) = hiS l - (bAt l k).hi + v:=sum_set_map (l:=l) (k:=k) (·.hi) hk
 have hT:=filled_truth (cm:=cmpI) (vals:=[]) (d:=d) (l:=l.set k ⟨0,v,v⟩) (fun c hc=>by
  rcases List.mem_or_eq_of_mem_set hc with h | rfl
  · exact h1 c h
  · exact Int.le_refl _) (by omega) (by omega)
 have hb : ∀ i,i < l.length → bAt (l.set k ⟨0,v,v⟩) i = if i = k then ⟨0,v,v⟩ else bAt l i:=fun i hi=>by
  unfold bAt
  rw [List.getD_eq_getElem?_getD,List.getD_eq_getElem?_getD,List.getElem?_set]
  by_cases e : k = i
  · subst e; simp [hk]
  · rw [if_neg e,if_neg (fun h=>e h.symm)]
 have hl:=hT.len
 have he:=hT.each
 have hs:=hT.sum
 generalize filledV cmpI d (l.set k ⟨0,v,v⟩) [] = y at *
 rw [List.length_set] at hl he
 refine ⟨y,⟨hl,fun i hi=>?_,hs⟩,?_⟩
 · have:=he i hi
   rw [hb i hi] at this
   split at this
   · rename_i e; subst e; simp only at this; omega
   · exact this
 · have:=he k hk
   rw [hb k hk,if_pos rfl] at this
   simp only at this; omega
theorem tight_ends {d : Int} {l : List Bd} (h1 : ∀ c ∈ l,c.lo ≤ c.hi) (h : loS l ≤ d) (hh : d ≤ hiS l) {k : Nat} (hk : k < l.length) :
 (bAt (tightL d l) k).lo ≤ (bAt (tightL d l) k).hi ∧ (∃ y,TruthN d l y ∧ y.getD k 0 = (bAt (tightL d l) k).lo) ∧ ∃ y,TruthN d l y ∧ y.getD k 0 = (bAt (tightL d l) k).hi:=by
 rw [bAt_tight hk]
 have hc:=h1 _ (bAt_mem hk)
 have h2:=sum_ge1 (f:=fun i=>(bAt l i).hi - (bAt l i).lo) (k:=k) (I:=List.range l.length) (fun i hi=>by have:=h1 _ (bAt_mem (List.mem_range.1 hi)); omega) (List.mem_range.2 hk)
 rw [sum_subL,← hiS_eq,← loS_eq] at h2
 simp only [tightB]
 refine ⟨by omega,truth_with h1 hk (by omega) (by omega),truth_with h1 hk (by omega) (by omega)⟩
def oneV (n k : Nat) : List Int:=(List.replicate n 0).set k 1
theorem mem_bAt {l : List Bd} {c : Bd} (hc : c ∈ l) : ∃ k,k < l.length ∧ bAt l k = c:=by
 obtain ⟨k,hk⟩:=List.getElem?_of_mem hc
 exact ⟨k,(List.getElem?_eq_some_iff.1 hk).1,by unfold bAt; rw [List.getD_eq_getElem?_getD,hk]; rfl⟩
theorem check_made {d : Int} {l : List Am} (hd : 1 ≤ d ∧ d ≤ 3000) (hl : 1 ≤ l.length ∧ l.length ≤ 20) (h : ∀ a ∈ l,MadeI d a) : checkV d l = 0 ∧ WfL d l:=by
 constructor
 · unfold checkV
   have c1 : (decide (20 < l.length) || l.any fun a=>decide (10 < a.beds.length)) = false:=by
    rw [Bool.or_eq_false_iff,List.any_eq_false]
    exact ⟨decide_eq_false (by omega),fun a ha=>by have:=(h a ha).len; rw [decide_eq_true_eq]; omega⟩
   have c2 : l.isEmpty = false:=by
    cases l with
    | nil=>simp at hl
    | cons=>rfl
   have c3 : l.all (aimOk d) = true:=List.all_eq_true.2 fun a ha=>(h a ha).ok
   rw [c1,c2,c3]
   simp [hd.1,hd.2]
 · exact ⟨by unfold I64; omega,fun a ha=>(h a ha).wf⟩
end Go.Proofs.Ytgkejinoaommeaa

namespace Go.Proofs.Ytgkejinoaommeaa
open Go Go.Oc
set_option linter.unusedSimpArgs false
set_option linter.unusedVariables false
set_option maxRecDepth 8000
theorem mem_bestL {q : Int × Int → Nat → (Int × Int) × Nat → Bool} {s : List (Int × Int)} {v : Int} : v ∈ bestL q s ↔ ∃ (i : Nat) (x : Int × Int),v = i ∧ s[i]? = some x ∧ ∀ (t : Nat) (y : Int × Int),s[t]? = some y → q x i (y,t) = true:=by
 unfold bestL
 simp only [List.mem_map,List.mem_filter,List.all_eq_true]
 constructor
 · rintro ⟨⟨x,i⟩,⟨h1,h2⟩,rfl⟩
   refine ⟨i,x,rfl,List.mem_zipIdx_iff_getElem?.1 h1,fun t y hy=>h2 (y,t) (List.mem_zipIdx_iff_getElem?.2 hy)⟩
 · rintro ⟨i,x,rfl,h1,h2⟩
   refine ⟨(x,i),⟨List.mem_zipIdx_iff_getElem?.2 h1,fun p hp=>?_⟩,rfl⟩
   obtain ⟨y,t⟩:=p
   exact h2 t y (List.mem_zipIdx_iff_getElem?.1 hp)
end Go.Proofs.Ytgkejinoaommeaa

namespace Go.Proofs.Ytgkejinoaommeaa
open Go Go.Oc
set_option linter.unusedSimpArgs false
set_option linter.unusedVariables false
set_option maxRecDepth 8000
def narB (y b1 b2 : Int) (c : Bd) : Bd:=⟨c.b,y - (y - c.lo) * b1 / 255,y + (c.hi - y) * b2 / 255⟩
def narL (y bs : List Int) (l : List Bd) : List Bd:=(List.range l.length).map fun k=>narB (y.getD k 0) (byteL bs k) (byteL bs (k + 1)) (bAt l k)
theorem nar_len (y bs : List Int) (l : List Bd) : (narL y bs l).length = l.length:=by simp [narL]
theorem bAt_nar {y bs : List Int} {l : List Bd} {k : Nat} (hk : k < l.length) : bAt (narL y bs l) k = narB (y.getD k 0) (byteL bs k) (byteL bs (k + 1)) (bAt l k):=by
 unfold bAt narL
 rw [List.getD_eq_getElem?_getD,List.getElem?_map,List.getElem?_range hk]; rfl
theorem scale_le {x b : Int} (hx : 0 ≤ x) (hb : 0 ≤ b ∧ b ≤ 255) : 0 ≤ x * b / 255 ∧ x * b / 255 ≤ x:=by
 have h1 : 0 ≤ x * b:=Int.mul_nonneg hx hb.1
 have h2 : x * b ≤ x * 255:=Int.mul_le_mul_of_nonneg_left hb.2 hx
 omega
theorem nar_each {D : Int} {y bs : List Int} {l : List Bd} (hb : ∀ n ∈ bs,0 ≤ n ∧ n ≤ 255) (hy : TruthN D l y) {k : Nat} (hk : k < l.length) :
 (bAt l k).lo ≤ (bAt (narL y bs l) k).lo ∧ (bAt (narL y bs l) k).lo ≤ y.getD k 0 ∧ y.getD k 0 ≤ (bAt (narL y bs l) k).hi ∧ (bAt (narL y bs l) k).hi ≤ (bAt l k).hi:=by
 have h:=hy.each k hk
 rw [bAt_nar hk]
 have s1:=scale_le (x:=y.getD k 0 - (bAt l k).lo) (by omega) (byteL_le hb k)
 have s2:=scale_le (x:=(bAt l k).hi - y.getD k 0) (by omega) (byteL_le hb (k + 1))
 simp only [narB]
 omega
theorem nar_truth {D : Int} {y bs : List Int} {l : List Bd} (hb : ∀ n ∈ bs,0 ≤ n ∧ n ≤ 255) (hy : TruthN D l y) : TruthN D (narL y bs l) y :=
 ⟨by rw [hy.len,nar_len],fun i hi=>by rw [nar_len] at hi; have:=nar_each hb hy hi; omega,hy.sum⟩
theorem nar_sub {D : Int} {y bs z : List Int} {l : List Bd} (hb : ∀ n ∈ bs,0 ≤ n ∧ n ≤ 255) (hy : TruthN D l y) (hz : TruthN D (narL y bs l) z) : TruthN D l z :=
 ⟨by rw [hz.len,nar_len],fun i hi=>by have:=nar_each hb hy hi; have:=hz.each i (by rw [nar_len]; exact hi); omega,hz.sum⟩
theorem nar_b (y bs : List Int) (l : List Bd) : (narL y bs l).map (·.b) = l.map (·.b):=by
 conv=>rhs; rw [← range_bAt l]
 simp [narL,narB,Function.comp_def]
theorem nar_made {d : Int} (hd : 1 ≤ d ∧ d ≤ 3000) {a : Am} {y bs : List Int} (hb : ∀ n ∈ bs,0 ≤ n ∧ n ≤ 255) (h : MadeI d a) (hy : TruthN d a.beds y) : MadeI d ⟨a.at_,narL y bs a.beds⟩:=by
 have hok:=h.ok
 have hwf:=h.wf
 have hlen:=h.len
 simp only [aimOk,chOk,Bool.and_eq_true,decide_eq_true_eq,List.all_eq_true] at hok
 obtain ⟨⟨⟨⟨⟨o1,o2⟩,o3⟩,o4⟩,o5⟩,o6⟩:=hok
 obtain ⟨t1,t2⟩:=truth_le (nar_truth hb hy)
 have hbm:=nar_b y bs a.beds
 have hch : chOk d (narL y bs a.beds) = true:=by
  simp only [chOk,Bool.and_eq_true,decide_eq_true_eq,List.all_eq_true]
  intro c hc
  obtain ⟨k,hk,rfl⟩:=mem_bAt hc
  rw [nar_len] at hk
  have e:=nar_each (bs:=bs) hb hy hk
  have g:=o4 _ (bAt_mem hk)
  omega
 have hne : (narL y bs a.beds).isEmpty = false:=by
  cases hq : narL y bs a.beds with
  | nil=>have:=nar_len y bs a.beds; rw [hq] at this; simp at this; omega
  | cons=>rfl
 refine ⟨?_,⟨hwf.1,fun c hc=>?_⟩,?_⟩
 · simp only [aimOk,seqOk_map hbm,o3,o1,hch,hne,Bool.not_false,Bool.and_true,Bool.true_and,Bool.and_eq_true,decide_eq_true_eq]
   exact ⟨t1,t2⟩
 · simp only at hc
   have g:=List.all_eq_true.1 hch c hc
   simp only [Bool.and_eq_true,decide_eq_true_eq] at g
   obtain ⟨k,hk,rfl⟩:=mem_bAt hc
   rw [nar_len] at hk
   have:=hwf.2 _ (bAt_mem hk)
   rw [bAt_nar hk] at g ⊢
   refine ⟨this.1,?_,?_⟩ <;> unfold I64 <;> simp only [narB] at g ⊢ <;> omega
 · simp only [nar_len]; exact hlen
theorem made_facts {d : Int} {a : Am} (h : MadeI d a) : (∀ c ∈ a.beds,c.lo ≤ c.hi) ∧ loS a.beds ≤ d ∧ d ≤ hiS a.beds:=by
 have hok:=h.ok
 simp only [aimOk,chOk,Bool.and_eq_true,decide_eq_true_eq,List.all_eq_true] at hok
 obtain ⟨⟨⟨⟨⟨o1,o2⟩,o3⟩,o4⟩,o5⟩,o6⟩:=hok
 exact ⟨fun c hc=>(o4 c hc).1.2,o5,o6⟩
theorem nar_tight {d : Int} (hd : 1 ≤ d ∧ d ≤ 3000) {a : Am} {y bs : List Int} (hb : ∀ n ∈ bs,0 ≤ n ∧ n ≤ 255) (h : MadeI d a) (hy : TruthN d a.beds y) {k : Nat} (hk : k < a.beds.length) :
 (bAt (tightL d a.beds) k).lo ≤ (bAt (tightL d (narL y bs a.beds)) k).lo ∧ (bAt (tightL d (narL y bs a.beds)) k).hi ≤ (bAt (tightL d a.beds) k).hi ∧ (bAt (tightL d (narL y bs a.beds)) k).lo ≤ (bAt (tightL d (narL y bs a.beds)) k).hi:=by
 obtain ⟨g1,g2,g3⟩:=made_facts (nar_made hd hb h hy)
 obtain ⟨e1,⟨u,hu,hu2⟩,v,hv,hv2⟩:=tight_ends (d:=d) (l:=narL y bs a.beds) g1 g2 g3 (k:=k) (by rw [nar_len]; exact hk)
 have hkt : k < (tightL d a.beds).length:=by rw [tight_len]; exact hk
 have a1:=(truth_tight (nar_sub hb hy hu)).each k hkt
 have a2:=(truth_tight (nar_sub hb hy hv)).each k hkt
 omega
theorem nar_scores (y bs : List Int) (l : List Bd) : scoresOf (narL y bs l) = scoresOf l:=by
 have h : ∀ m : List Bd,scoresOf m = (m.map (·.b)).map scoreOf:=fun m=>by simp [scoresOf]
 rw [h,h,nar_b]
theorem nar_span {d : Int} (hd : 1 ≤ d ∧ d ≤ 3000) {a : Am} {y bs : List Int} (hb : ∀ n ∈ bs,0 ≤ n ∧ n ≤ 255) (h : MadeI d a) (hy : TruthN d a.beds y) :
 (spanOf d a).1 ≤ (spanOf d ⟨a.at_,narL y bs a.beds⟩).1 ∧ (spanOf d ⟨a.at_,narL y bs a.beds⟩).2 ≤ (spanOf d a).2 ∧ (spanOf d a).1 ≤ (spanOf d a).2:=by
 obtain ⟨g1,g2,g3⟩:=made_facts (nar_made hd hb h hy)
 have hsl : (scoresOf a.beds).length = a.beds.length:=by simp [scoresOf]
 simp only [spanOf,nar_scores]
 have f1:=filled_bound hsl (nar_sub hb hy (filled_truth (cm:=cmpI) (vals:=scoresOf a.beds) g1 g2 g3))
 have f2:=filled_bound hsl (nar_sub hb hy (filled_truth (cm:=fun x y=>cmpI y x) (vals:=scoresOf a.beds) g1 g2 g3))
 have f3:=filled_bound hsl hy
 unfold meanLo meanHi at *
 omega
theorem best_nar {s t : List (Int × Int)} (hl : s.length = t.length) (h : ∀ (i : Nat) (x y : Int × Int),s[i]? = some x → t[i]? = some y → x.1 ≤ y.1 ∧ y.2 ≤ x.2) : (∀ v ∈ bestL isP s,v ∈ bestL isP t) ∧ ∀ v ∈ bestL mayP t,v ∈ bestL mayP s:=by
 constructor
 · intro v hv
   obtain ⟨i,x,rfl,hx,hq⟩:=mem_bestL.1 hv
   obtain ⟨x',hx'⟩:=opt_of_lt (show i < t.length by rw [← hl]; exact (List.getElem?_eq_some_iff.1 hx).1)
   refine mem_bestL.2 ⟨i,x',rfl,hx',fun k z hz=>?_⟩
   obtain ⟨z',hz'⟩:=opt_of_lt (show k < s.length by rw [hl]; exact (List.getElem?_eq_some_iff.1 hz).1)
   have q:=hq k z' hz'
   have a1:=h i x x' hx hx'
   have a2:=h k z' z hz' hz
   unfold isP at q ⊢
   simp only [Bool.or_eq_true,decide_eq_true_eq] at q ⊢
   omega
 · intro v hv
   obtain ⟨i,x,rfl,hx,hq⟩:=mem_bestL.1 hv
   obtain ⟨x',hx'⟩:=opt_of_lt (show i < s.length by rw [hl]; exact (List.getElem?_eq_some_iff.1 hx).1)
   refine mem_bestL.2 ⟨i,x',rfl,hx',fun k z hz=>?_⟩
   obtain ⟨z',hz'⟩:=opt_of_lt (show k < t.length by rw [← hl]; exact (List.getElem?_eq_some_iff.1 hz).1)
   have q:=hq k z' hz'
   have a1:=h i x' x hx' hx
   have a2:=h k z z' hz hz'
   unfold mayP at q ⊢
   simp only [Bool.or_eq_true,decide_eq_true_eq] at q ⊢
   omega
theorem best_sub {s : List (Int × Int)} (h : ∀ x ∈ s,x.1 ≤ x.2) : ∀ v ∈ bestL isP s,v ∈ bestL mayP s:=fun v hv=>by
 obtain ⟨i,x,rfl,hx,hq⟩:=mem_bestL.1 hv
 refine mem_bestL.2 ⟨i,x,rfl,hx,fun k z hz=>?_⟩
 have q:=hq k z hz
 have a1:=h x (mem_of_opt hx)
 have a2:=h z (mem_of_opt hz)
 unfold isP at q
 unfold mayP
 simp only [Bool.or_eq_true,decide_eq_true_eq] at q ⊢
 omega
theorem zipIdx_pw {α : Type} : ∀ (s : List α) (n : Nat),(s.zipIdx n).Pairwise fun x y=>x.2 < y.2
 | [],_=>by simp
 | x :: s, n => by
   rw [List.zipIdx_cons]
   refine List.pairwise_cons.2 ⟨fun y hy=>?_,zipIdx_pw s (n + 1)⟩
   have:=List.le_snd_of_mem_zipIdx hy
   simp only; omega
theorem best_pw (q : Int × Int → Nat → (Int × Int) × Nat → Bool) (s : List (Int × Int)) : (bestL q s).Pairwise (· < ·):=by
 unfold bestL
 rw [List.pairwise_map]
 refine List.Pairwise.imp (fun h=>?_) ((zipIdx_pw s 0).filter _)
 simp only [Int.ofNat_lt]; exact h
theorem best_len (q : Int × Int → Nat → (Int × Int) × Nat → Bool) (s : List (Int × Int)) : (bestL q s).length ≤ s.length:=by
 unfold bestL
 rw [List.length_map]
 refine Nat.le_trans (List.length_filter_le _ _) (by simp)
theorem asc_at {a b : List Int} (hb : b.Pairwise (· < ·)) (hs : ∀ v ∈ a,v ∈ b) {i k : Nat} {x : Int} (hx : a[i]? = some x) (hk : ∀ (j : Nat) (z : Int),b[j]? = some z → j < k → z < x) :
 ∃ z,b[k]? = some z ∧ (z < x ∨ z = x):=by
 obtain ⟨p,hp⟩:=List.getElem?_of_mem (hs x (mem_of_opt hx))
 have hpk : k ≤ p:=by
  by_cases h : p < k
  · have:=hk p x hp h; omega
  · omega
 have hpl:=(List.getElem?_eq_some_iff.1 hp).1
 obtain ⟨z,hz⟩:=opt_of_lt (show k < b.length by omega)
 refine ⟨z,hz,?_⟩
 by_cases h : k = p
 · subst h; rw [hp] at hz; injection hz with hz; exact .inr hz.symm
 · left
   have hzl:=(List.getElem?_eq_some_iff.1 hz)
   obtain ⟨h1,h2⟩:=hzl
   obtain ⟨h3,h4⟩:=List.getElem?_eq_some_iff.1 hp
   rw [← h2,← h4]
   exact List.pairwise_iff_getElem.1 hb k p h1 h3 (by omega)
theorem asc_lt {a : List Int} (ha : a.Pairwise (· < ·)) {i j : Nat} {x y : Int} (hx : a[i]? = some x) (hy : a[j]? = some y) (h : i < j) : x < y:=by
 obtain ⟨h1,h2⟩:=List.getElem?_eq_some_iff.1 hx
 obtain ⟨h3,h4⟩:=List.getElem?_eq_some_iff.1 hy
 rw [← h2,← h4]
 exact List.pairwise_iff_getElem.1 ha i j h1 h3 h
theorem isWithin_ok (a b : List Int) (ha : a.Pairwise (· < ·)) (hb : b.Pairwise (· < ·)) (hs : ∀ v ∈ a,v ∈ b) (hal : a.length ≤ 1000) (hbl : b.length ≤ 1000) : ACalls Try.prog 34 [ints a,ints b] (.bo true):=by
 refine acalls_st (rs:=[.bo true]) [.tmp 4] Try.func34 rfl (by kernel_rfl) Try.ntmps34 rfl (by simp) rfl fun C vs=>?_
 repeat refine zq ?_
 refine zb (by kernel_rfl) fun K hK=>?_
 simp only [go_sem]
 (try simp (disch:=omega) only [zI])
 repeat first | intro _ | refine ⟨by omega,?_⟩ | refine ⟨⟨by omega,by omega⟩,?_⟩
 refine hK _ ?_
 clear hK K
 refine zw (zk [0,1]) ?_
 simp only [go_sem]
 repeat refine zq ?_
 refine zb (by kernel_rfl) fun K hK=>?_
 simp only [go_sem]
 (try simp (disch:=omega) only [zI])
 repeat first | intro _ | refine ⟨by omega,?_⟩ | refine ⟨⟨by omega,by omega⟩,?_⟩
 refine hK _ ?_
 clear hK K
 refine zw (zk [0,1,5]) ?_
 simp only [go_sem]
 repeat refine zq ?_
 refine zb (by kernel_rfl) fun K hK=>?_
 simp only [go_sem]
 (try simp (disch:=omega) only [zI])
 repeat first | intro _ | refine ⟨by omega,?_⟩ | refine ⟨⟨by omega,by omega⟩,?_⟩
 refine hK _ ?_
 clear hK K
 refine zw (zk [0,1,5,6]) ?_
 simp only [go_sem]
 repeat refine zq ?_
 refine zd ?_
 refine awp_while (n:=61) (fun (ik : Nat × Nat) _=>[(0,.r (ints a)),(1,.r (ints b)),(5,.r (i64 (ik.2 : Int))),(6,.r (i64 (ik.1 : Int)))])
  (fun _=>[]) (fun ik=>ik.1 ≤ a.length ∧ ik.2 ≤ b.length ∧ ∀ (j : Nat) (z x : Int),b[j]? = some z → j < ik.2 → a[ik.1]? = some x → z < x) (fun ik=>a.length - ik.1) (0,0) (fit_of [] ?_ ?_) ⟨Nat.zero_le _,Nat.zero_le _,fun j z x _ h=>by cases h⟩ ?_
 · try simp only [go_sem]
 · try simp only [go_sem]
 · rintro ⟨i,k0⟩ vs ⟨hi,hk0,hinv⟩
   simp only at hi hk0 hinv ⊢
   repeat refine zq ?_
   refine zb (by kernel_rfl) fun K hK=>?_
   simp only [go_sem]
   (try simp (disch:=omega) only [zI])
   repeat first | intro _ | refine ⟨by omega,?_⟩ | refine ⟨⟨by omega,by omega⟩,?_⟩
   refine hK _ ?_
   clear hK K
   refine zw (zk [0,1,5,6,10]) ?_
   simp only [go_sem]
   repeat refine zq ?_
   refine zc rfl (fun hc=>?_) (fun hc=>?_) <;> (try simp only [go_sem] at hc)
   · have hci : i < a.length:=by omega
     obtain ⟨x,hx⟩:=opt_of_lt hci
     refine zx ?_
     try simp only [go_sem]
     repeat refine zq ?_
     refine zd ?_
     repeat refine zq ?_
     refine zd ?_
     refine awp_while (n:=61) (fun (k : Nat) _=>[(0,.r (ints a)),(1,.r (ints b)),(5,.r (i64 (k : Int))),(6,.r (i64 (i : Int)))])
      (fun _=>[]) (fun k=>k ≤ b.length ∧ ∀ (j : Nat) (z : Int),b[j]? = some z → j < k → z < x) (fun k=>b.length - k) k0 (fit_of [] ?_ ?_) ⟨hk0,fun j z h1 h2=>hinv j z x h1 h2 hx⟩ ?_
     · try simp only [go_sem]
     · try simp only [go_sem]
     · rintro k vs' ⟨hk,hkv⟩
       obtain ⟨z,hz,hzx⟩:=asc_at hb hs hx hkv
       have hkl:=(List.getElem?_eq_some_iff.1 hz).1
       have e1 : decide ((k : Int) < (b.length : Int)) = true:=by simpa using hkl
       have e1' : decide (k < b.length) = true:=by simpa using hkl
       by_cases hlt : z < x
       · have e2 : decide (z < x) = true:=by simpa using hlt
         repeat refine zq ?_
         refine zg follows (by decide +kernel) (by kernel_rfl) fun K hK=>?_
         simp only [go_sem,e1,e1',hz,hx,hkl,hci,e2]
         (try simp (disch:=omega) only [zI])
         repeat first | intro _ | refine ⟨by omega,?_⟩ | refine ⟨⟨by omega,by omega⟩,?_⟩
         refine hK _ ?_
         clear hK K
         refine zw (zk [0,1,5,6,27]) ?_
         simp only [go_sem]
         repeat refine zq ?_
         refine zc rfl (fun hc=>?_) (fun hc=>?_) <;> (try simp only [go_sem] at hc)
         refine zx ?_
         try simp only [go_sem]
         repeat refine zq ?_
         refine zd ?_
         repeat refine zq ?_
         refine zb (by kernel_rfl) fun K hK=>?_
         simp only [go_sem]
         (try simp (disch:=omega) only [zI])
         repeat first | intro _ | refine ⟨by omega,?_⟩ | refine ⟨⟨by omega,by omega⟩,?_⟩
         refine hK _ ?_
         clear hK K
         try simp only [go_sem]
         refine ⟨k + 1,⟨by omega,fun j w hj hjk=>?_⟩,by omega,fit_of [] ?_ ?_⟩
         · by_cases e : j = k
           · subst e; rw [hz] at hj; injection hj with hj; omega
           · exact hkv j w hj (by omega)
         · try simp only [go_sem]
         · try simp only [go_sem]
       · have hzx' : z = x:=by omega
         subst hzx'
         have e2 : decide (z < z) = false:=by simp
         repeat refine zq ?_
         refine zg follows (by decide +kernel) (by kernel_rfl) fun K hK=>?_
         simp only [go_sem,e1,e1',hz,hx,hkl,hci,e2]
         (try simp (disch:=omega) only [zI])
         repeat first | intro _ | refine ⟨by omega,?_⟩ | refine ⟨⟨by omega,by omega⟩,?_⟩
         refine hK _ ?_
         clear hK K
         refine zw (zk [0,1,5,6,27]) ?_
         simp only [go_sem]
         repeat refine zq ?_
         refine zc rfl (fun hc=>?_) (fun hc=>?_) <;> (try simp only [go_sem] at hc)
         refine zf ?_
         simp only [go_sem]
         refine zw (zk [0,1,5,6]) ?_
         simp only [go_sem]
         have e3 : ((k : Int) == (b.length : Int)) = false:=by simp; omega
         have e3' : (k == b.length) = false:=by simp; omega
         by_cases hi0 : i = 0
         · subst hi0
           repeat refine zq ?_
           refine zg follows (by decide +kernel) (by kernel_rfl) fun K hK=>?_
           simp only [go_sem,e3,e3',hz,hx,hkl,hci,bne_self_eq_false]
           (try simp (disch:=omega) only [zI])
           repeat first | intro _ | refine ⟨by omega,?_⟩ | refine ⟨⟨by omega,by omega⟩,?_⟩
           refine hK _ ?_
           clear hK K
           refine zw (zk [0,1,5,6,60]) ?_
           simp only [go_sem]
           repeat refine zq ?_
           refine zc rfl (fun hc=>?_) (fun hc=>?_) <;> (try simp only [go_sem] at hc)
           refine zx ?_
           try simp only [go_sem]
           repeat refine zq ?_
           refine zb (by kernel_rfl) fun K hK=>?_
           simp only [go_sem]
           (try simp (disch:=omega) only [zI])
           repeat first | intro _ | refine ⟨by omega,?_⟩ | refine ⟨⟨by omega,by omega⟩,?_⟩
           refine hK _ ?_
           clear hK K
           try simp only [go_sem]
           refine ⟨(1,k),⟨by simp only; omega,hk,fun j w x' hj hjk hx'=>?_⟩,by simp only; omega,fit_of [] ?_ ?_⟩
           · have:=asc_lt ha hx hx' (by simp only; omega)
             have:=hkv j w hj hjk
             omega
           · try simp only [go_sem]
           · try simp only [go_sem]
         · obtain ⟨y,hy⟩:=opt_of_lt (show i - 1 < a.length by omega)
           have hyx:=asc_lt ha hy hx (by omega)
           have e4 : decide ((i : Int) > 0) = true:=by simp; omega
           have e4' : decide ((0 : Int) < i) = true:=by simp; omega
           have e5 : ((i : Int) - 1).toNat = i - 1:=by omega
           have e6 : decide (z ≤ y) = false:=by simp; omega
           repeat refine zq ?_
           refine zg follows (by decide +kernel) (by kernel_rfl) fun K hK=>?_
           simp only [go_sem,e3,e3',hz,hx,hkl,hci,bne_self_eq_false,e4,e4',e5,hy,e6]
           (try simp (disch:=omega) only [zI])
           repeat first | intro _ | refine ⟨by omega,?_⟩
           try simp only [go_sem,e5,hy,e6,List.length_cons,List.length_nil]
           repeat first | intro _ | refine ⟨by omega,?_⟩ | refine ⟨⟨by omega,by omega⟩,?_⟩
           refine hK _ ?_
           clear hK K
           refine zw (zk [0,1,5,6,60]) ?_
           simp only [go_sem]
           repeat refine zq ?_
           refine zc rfl (fun hc=>?_) (fun hc=>?_) <;> (try simp only [go_sem] at hc)
           refine zx ?_
           try simp only [go_sem]
           repeat refine zq ?_
           refine zb (by kernel_rfl) fun K hK=>?_
           simp only [go_sem]
           (try simp (disch:=omega) only [zI])
           repeat first | intro _ | refine ⟨by omega,?_⟩ | refine ⟨⟨by omega,by omega⟩,?_⟩
           refine hK _ ?_
           clear hK K
           try simp only [go_sem]
           refine ⟨(i + 1,k),⟨by simp only; omega,hk,fun j w x' hj hjk hx'=>?_⟩,by simp only; omega,fit_of [] ?_ ?_⟩
           · have:=asc_lt ha hx hx' (by simp only; omega)
             have:=hkv j w hj hjk
             omega
           · try simp only [go_sem]
           · try simp only [go_sem]
   · refine zf ?_
     simp only [go_sem]
     repeat refine zq ?_
     refine zb (by kernel_rfl) fun K hK=>?_
     simp only [go_sem]
     (try simp (disch:=omega) only [zI])
     repeat first | intro _ | refine ⟨by omega,?_⟩ | refine ⟨⟨by omega,by omega⟩,?_⟩
     refine hK _ ?_
     clear hK K
     refine zw (zk [4]) ?_
     simp only [go_sem]
     refine ze ?_
     simp only [go_sem]
end Go.Proofs.Ytgkejinoaommeaa

namespace Go.Proofs.Ytgkejinoaommeaa
open Go Go.Oc
set_option linter.unusedSimpArgs false
set_option linter.unusedVariables false
set_option maxRecDepth 8000
set_option maxHeartbeats 2000000
theorem TI.le {l : List Bd} {den : Int} {x : List Int × Int} (h : TI l den x) (h0 : ∀ c ∈ l,0 ≤ c.lo) : x.2 ≤ den:=by
 have hs:=h.sum
 have hn : ∀ {M : List Int},(∀ v ∈ M,0 ≤ v) → 0 ≤ M.sum:=fun {M}=>by
  induction M with
  | nil=>intro _; simp
  | cons y M ih =>
    intro hM
    have:=ih fun v hv=>hM v (by simp [hv])
    have:=hM y (by simp)
    simp only [List.sum_cons]; omega
 have : 0 ≤ x.1.sum:=hn fun v hv=>by
  obtain ⟨i,hi⟩:=List.getElem?_of_mem hv
  have hil:=(List.getElem?_eq_some_iff.1 hi).1
  have h1:=(h.each i (by rw [← h.len]; exact hil)).1
  rw [List.getD_eq_getElem?_getD,hi] at h1
  have h2:=h0 _ (bAt_mem (show i < l.length by rw [← h.len]; exact hil))
  simp only [Option.getD_some] at *
  omega
 omega
theorem truthU_ok (a : Am) (den : Int) (bs : List Int) (hb : ∀ n ∈ bs,0 ≤ n ∧ n ≤ 255) (h : loS a.beds ≤ den) (hd : den ≤ 3000) (hl : 1 ≤ a.beds.length ∧ a.beds.length ≤ 19) (h1 : ∀ c ∈ a.beds,0 ≤ c.lo ∧ c.lo ≤ c.hi ∧ c.hi ≤ 3000) (hh : den ≤ hiS a.beds) :
 ACalls Try.prog 32 [.ag [i64 a.at_,bedsR a.beds],i64 den,u8s bs] (ints (truthU a.beds den bs)):=by
 have hT:=TI.it (bs:=bs) hb hl.1 h (fun c hc=>(h1 c hc).2.1)
 have hdone:=itU_done (bs:=bs) hb hl.1 h (fun c hc=>(h1 c hc).2.1) hh
 obtain ⟨L,hL⟩ : ∃ L,L = a.beds:=⟨_,rfl⟩
 rw [← hL] at h hl h1 hT hdone hh ⊢
 have hlo : ∀ i,i ≤ L.length → (0 ≤ loS (L.take i) ∧ loS (L.take i) ≤ den):=fun i hi=>by
  have h2:=loS_le (B:=3000) (l:=L.take i) fun c hc=>by have:=h1 c (List.mem_of_mem_take hc); omega
  have h3:=loS_le (B:=3000) (l:=L.drop i) fun c hc=>by have:=h1 c (List.mem_of_mem_drop hc); omega
  have h4 : loS L = loS (L.take i) + loS (L.drop i):=by
   have:=congrArg loS (List.take_append_drop i L).symm
   rw [this]
   simp only [loS,List.map_append,List.sum_append]
  omega
 refine acalls_st (rs:=[ints (truthU L den bs)]) [.tmp 6] Try.func32 rfl (by kernel_rfl) Try.ntmps32 rfl (by simp) rfl fun C vs=>?_
 repeat refine zq ?_
 refine zb (by kernel_rfl) fun K hK=>?_
 simp only [go_sem]
 (try simp (disch:=omega) only [zI])
 repeat first | intro _ | refine ⟨by omega,?_⟩ | refine ⟨⟨by omega,by omega⟩,?_⟩
 refine hK _ ?_
 clear hK K
 refine zw (sub_frzP 3 3 [i64 a.at_,bedsR L] (by omega) rfl rfl) ?_
 refine zw (zk [1,2,3]) ?_
 simp only [go_sem]
 repeat refine zq ?_
 refine zb (by kernel_rfl) fun K hK=>?_
 simp only [go_sem]
 (try simp (disch:=omega) only [zI])
 repeat first | intro _ | refine ⟨by omega,?_⟩ | refine ⟨⟨by omega,by omega⟩,?_⟩
 refine hK _ ?_
 clear hK K
 refine zw (zk [2,3,7,8]) ?_
 simp only [go_sem]
 refine zw (sub_own 7 32 3 1 (by omega) rfl) ?_
 try simp only [go_sem]
 repeat refine zq ?_
 refine zb (by kernel_rfl) fun K hK=>?_
 simp only [go_sem]
 (try simp (disch:=omega) only [zI])
 repeat first | intro _ | refine ⟨by omega,?_⟩ | refine ⟨⟨by omega,by omega⟩,?_⟩
 refine hK _ ?_
 clear hK K
 refine zw (zk [2,3,7,8,9]) ?_
 simp only [go_sem]
 repeat refine zq ?_
 refine zd ?_
 refine awp_uptoV (n:=127) L.length (fun i vs=>[(2,.r (u8s bs)),(3,.r (.rp [i64 a.at_,bedsR L])),(7,.os 32 (vs 32) 1 0 i),(8,.r (i64 (den - loS (L.take i)))),(9,.r (i64 (i : Int)))])
  (fun i vs=>[(32,.arr 3 1 (((L.map (·.lo)).take i).map fun x=>[i64 x]))]) (fun _=>True) 0 (zj [] ?_ ?_) (Nat.zero_le _) trivial ?_
 · try simp only [go_sem]
   simp [loS]
 · try simp only [go_sem]
 · intro i vs hi _
   repeat refine zq ?_
   refine zb (by kernel_rfl) fun K hK=>?_
   simp only [go_sem]
   (try simp (disch:=omega) only [zI])
   repeat first | intro _ | refine ⟨by omega,?_⟩ | refine ⟨⟨by omega,by omega⟩,?_⟩
   refine hK _ ?_
   clear hK K
   refine zw (zk [2,3,7,8,9,20]) ?_
   simp only [go_sem]
   repeat refine zq ?_
   refine zc rfl (fun hc=>?_) (fun hc=>?_) <;> (try simp only [go_sem] at hc)
   · have hci : i < L.length:=by omega
     obtain ⟨c,hc1⟩:=opt_of_lt hci
     obtain ⟨g0,g1,g2⟩:=h1 c (mem_of_opt hc1)
     have hs0:=hlo i (by omega)
     have hs1:=hlo (i + 1) (by omega)
     have hlS : loS (L.take (i + 1)) = loS (L.take i) + c.lo:=by rw [take_of_opt hc1]; simp [loS]
     have hli : ((L.map (·.lo)).take i).length = i:=by rw [List.length_take]; simp; omega
     have hMt : (L.map (·.lo)).take (i + 1) = (L.map (·.lo)).take i ++ [c.lo]:=take_of_opt (by simp [hc1])
     refine zx ?_
     try simp only [go_sem]
     repeat refine zq ?_
     refine zd ?_
     repeat refine zq ?_
     refine zb (by kernel_rfl) fun K hK=>?_
     simp only [go_sem,hc1,hci,bedR,hli]
     (try simp (disch:=omega) only [zI])
     repeat first | intro _ | refine ⟨by omega,?_⟩ | refine ⟨⟨by omega,by omega⟩,?_⟩
     refine hK _ ?_
     clear hK K
     refine zw (zk [2,3,7,8,9]) ?_
     simp only [go_sem]
     repeat refine zq ?_
     refine zb (by kernel_rfl) fun K hK=>?_
     simp only [go_sem,hc1,hci,bedR]
     (try simp (disch:=omega) only [zI])
     repeat first | intro _ | refine ⟨by omega,?_⟩ | refine ⟨⟨by omega,by omega⟩,?_⟩
     refine hK _ ?_
     clear hK K
     refine zw (zk [2,3,7,8,9]) ?_
     simp only [go_sem]
     repeat refine zq ?_
     refine zb (by kernel_rfl) fun K hK=>?_
     simp only [go_sem]
     (try simp (disch:=omega) only [zI])
     repeat first | intro _ | refine ⟨by omega,?_⟩ | refine ⟨⟨by omega,by omega⟩,?_⟩
     refine hK _ ?_
     clear hK K
     try simp only [go_sem]
     refine ⟨by omega,zj [] ?_ ?_⟩
     · try simp only [go_sem]
       rw [hlS]
       omega
     · try simp only [go_sem]
       rw [hMt]
       simp
   · have hil : i = L.length:=by omega
     subst hil
     rw [List.take_length,List.take_of_length_le (by simp)]
     refine zf ?_
     simp only [go_sem]
     refine zw (zk [2,3,7,8]) ?_
     simp only [go_sem]
     repeat refine zq ?_
     refine zb (by kernel_rfl) fun K hK=>?_
     simp only [go_sem]
     (try simp (disch:=omega) only [zI])
     repeat first | intro _ | refine ⟨by omega,?_⟩ | refine ⟨⟨by omega,by omega⟩,?_⟩
     refine hK _ ?_
     clear hK K
     refine zw (zk [2,3,7,8,10]) ?_
     simp only [go_sem]
     repeat refine zq ?_
     refine zd ?_
     refine awp_uptoV (n:=127) 31 (fun k vs=>[(2,.r (u8s bs)),(3,.r (.rp [i64 a.at_,bedsR L])),(7,.os 32 (vs 32) 1 0 L.length),(8,.r (i64 (itU L bs den k).2)),(10,.r (i64 (k : Int)))])
      (fun k vs=>[(32,.arr 3 1 ((itU L bs den k).1.map fun x=>[i64 x]))]) (fun _=>True) 0 (zj [] ?_ ?_) (Nat.zero_le _) trivial ?_
     · try simp only [go_sem]
       rfl
     · try simp only [go_sem]
       rfl
     · intro k vs hk _
       have hTk:=hT k
       have hTn:=hT (k + 1)
       have hst : itU L bs den (k + 1) = stepU L bs k (itU L bs den k):=rfl
       have hx2:=hTk.le fun c hc=>(h1 c hc).1
       have hlk:=hTk.len
       have h00:=hTk.left
       have hse:=hTk.each
       by_cases hc0 : 0 < (itU L bs den k).2
       · have hk31 : k < 31:=by
          by_cases e : k = 31
          · rw [e,hdone] at hc0; omega
          · omega
         generalize hxe : itU L bs den k = x at *
         have e0 : decide (0 < x.2) = true:=by simpa using hc0
         have hbk:=mbyteOf_ok bs k
         have hbk1:=mbyteOf_ok bs (k + 1)
         have hbl:=byteL_le hb k
         have hbl1:=byteL_le hb (k + 1)
         have hz0 : ((L.length : Int) == 0) = false:=beq_eq_false_iff_ne.2 (by omega)
         have hz1 : (L.length : Int) ≠ 0:=by omega
         have hix : (byteL bs k + (k : Int)).tmod (L.length : Int) = ((idxU L bs k : Nat) : Int):=by
          rw [Int.tmod_eq_emod_of_nonneg (by omega)]; unfold idxU
          rw [Int.natCast_emod]; congr 1; omega
         have hm40 : (byteL bs (k + 1)).tmod 40 = byteL bs (k + 1) % 40:=Int.tmod_eq_emod_of_nonneg hbl1.1
         have hil:=idxU_lt (l:=L) (bs:=bs) (k:=k) hl.1
         have hmu:=moreU_le hb hl.1 hTk k
         repeat refine zq ?_
         refine zb (by kernel_rfl) fun K hK=>?_
         simp only [go_sem,e0]
         (try simp (disch:=omega) only [zI])
         repeat first | intro _ | refine ⟨by omega,?_⟩ | refine ⟨⟨by omega,by omega⟩,?_⟩
         refine hK _ ?_
         clear hK K
         refine zw (zk [2,3,7,8,10,43]) ?_
         simp only [go_sem]
         repeat refine zq ?_
         refine zc rfl (fun hc=>?_) (fun hc=>?_) <;> (try simp only [go_sem] at hc)
         refine zx ?_
         try simp only [go_sem]
         repeat refine zq ?_
         refine zd ?_
         repeat refine zq ?_
         refine zb (by kernel_rfl) fun K hK=>?_
         simp only [go_sem]
         (try simp (disch:=omega) only [zI])
         refine zh (hbk) rfl (by simp only [go_sem,i64,ints]) (by simp only [go_sem,i64,ints]) (by first | exact .inl rfl | exact .inr rfl) ?_
         (try simp only [go_sem])
         (try simp (disch:=omega) only [zI])
         try simp only [go_sem,hix,hz0,hz1]
         try simp (disch:=omega) only [zI]
         try simp only [go_sem,hix,hz0,hz1]
         intro _
         refine ⟨hz1,?_⟩
         repeat first | intro _ | refine ⟨by omega,?_⟩ | refine ⟨⟨by omega,by omega⟩,?_⟩
         refine hK _ ?_
         clear hK K
         refine zw (zk [2,3,7,8,10,11]) ?_
         simp only [go_sem]
         obtain ⟨j,hj⟩ : ∃ j,j = idxU L bs k:=⟨_,rfl⟩
         obtain ⟨mm,hmm⟩ : ∃ mm,mm = moreU L bs k x:=⟨_,rfl⟩
         obtain ⟨c,hcj⟩:=opt_of_lt (show j < L.length by omega)
         obtain ⟨g0,g1,g2⟩:=h1 c (mem_of_opt hcj)
         obtain ⟨y,hy⟩ : ∃ y,y = x.1.getD j 0:=⟨_,rfl⟩
         have hyj : x.1[j]? = some y:=by rw [hy,List.getD_eq_getElem?_getD,List.getElem?_eq_getElem (by omega)]; rfl
         have hbj : bAt L j = c:=by simp [bAt,List.getD,hcj]
         have hye:=hse j (by omega)
         rw [hbj,← hy] at hye
         have htk : takeU L j x = min x.2 (c.hi - y):=by unfold takeU; rw [hbj,hy]
         have hme : mm = if k < 30 then min (min x.2 (c.hi - y)) (1 + byteL bs (k + 1) % 40) else min x.2 (c.hi - y):=by
          rw [hmm]; unfold moreU; rw [← hj,htk]
         have hjl : j < L.length:=by omega
         have hjx : j < x.1.length:=by omega
         have hws : IntKind.i64.wrap (c.hi - y) = c.hi - y:=by rw [zI] <;> omega
         have hgv : giveU (idxU L bs k) (moreU L bs k x) x = (x.1.set j (y + mm),x.2 - mm):=by rw [← hj,← hmm]; unfold giveU; rw [← hy]
         rw [← hj,htk,← hmm] at hmu
         rw [← hj]
         repeat refine zq ?_
         refine awp_dreg2 [(7,some 32),(3,none),(8,none),(11,none)] follows (by decide +kernel) (by kernel_rfl) (by simp only [keysOk,List.mem_cons,List.not_mem_nil,forall_eq_or_imp,Oc.keyOf,go_sem]; simp) fun K hK=>?_
         simp only [go_sem,hcj,hjl,bedR,hyj,hws,hlk,hjx]
         (try simp (disch:=omega) only [zI])
         repeat first | intro _ | refine ⟨by omega,?_⟩ | refine ⟨⟨by omega,by omega⟩,?_⟩
         refine hK _ ?_
         clear hK K
         refine zw (zk [2,3,7,8,10,11,12]) ?_
         simp only [go_sem]
         repeat refine zq ?_
         refine zb (by kernel_rfl) fun K hK=>?_
         simp only [go_sem]
         (try simp (disch:=omega) only [zI])
         repeat first | intro _ | refine ⟨by omega,?_⟩ | refine ⟨⟨by omega,by omega⟩,?_⟩
         refine hK _ ?_
         clear hK K
         refine zw (zk [2,3,7,8,10,11,12,70]) ?_
         simp only [go_sem]
         repeat refine zq ?_
         refine awp_joinV (n:=127) (fun (_ : Unit) vs=>[(2,.r (u8s bs)),(3,.r (.rp [i64 a.at_,bedsR L])),(7,.os 32 (vs 32) 1 0 L.length),(8,.r (i64 x.2)),(10,.r (i64 (k : Int))),(11,.r (i64 (j : Int))),(12,.r (i64 mm))]) (fun _ vs=>[(32,.arr 3 1 (x.1.map fun x=>[i64 x]))]) (fun _=>True) (fun _ h=>h) ?_ ?_
         · repeat refine zq ?_
           refine zc rfl (fun hc=>?_) (fun hc=>?_) <;> (try simp only [go_sem] at hc)
           · have h30 : k < 30:=by omega
             rw [if_pos h30] at hme
             repeat refine zq ?_
             refine zb (by kernel_rfl) fun K hK=>?_
             simp only [go_sem]
             (try simp (disch:=omega) only [zI])
             refine zh (hbk1) rfl (by simp only [go_sem,i64,ints]) (by simp only [go_sem,i64,ints]) (by first | exact .inl rfl | exact .inr rfl) ?_
             (try simp only [go_sem])
             (try simp (disch:=omega) only [zI])
             try simp only [go_sem,hm40]
             try simp (disch:=omega) only [zI]
             repeat first | intro _ | refine ⟨by omega,?_⟩ | refine ⟨⟨by omega,by omega⟩,?_⟩
             refine hK _ ?_
             clear hK K
             refine ⟨(),trivial,zj [] ?_ ?_⟩
             · try simp only [go_sem]
               rw [hme]
             · try simp only [go_sem]
           · have h30 : ¬ k < 30:=by omega
             rw [if_neg h30] at hme
             rw [← hme]
             refine zx ?_
             try simp only [go_sem]
             refine ⟨(),zj [] ?_ ?_⟩
             · try simp only [go_sem]
             · try simp only [go_sem]
         intro _ vs _
         repeat refine zq ?_
         refine zb (by kernel_rfl) fun K hK=>?_
         simp only [go_sem,hyj,hlk,hjx,hjl]
         (try simp (disch:=omega) only [zI])
         repeat first | intro _ | refine ⟨by omega,?_⟩ | refine ⟨⟨by omega,by omega⟩,?_⟩
         refine hK _ ?_
         clear hK K
         refine zw (zk [2,3,7,8,10]) ?_
         simp only [go_sem]
         repeat refine zq ?_
         refine zb (by kernel_rfl) fun K hK=>?_
         simp only [go_sem]
         (try simp (disch:=omega) only [zI])
         repeat first | intro _ | refine ⟨by omega,?_⟩ | refine ⟨⟨by omega,by omega⟩,?_⟩
         refine hK _ ?_
         clear hK K
         refine zw (zk [2,3,7,8,10,93]) ?_
         simp only [go_sem]
         repeat refine zq ?_
         refine zc rfl (fun hc=>?_) (fun hc=>?_) <;> (try simp only [go_sem] at hc)
         · have h30 : ¬ k < 30:=by omega
           have hst2 : itU L bs den (k + 1) = fillU L (x.1.set j (y + mm),x.2 - mm) L.length:=by rw [hst]; unfold stepU; rw [if_neg h30,hgv]
           have hTz : TI L den (x.1.set j (y + mm),x.2 - mm):=by
            have:=hTk.give (idxU_lt (bs:=bs) (k:=k) hl.1) (moreU_le hb hl.1 hTk k)
            rw [hgv] at this; exact this
           have hcells : (x.1.map fun x=>[i64 x]).set j [i64 (y + mm)] = (x.1.set j (y + mm)).map fun x=>[i64 x]:=by rw [List.map_set]
           obtain ⟨z,hz⟩ : ∃ z,z = (x.1.set j (y + mm),x.2 - mm):=⟨_,rfl⟩
           have hz1' : z.1 = x.1.set j (y + mm):=by rw [hz]
           have hz2' : z.2 = x.2 - mm:=by rw [hz]
           rw [← hz] at hst2 hTz
           repeat refine zq ?_
           refine zb (by kernel_rfl) fun K hK=>?_
           simp only [go_sem]
           (try simp (disch:=omega) only [zI])
           repeat first | intro _ | refine ⟨by omega,?_⟩ | refine ⟨⟨by omega,by omega⟩,?_⟩
           refine hK _ ?_
           clear hK K
           refine zw (zk [2,3,7,8,10,13]) ?_
           simp only [go_sem]
           repeat refine zq ?_
           refine zd ?_
           refine awp_uptoV (n:=127) L.length (fun q vs=>[(2,.r (u8s bs)),(3,.r (.rp [i64 a.at_,bedsR L])),(7,.os 32 (vs 32) 1 0 L.length),(8,.r (i64 (fillU L z q).2)),(10,.r (i64 (k : Int))),(13,.r (i64 (q : Int)))])
            (fun q vs=>[(32,.arr 3 1 ((fillU L z q).1.map fun x=>[i64 x]))]) (fun _=>True) 0 (zj [] ?_ ?_) (Nat.zero_le _) trivial ?_
           · try simp only [go_sem]
             exact hz2'.symm
           · try simp only [go_sem]
             show _ = [(32,RowC.arr 3 1 (z.1.map fun x=>[i64 x]))]
             rw [hz1',List.map_set]
           · intro q vs hq _
             have hTq:=hTz.fill q hq
             have hqs : ∀ h : q < L.length,fillU L z (q + 1) = giveU q (takeU L q (fillU L z q)) (fillU L z q):=fun _=>rfl
             generalize hue : fillU L z q = u at hTq hqs ⊢
             have hul:=hTq.len
             have hu0:=hTq.left
             have hu1:=hTq.le fun c hc=>(h1 c hc).1
             repeat refine zq ?_
             refine zb (by kernel_rfl) fun K hK=>?_
             simp only [go_sem]
             (try simp (disch:=omega) only [zI])
             repeat first | intro _ | refine ⟨by omega,?_⟩ | refine ⟨⟨by omega,by omega⟩,?_⟩
             refine hK _ ?_
             clear hK K
             refine zw (zk [2,3,7,8,10,13,97]) ?_
             simp only [go_sem]
             repeat refine zq ?_
             refine zc rfl (fun hc=>?_) (fun hc=>?_) <;> (try simp only [go_sem] at hc)
             · have hcq : q < L.length:=by omega
               obtain ⟨e,hce⟩:=opt_of_lt hcq
               obtain ⟨f0,f1,f2⟩:=h1 e (mem_of_opt hce)
               obtain ⟨v,hv⟩ : ∃ v,v = u.1.getD q 0:=⟨_,rfl⟩
               have hvq : u.1[q]? = some v:=by rw [hv,List.getD_eq_getElem?_getD,List.getElem?_eq_getElem (by omega)]; rfl
               have hbq : bAt L q = e:=by simp [bAt,List.getD,hce]
               have hve:=hTq.each q hcq
               rw [hbq,← hv] at hve
               have hwq : IntKind.i64.wrap (e.hi - v) = e.hi - v:=by rw [zI] <;> omega
               have hqx : q < u.1.length:=by omega
               have hgq : fillU L z (q + 1) = (u.1.set q (v + min u.2 (e.hi - v)),u.2 - min u.2 (e.hi - v)):=by
                rw [hqs hcq]; unfold giveU takeU; rw [hbq,← hv]
               refine zx ?_
               try simp only [go_sem]
               repeat refine zq ?_
               refine zd ?_
               repeat refine zq ?_
               refine awp_dreg2 [(7,some 32),(3,none),(8,none),(13,none)] follows (by decide +kernel) (by kernel_rfl) (by simp only [keysOk,List.mem_cons,List.not_mem_nil,forall_eq_or_imp,Oc.keyOf,go_sem]; simp) fun K hK=>?_
               simp only [go_sem,hce,hcq,bedR,hvq,hwq,hul,hqx]
               (try simp (disch:=omega) only [zI])
               repeat first | intro _ | refine ⟨by omega,?_⟩ | refine ⟨⟨by omega,by omega⟩,?_⟩
               refine hK _ ?_
               clear hK K
               refine zw (zk [2,3,7,8,10,12,13]) ?_
               simp only [go_sem]
               repeat refine zq ?_
               refine zb (by kernel_rfl) fun K hK=>?_
               simp only [go_sem,hvq,hul,hqx,hcq]
               (try simp (disch:=omega) only [zI])
               repeat first | intro _ | refine ⟨by omega,?_⟩ | refine ⟨⟨by omega,by omega⟩,?_⟩
               refine hK _ ?_
               clear hK K
               refine zw (zk [2,3,7,8,10,13]) ?_
               simp only [go_sem]
               repeat refine zq ?_
               refine zb (by kernel_rfl) fun K hK=>?_
               simp only [go_sem]
               (try simp (disch:=omega) only [zI])
               repeat first | intro _ | refine ⟨by omega,?_⟩ | refine ⟨⟨by omega,by omega⟩,?_⟩
               refine hK _ ?_
               clear hK K
               try simp only [go_sem]
               refine ⟨by omega,zj [] ?_ ?_⟩
               · try simp only [go_sem]
                 rw [hgq]
               · try simp only [go_sem]
                 rw [hgq,List.map_set]
             · have hqe : q = L.length:=by omega
               refine zf ?_
               simp only [go_sem]
               refine zw (zk [2,3,7,8,10]) ?_
               simp only [go_sem]
               repeat refine zq ?_
               refine zb (by kernel_rfl) fun K hK=>?_
               simp only [go_sem]
               (try simp (disch:=omega) only [zI])
               repeat first | intro _ | refine ⟨by omega,?_⟩ | refine ⟨⟨by omega,by omega⟩,?_⟩
               refine hK _ ?_
               clear hK K
               try simp only [go_sem]
               refine ⟨by omega,zj [] ?_ ?_⟩
               · try simp only [go_sem]
                 rw [hst2,← hqe,hue]
               · try simp only [go_sem]
                 rw [hst2,← hqe,hue]
         · have h30 : k < 30:=by omega
           have hst2 : itU L bs den (k + 1) = (x.1.set j (y + mm),x.2 - mm):=by rw [hst]; unfold stepU; rw [if_pos h30,hgv]
           refine zx ?_
           try simp only [go_sem]
           repeat refine zq ?_
           refine zb (by kernel_rfl) fun K hK=>?_
           simp only [go_sem]
           (try simp (disch:=omega) only [zI])
           repeat first | intro _ | refine ⟨by omega,?_⟩ | refine ⟨⟨by omega,by omega⟩,?_⟩
           refine hK _ ?_
           clear hK K
           try simp only [go_sem]
           refine ⟨by omega,zj [] ?_ ?_⟩
           · try simp only [go_sem]
             rw [hst2]
           · try simp only [go_sem]
             rw [hst2,List.map_set]
       · have hz : (itU L bs den k).2 = 0:=by omega
         have e0 : decide (0 < (itU L bs den k).2) = false:=decide_eq_false (by omega)
         have hst2 : truthU L den bs = (itU L bs den k).1:=by
          unfold truthU
          have:=itU_stay (bs:=bs) hb hl.1 h (fun c hc=>(h1 c hc).2.1) hz (31 - k)
          rw [show k + (31 - k) = 31 by omega] at this
          rw [this]
         repeat refine zq ?_
         refine zb (by kernel_rfl) fun K hK=>?_
         simp only [go_sem,e0]
         (try simp (disch:=omega) only [zI])
         repeat first | intro _ | refine ⟨by omega,?_⟩ | refine ⟨⟨by omega,by omega⟩,?_⟩
         refine hK _ ?_
         clear hK K
         refine zw (zk [7,43]) ?_
         simp only [go_sem]
         repeat refine zq ?_
         refine zc rfl (fun hc=>?_) (fun hc=>?_) <;> (try simp only [go_sem] at hc)
         refine zf ?_
         simp only [go_sem]
         refine zw (sub_frz 7 32 (ty:=3) (sz:=1) (off:=0) (m:=L.length) (es:=(itU L bs den k).1.map fun x=>[i64 x]) (by omega) rfl (by rfl) (by simp [hlk])) ?_
         have e1 : (((itU L bs den k).1.map fun x=>[i64 x]).drop 0).take L.length = (truthU L den bs).map fun x=>[i64 x]:=by
          rw [List.drop_zero,List.take_of_length_le (by simp [hlk]),hst2]
         rw [e1]
         refine zw (zk [7]) ?_
         simp only [go_sem]
         repeat refine zq ?_
         refine zb (by kernel_rfl) fun K hK=>?_
         simp only [go_sem]
         (try simp (disch:=omega) only [zI])
         repeat first | intro _ | refine ⟨by omega,?_⟩ | refine ⟨⟨by omega,by omega⟩,?_⟩
         refine hK _ ?_
         clear hK K
         refine zw (zk [6]) ?_
         simp only [go_sem]
         refine ze ?_
         simp only [go_sem]
end Go.Proofs.Ytgkejinoaommeaa

namespace Go.Proofs.Ytgkejinoaommeaa
open Go Go.Oc
set_option linter.unusedSimpArgs false
set_option linter.unusedVariables false
set_option maxRecDepth 8000
set_option maxHeartbeats 2000000
def third : Option Code → Option Code
 | some (.seq _ (.seq _ (.seq _ r)))=>some r
 | _=>none
def tlR (A F : Nat → Am) (N κ : Nat) (d : Int) (vs : Nat → Nat) : List (Nat × RowC) :=
 (4,.box [.r (i64 0),.r .ns]) :: (5,.box [.r (i64 d),.os κ (vs κ) 2 0 N]) :: (κ,.ara 36 2 (araG A vs N)) :: fam (famG F) N
def fixA (x : Lw) (D : Int) (A : Nat → Am) (i j : Nat) : Am:=if j < i then ⟨(A j).at_,fixM x D (A j).beds⟩ else A j
theorem fixA_zero (x : Lw) (D : Int) (A : Nat → Am) : fixA x D A 0 = A:=by funext j; simp [fixA]
theorem tail_ex (x : Lw) (hx : WfLw x) (most : Int) (hm : 0 ≤ most ∧ most ≤ 100) : ∃ c,third Try.f31.body = some c ∧ ∀ (C : Ctx) (vs : Nat → Nat),awp Try.prog C c (fpostL Try.prog [.cell 4 24] [lawV (denM x most) (aimsM x most)]) (st 268 [(2,.r (.rp (lwC x))),(4,.pt 4 (vs 4) 0),(5,.pt 5 (vs 5) 0)] vs (mkR x most (cntM x) vs)):=by
 refine ⟨_,rfl,fun C vs=>?_⟩
 refine zq ?_
 refine awp_joinV (n:=268) (fun (κ : Nat) vs=>[(2,.r (.rp (lwC x))),(4,.pt 4 (vs 4) 0),(5,.pt 5 (vs 5) 0)]) (fun κ vs=>tlR (rawA x most) (rawA x most) (rawN x most) κ 0 vs) (fun κ=>κ = 110 ∨ κ = 126) (fun _ h=>h) ?_ ?_
 · by_cases h0 : cntM x = 0
   · have hN : rawN x most = 1:=by unfold rawN rawM; rw [if_pos h0]; rfl
     have hA : rawA x most 0 = ⟨320,[⟨320,x.rest,x.rest⟩]⟩:=by unfold rawA rawM; rw [if_pos h0]; rfl
     have hrw : IntKind.i64.wrap x.rest = x.rest:=by have:=hx.rest; rw [zI] <;> omega
     have hto:=mto_ok x.rest x.rest
     simp only [mkR,mkX,mkA,if_pos h0,List.nil_append,h0,fam]
     repeat refine zq ?_
     refine zb (by kernel_rfl) fun K hK=>?_
     simp only [go_sem]
     (try simp (disch:=omega) only [zI])
     repeat first | intro _ | refine ⟨by omega,?_⟩ | refine ⟨⟨by omega,by omega⟩,?_⟩
     refine hK _ ?_
     clear hK K
     refine zw (zk [2,4,5,115]) ?_
     simp only [go_sem]
     repeat refine zq ?_
     refine zc rfl (fun hc=>?_) (fun hc=>?_) <;> (try simp only [go_sem] at hc)
     repeat refine zq ?_
     refine awp_long ?_
     refine sops_take 7 (by kernel_rfl) fun K hK=>?_
     simp only [go_sem,List.take_succ_cons,List.take_zero,List.drop_succ_cons,List.drop_zero,List.append_eq,List.cons_append,List.nil_append,hrw]
     (try simp (disch:=omega) only [zI])
     refine zh (hto) rfl (by simp only [go_sem,i64,ints]) (by simp only [go_sem,i64,ints]) (by first | exact .inl rfl | exact .inr rfl) ?_
     (try simp only [go_sem])
     (try simp (disch:=omega) only [zI])
     repeat first | intro _ | refine ⟨by omega,?_⟩ | refine ⟨⟨by omega,by omega⟩,?_⟩
     refine hK _ rfl ?_
     clear hK K
     refine sops_sub (zk [2,4,5,122]) ?_
     simp only [go_sem]
     refine sops_take 1 (by kernel_rfl) fun K hK=>?_
     simp only [go_sem,List.take_succ_cons,List.take_zero,List.drop_succ_cons,List.drop_zero,List.append_eq,List.cons_append,List.nil_append]
     (try simp (disch:=omega) only [zI])
     repeat first | intro _ | refine ⟨by omega,?_⟩ | refine ⟨⟨by omega,by omega⟩,?_⟩
     refine hK _ rfl ?_
     clear hK K
     refine sops_sub (zk [2,4,5,123]) ?_
     simp only [go_sem]
     refine sops_own (by simp [go_sem]) ?_
     simp only [go_sem,sBuildOwn]
     repeat first | refine ⟨by omega,?_⟩ | refine ⟨⟨by omega,by omega⟩,?_⟩
     refine sops_sub (sub_move (sz:=3) (off:=0) (m:=1) (ty:=67) (sz':=3) (es:=[[i64 320,i64 x.rest,i64 x.rest]]) 124 124 600 (by omega) (by omega) (by omega) (by try simp only [go_sem]) (by rfl) (by rfl)) ?_
     refine sops_sub (zk [2,4,5,124]) ?_
     simp only [go_sem]
     refine sops_take 1 (by kernel_rfl) fun K hK=>?_
     simp only [go_sem,List.take_succ_cons,List.take_zero,List.drop_succ_cons,List.drop_zero,List.append_eq,List.cons_append,List.nil_append]
     (try simp (disch:=omega) only [zI])
     repeat first | intro _ | refine ⟨by omega,?_⟩ | refine ⟨⟨by omega,by omega⟩,?_⟩
     refine hK _ rfl ?_
     clear hK K
     refine sops_sub (zk [2,4,5,125]) ?_
     simp only [go_sem]
     refine sops_litB (by simp [go_sem]) ?_
     simp only [go_sem,sLitBox,lay,List.replicate_succ,List.replicate_zero,List.flatten_cons,List.flatten_nil,List.map_cons,List.map_nil,List.cons_append,List.nil_append]
     repeat first | refine ⟨by omega,?_⟩ | refine ⟨⟨by omega,by omega⟩,?_⟩
     refine sops_end (by kernel_rfl) fun K hK=>?_
     simp only [go_sem,List.drop_succ_cons,List.drop_zero,List.append_eq,List.cons_append,List.nil_append]
     (try simp (disch:=omega) only [zI])
     repeat first | intro _ | refine ⟨by omega,?_⟩ | refine ⟨⟨by omega,by omega⟩,?_⟩
     refine hK _ ?_
     clear hK K
     refine ⟨126,.inr rfl,zj [] ?_ ?_⟩
     · try simp only [go_sem]
     · simp only [tlR,hN,araG,fam,famG,hA,List.nil_append]
       try simp only [go_sem]
       rfl
   · have hN : rawN x most = cntM x:=by unfold rawN rawM; rw [if_neg h0]; simp
     have hA : ∀ j,j < cntM x → rawA x most j = ⟨atM j,bedsM x most j⟩:=fun j hj=>by
      unfold rawA rawM
      rw [if_neg h0,List.getD_eq_getElem?_getD,List.getElem?_map,List.getElem?_range hj]; rfl
     simp only [mkR,mkX,mkA,if_neg h0,List.cons_append,List.nil_append]
     have e1 : ((cntM x : Int) == 0) = false:=by simp; omega
     repeat refine zq ?_
     refine zb (by kernel_rfl) fun K hK=>?_
     simp only [go_sem,e1]
     (try simp (disch:=omega) only [zI])
     repeat first | intro _ | refine ⟨by omega,?_⟩ | refine ⟨⟨by omega,by omega⟩,?_⟩
     refine hK _ ?_
     clear hK K
     refine zw (zk [2,4,5,115]) ?_
     simp only [go_sem]
     repeat refine zq ?_
     refine zc rfl (fun hc=>?_) (fun hc=>?_) <;> (try simp only [go_sem] at hc)
     refine zx ?_
     try simp only [go_sem]
     refine ⟨110,.inl rfl,zj [] ?_ ?_⟩
     · try simp only [go_sem]
     · simp only [tlR,hN]
       have e2 : fam (famG (rawA x most)) (cntM x) = fam (mkG x most) (cntM x):=fam_congr fun j hj=>by unfold famG mkG; rw [hA j hj]
       rw [e2,araC_eq]
       rw [araG_congr (A:=fun j=>⟨atM j,bedsM x most j⟩) (B:=rawA x most) (v:=vs) (v':=vs) fun j hj=>by rw [hA j hj]; exact ⟨rfl,rfl,rfl⟩]
       try rfl
 intro κ vs hκ
 obtain ⟨⟨hN1,hN6⟩,hraw⟩:=raw_ok hx hm
 obtain ⟨N,hN⟩ : ∃ N,N = rawN x most:=⟨_,rfl⟩
 obtain ⟨A,hA⟩ : ∃ A,A = rawA x most:=⟨_,rfl⟩
 rw [← hN,← hA]
 rw [← hN] at hN1 hN6 hraw
 rw [← hA] at hraw
 have k4 : (κ = 4) = False:=by simp only [eq_iff_iff,iff_false]; omega
 have k5 : (κ = 5) = False:=by simp only [eq_iff_iff,iff_false]; omega
 have k4' : (4 = κ) = False:=by simp only [eq_iff_iff,iff_false]; omega
 have k5' : (5 = κ) = False:=by simp only [eq_iff_iff,iff_false]; omega
 have kl4 : (κ < 4) = False:=by simp only [eq_iff_iff,iff_false]; omega
 have kl5 : (κ < 5) = False:=by simp only [eq_iff_iff,iff_false]; omega
 have hki : ∀ i,(i + 600 = κ) = False:=fun i=>by simp only [eq_iff_iff,iff_false]; omega
 have hki' : ∀ i,(κ = i + 600) = False:=fun i=>by simp only [eq_iff_iff,iff_false]; omega
 have hkl : ∀ i,(i + 600 < κ) = False:=fun i=>by simp only [eq_iff_iff,iff_false]; omega
 have hnl : ∀ i a,a ≤ 600 → (i + 600 < a) = False:=fun i a h=>by simp only [eq_iff_iff,iff_false]; omega
 have hal : (araG A vs N).length = N * 2:=araG_len
 simp only [tlR]
 repeat refine zq ?_
 refine zb (by kernel_rfl) fun K hK=>?_
 simp only [go_sem]
 (try simp (disch:=omega) only [zI])
 repeat first | intro _ | refine ⟨by omega,?_⟩ | refine ⟨⟨by omega,by omega⟩,?_⟩
 refine hK _ ?_
 clear hK K
 refine zw (zk [2,4,5,12]) ?_
 simp only [go_sem]
 repeat refine zq ?_
 refine zd ?_
 refine awp_uptoV (n:=268) N (fun i vs=>[(2,.r (.rp (lwC x))),(4,.pt 4 (vs 4) 0),(5,.pt 5 (vs 5) 0),(12,.r (i64 (i : Int)))])
  (fun i vs=>tlR A A N κ (sumsM ((rawM x most).take i)) vs) (fun _=>True) 0 (zj [] ?_ ?_) (Nat.zero_le _) trivial ?_
 · try simp only [go_sem]
 · try simp only [go_sem]
   rfl
 · intro i vs hi _
   simp only [tlR]
   repeat refine zq ?_
   refine zb (by kernel_rfl) fun K hK=>?_
   simp only [go_sem,k4,k5]
   (try simp (disch:=omega) only [zI])
   repeat first | intro _ | refine ⟨by omega,?_⟩ | refine ⟨⟨by omega,by omega⟩,?_⟩
   refine hK _ ?_
   clear hK K
   refine zw (zk [2,4,5,12,132]) ?_
   simp only [go_sem]
   repeat refine zq ?_
   refine zc rfl (fun hc=>?_) (fun hc=>?_) <;> (try simp only [go_sem] at hc)
   · have hci : i < N:=by omega
     obtain ⟨r1,r2,r3,r4⟩:=hraw i hci
     have hsu:=sumsA_ok (A i) (fun c hc=>by obtain ⟨_,q⟩:=r3 c hc; omega) (by omega)
     have htk:=araG_take (A:=A) (v:=vs) hci
     have hal' : (araG A vs N).length = N * 2:=araG_len
     have hlf : lookc (fam (famG A) N) (i + 600) = .arr 67 3 ((A i).beds.map bedR):=lookc_fam hci
     refine zx ?_
     try simp only [go_sem]
     repeat refine zq ?_
     refine zd ?_
     have hrA : (rawM x most)[i]? = some (A i):=by
      have hl : i < (rawM x most).length:=by rw [hN] at hci; exact hci
      rw [hA]; unfold rawA; rw [List.getD_eq_getElem?_getD,List.getElem?_eq_getElem hl]; rfl
     have hsn : sumsM ((rawM x most).take (i + 1)) = max (sumsM ((rawM x most).take i)) (loS (A i).beds):=by rw [take_of_opt hrA,sumsM_snoc]
     repeat refine zq ?_
     refine zb (by kernel_rfl) fun K hK=>?_
     simp only [go_sem,k4,k5,htk,hci,hal',hlf,hki]
     (try simp (disch:=omega) only [zI])
     refine ⟨by omega,?_⟩
     refine zh (hsu) rfl (by simp only [go_sem,i64,ints,hlf,hki,hkl]) (by simp only [go_sem,i64,ints,hlf,hki,hkl]) (by first | exact .inl rfl | exact .inr rfl) ?_
     (try simp only [go_sem,hlf,hki,hkl])
     (try simp (disch:=omega) only [zI])
     repeat first | intro _ | refine ⟨by omega,?_⟩ | refine ⟨⟨by omega,by omega⟩,?_⟩
     refine hK _ ?_
     clear hK K
     refine zw (zk [2,4,5,12,13]) ?_
     simp only [go_sem]
     repeat refine zq ?_
     refine zb (by kernel_rfl) fun K hK=>?_
     simp only [go_sem]
     (try simp (disch:=omega) only [zI])
     repeat first | intro _ | refine ⟨by omega,?_⟩ | refine ⟨⟨by omega,by omega⟩,?_⟩
     refine hK _ ?_
     clear hK K
     refine zw (zk [2,4,5,12]) ?_
     simp only [go_sem]
     repeat refine zq ?_
     refine zb (by kernel_rfl) fun K hK=>?_
     simp only [go_sem]
     (try simp (disch:=omega) only [zI])
     repeat first | intro _ | refine ⟨by omega,?_⟩ | refine ⟨⟨by omega,by omega⟩,?_⟩
     refine hK _ ?_
     clear hK K
     try simp only [go_sem]
     refine ⟨by omega,zj [] ?_ ?_⟩
     · try simp only [go_sem]
     · simp only [go_sem,tlR,hsn]
       try rfl
   · have hie : i = N:=by omega
     have htN : (rawM x most).take i = rawM x most:=List.take_of_length_le (by rw [hie,hN]; exact Nat.le_refl _)
     rw [htN]
     have hsb : 0 ≤ sumsM (rawM x most) ∧ sumsM (rawM x most) ≤ 2550:=sumsM_le (by omega) (by omega) fun a ha=>by
      obtain ⟨j,hj⟩:=List.getElem?_of_mem ha
      have hjl:=(List.getElem?_eq_some_iff.1 hj).1
      have e : A j = a:=by rw [hA]; unfold rawA; rw [List.getD_eq_getElem?_getD,hj]; rfl
      rw [← e]
      exact (hraw j (by rw [hN]; exact hjl)).lo
     have hxr:=hx.rest
     have hrw : IntKind.i64.wrap x.rest = x.rest:=by rw [zI] <;> omega
     have hr20 : x.rest.tmod 20 = x.rest % 20:=Int.tmod_eq_emod_of_nonneg hxr.1
     obtain ⟨D,hD⟩ : ∃ D,D = denM x most:=⟨_,rfl⟩
     have hDe : D = max 1 (sumsM (rawM x most) + x.rest % 20):=hD
     have hDb : 1 ≤ D ∧ D ≤ 3000:=by rw [hDe]; omega
     refine zf ?_
     simp only [go_sem]
     refine zw (zk [2,4,5]) ?_
     simp only [go_sem]
     repeat refine zq ?_
     refine zb (by kernel_rfl) fun K hK=>?_
     simp only [go_sem,hrw,hr20]
     (try simp (disch:=omega) only [zI])
     try simp (disch:=omega) only [zI]
     try simp only [go_sem,hrw,hr20]
     try simp (disch:=omega) only [zI]
     repeat first | intro _ | refine ⟨by omega,?_⟩ | refine ⟨⟨by omega,by omega⟩,?_⟩
     refine hK _ ?_
     clear hK K
     rw [← hDe]
     refine zw (zk [2,4,5]) ?_
     simp only [go_sem]
     repeat refine zq ?_
     refine zb (by kernel_rfl) fun K hK=>?_
     simp only [go_sem]
     (try simp (disch:=omega) only [zI])
     repeat first | intro _ | refine ⟨by omega,?_⟩ | refine ⟨⟨by omega,by omega⟩,?_⟩
     refine hK _ ?_
     clear hK K
     refine zw (zk [2,4,5,15]) ?_
     simp only [go_sem]
     clear hi hie htN hc
     repeat refine zq ?_
     refine zd ?_
     refine awp_uptoV (n:=268) N (fun i vs=>[(2,.r (.rp (lwC x))),(4,.pt 4 (vs 4) 0),(5,.pt 5 (vs 5) 0),(15,.r (i64 (i : Int)))])
      (fun i vs=>tlR A (fixA x D A i) N κ D vs) (fun _=>True) 0 (zj [] ?_ ?_) (Nat.zero_le _) trivial ?_
     · try simp only [go_sem]
     · simp only [tlR,fixA_zero]
       try rfl
     · clear i
       intro i vs hi _
       simp only [tlR]
       repeat refine zq ?_
       refine zb (by kernel_rfl) fun K hK=>?_
       simp only [go_sem,k4,k5]
       (try simp (disch:=omega) only [zI])
       repeat first | intro _ | refine ⟨by omega,?_⟩ | refine ⟨⟨by omega,by omega⟩,?_⟩
       refine hK _ ?_
       clear hK K
       refine zw (zk [2,4,5,15,162]) ?_
       simp only [go_sem]
       repeat refine zq ?_
       refine zc rfl (fun hc=>?_) (fun hc=>?_) <;> (try simp only [go_sem] at hc)
       · have hci : i < N:=by omega
         have ra:=hraw i hci
         have hlen:=ra.len
         have hat:=araG_at (A:=A) (v:=vs) hci
         have hal' : (araG A vs N).length = N * 2:=araG_len
         obtain ⟨F,hF⟩ : ∃ F,F = famG (fixA x D A i):=⟨_,rfl⟩
         have hFi : F i = .arr 67 3 ((A i).beds.map bedR):=by rw [hF]; unfold famG fixA; rw [if_neg (by omega)]
         have hF0 : fam F N = fam (upd F i (.arr 67 3 ((A i).beds.map bedR))) N:=by rw [← hFi,upd_self]
         have hlk : ∀ c,lookc (fam (upd F i c) N) (i + 600) = c:=fun c=>by rw [lookc_fam hci,upd_same]
         have his : ∀ c d,insc (fam (upd F i c) N) (i + 600) d = fam (upd F i d) N:=fun c d=>by rw [insc_fam hci,upd_upd]
         rw [← hF,hF0]
         refine zx ?_
         try simp only [go_sem]
         repeat refine zq ?_
         refine zd ?_
         have hhd : (List.drop (i * 2 + 1) (araG A vs N)).headD (AV.r RV.un) = .os (i + 600) (vs (i + 600)) 3 0 (A i).beds.length:=by
          rw [List.headD_eq_head?_getD,List.head?_drop,hat]; rfl
         repeat refine zq ?_
         refine zb (by kernel_rfl) fun K hK=>?_
         simp only [go_sem,k4,k5,hat,hci,hal',hki,hhd]
         (try simp (disch:=omega) only [zI])
         repeat first | intro _ | refine ⟨by omega,?_⟩ | refine ⟨⟨by omega,by omega⟩,?_⟩
         refine hK _ ?_
         clear hK K
         refine zw (zk [2,4,5,15,16]) ?_
         simp only [go_sem]
         repeat refine zq ?_
         refine zb (by kernel_rfl) fun K hK=>?_
         simp only [go_sem]
         (try simp (disch:=omega) only [zI])
         repeat first | intro _ | refine ⟨by omega,?_⟩ | refine ⟨⟨by omega,by omega⟩,?_⟩
         refine hK _ ?_
         clear hK K
         refine zw (zk [2,4,5,15,16,17]) ?_
         simp only [go_sem]
         repeat refine zq ?_
         refine zd ?_
         refine awp_uptoV (n:=268) (A i).beds.length (fun k vs=>[(2,.r (.rp (lwC x))),(4,.pt 4 (vs 4) 0),(5,.pt 5 (vs 5) 0),(15,.r (i64 (i : Int))),(16,.os (i + 600) (vs (i + 600)) 3 0 (A i).beds.length),(17,.r (i64 (k : Int)))])
          (fun k vs=>(4,.box [.r (i64 0),.r .ns]) :: (5,.box [.r (i64 D),.os κ (vs κ) 2 0 N]) :: (κ,.ara 36 2 (araG A vs N)) :: fam (upd F i (.arr 67 3 ((mixC D (A i).beds k).map bedR))) N) (fun _=>True) 0 (zj [] ?_ ?_) (Nat.zero_le _) trivial ?_
         · try simp only [go_sem]
         · simp only [mixC_zero]
           try rfl
         · intro k vs hk _
           repeat refine zq ?_
           refine zb (by kernel_rfl) fun K hK=>?_
           simp only [go_sem]
           (try simp (disch:=omega) only [zI])
           repeat first | intro _ | refine ⟨by omega,?_⟩ | refine ⟨⟨by omega,by omega⟩,?_⟩
           refine hK _ ?_
           clear hK K
           refine zw (zk [2,4,5,15,16,17,174]) ?_
           simp only [go_sem]
           repeat refine zq ?_
           refine zc rfl (fun hc=>?_) (fun hc=>?_) <;> (try simp only [go_sem] at hc)
           · have hck : k < (A i).beds.length:=by omega
             obtain ⟨c,hc1⟩:=opt_of_lt hck
             have hmg:=mixC_get (D:=D) hc1
             have hms:=mixC_set (D:=D) hc1
             have hml:=mixC_len (D:=D) (l:=(A i).beds) (k:=k)
             have hce:=ra.each c (mem_of_opt hc1)
             generalize mixC D (A i).beds k = X at hmg hms hml ⊢
             have hkX : k < X.length:=by omega
             refine zx ?_
             try simp only [go_sem]
             repeat refine zq ?_
             refine zd ?_
             repeat refine zq ?_
             refine zg follows (by decide +kernel) (by kernel_rfl) fun K hK=>?_
             simp only [go_sem,k4,k5,hki,hkl,hlk,his,hmg,hkX,hml,bedR,List.length_map]
             (try simp (disch:=omega) only [zI])
             try simp only [go_sem,his,hki,hkl,hnl]
             repeat first | intro _ | refine ⟨by omega,?_⟩ | refine ⟨⟨by omega,by omega⟩,?_⟩
             refine hK _ ?_
             clear hK K
             refine zw (zk [2,4,5,15,16,17]) ?_
             simp only [go_sem]
             repeat refine zq ?_
             refine zb (by kernel_rfl) fun K hK=>?_
             simp only [go_sem]
             (try simp (disch:=omega) only [zI])
             repeat first | intro _ | refine ⟨by omega,?_⟩ | refine ⟨⟨by omega,by omega⟩,?_⟩
             refine hK _ ?_
             clear hK K
             try simp only [go_sem]
             refine ⟨by omega,zj [] ?_ ?_⟩
             · try simp only [go_sem]
             · simp only [go_sem]
               rw [← hms,List.map_set]
               rfl
           · have hke : k = (A i).beds.length:=by omega
             subst hke
             rw [mixC_full]
             have hX:=CapI.cap ra hDb
             have hfx0 : fixM x D (A i).beds = raiseN D (raiseB D (capB D (A i).beds) (restK x (capB D (A i).beds))) (A i).beds.length:=by
              have hrk : restK x (capB D (A i).beds) = restK x (A i).beds:=by unfold restK; simp [capB]
              unfold fixM; rw [hrk]
             generalize capB D (A i).beds = X at hX hfx0 ⊢
             have hXl:=hX.len
             have hXh:=hX.hi hlen.2
             have hsu:=sumsA_ok ⟨(A i).at_,X⟩ (fun c hc=>by have:=hX.each c hc; omega) (by show X.length ≤ 1000; omega)
             simp only at hsu
             have htk:=araG_take (A:=A) (v:=vs) hci
             have hal2 : (araG A vs N).length = N * 2:=araG_len
             have hsn : List.take (A i).beds.length (List.map bedR X) = List.map bedR X:=List.take_of_length_le (by simp; omega)
             refine zf ?_
             simp only [go_sem]
             refine zw (zk [2,4,5,15,16]) ?_
             simp only [go_sem]
             repeat refine zq ?_
             refine zb (by kernel_rfl) fun K hK=>?_
             simp only [go_sem,k4,k5,htk,hci,hal2,hlk,hki]
             (try simp (disch:=omega) only [zI])
             refine ⟨by omega,?_⟩
             have hle : (A i).beds.length ≤ X.length:=by omega
             refine zh (hsu) rfl (by simp only [go_sem,i64,ints,hlk,hki,hkl,hsn,List.drop_zero,List.length_map,hle]) (by simp only [go_sem,i64,ints,hlk,hki,hkl,hsn,List.drop_zero,List.length_map,hle]) (by first | exact .inl rfl | exact .inr rfl) ?_
             (try simp only [go_sem,hlk,hki,hkl,hsn,List.drop_zero,List.length_map,hle])
             (try simp (disch:=omega) only [zI])
             repeat first | intro _ | refine ⟨by omega,?_⟩ | refine ⟨⟨by omega,by omega⟩,?_⟩
             refine hK _ ?_
             clear hK K
             refine zw (zk [2,4,5,15,16,19]) ?_
             simp only [go_sem]
             repeat refine zq ?_
             refine zb (by kernel_rfl) fun K hK=>?_
             simp only [go_sem]
             (try simp (disch:=omega) only [zI])
             repeat first | intro _ | refine ⟨by omega,?_⟩ | refine ⟨⟨by omega,by omega⟩,?_⟩
             refine hK _ ?_
             clear hK K
             refine zw (zk [2,4,5,15,16,19,203]) ?_
             simp only [go_sem]
             have hxk : restK x X < X.length:=Nat.mod_lt _ (by omega)
             refine awp_joinV (n:=268) (fun (_ : Unit) vs=>[(2,.r (.rp (lwC x))),(4,.pt 4 (vs 4) 0),(5,.pt 5 (vs 5) 0),(15,.r (i64 (i : Int))),(16,.os (i + 600) (vs (i + 600)) 3 0 (A i).beds.length)]) (fun _ vs=>(4,.box [.r (i64 0),.r .ns]) :: (5,.box [.r (i64 D),.os κ (vs κ) 2 0 N]) :: (κ,.ara 36 2 (araG A vs N)) :: fam (upd F i (.arr 67 3 ((raiseB D X (restK x X)).map bedR))) N) (fun _=>True) (fun _ h=>h) ?_ ?_
             · repeat refine zq ?_
               refine zc rfl (fun hc=>?_) (fun hc=>?_) <;> (try simp only [go_sem] at hc)
               · have hlt : hiS X < D:=by simpa using hc
                 have hrm : x.rest.tmod ((A i).beds.length : Int) = ((restK x X : Nat) : Int):=by
                  rw [Int.tmod_eq_emod_of_nonneg hxr.1,← hXl]; unfold restK
                  rw [Int.natCast_emod,Int.toNat_of_nonneg hxr.1]
                 have hz0 : (((A i).beds.length : Int) == 0) = false:=beq_eq_false_iff_ne.2 (by omega)
                 have hz1 : ((A i).beds.length : Int) ≠ 0:=by omega
                 repeat refine zq ?_
                 refine zb (by kernel_rfl) fun K hK=>?_
                 simp only [go_sem,hrw,hrm,hz0,hz1]
                 (try simp (disch:=omega) only [zI])
                 try simp only [go_sem,hrw,hrm,hz0,hz1]
                 repeat first | intro _ | refine ⟨by omega,?_⟩ | refine ⟨⟨by omega,by omega⟩,?_⟩
                 refine hK _ ?_
                 clear hK K
                 refine zw (zk [2,4,5,15,16,19,20]) ?_
                 simp only [go_sem]
                 generalize restK x X = k0 at hxk ⊢
                 have hXl:=hX.len
                 obtain ⟨c,hc1⟩:=opt_of_lt (show k0 < X.length by omega)
                 have hcX:=hX.each c (mem_of_opt hc1)
                 have hcd : X.getD (k0) ⟨0,0,0⟩ = c:=by simp [List.getD_eq_getElem?_getD,hc1]
                 have hrz : raiseB D X (k0) = X.set (k0) ⟨c.b,c.lo,min D (c.hi + D - hiS X)⟩:=by unfold raiseB; rw [if_pos hlt,hcd]
                 have hkX : k0 < X.length:=by omega
                 have hw1 : IntKind.i64.wrap (c.hi + D) = c.hi + D:=by rw [zI] <;> omega
                 have hw2 : IntKind.i64.wrap (c.hi + D - hiS X) = c.hi + D - hiS X:=by rw [zI] <;> omega
                 repeat refine zq ?_
                 refine zg follows (by decide +kernel) (by kernel_rfl) fun K hK=>?_
                 simp only [go_sem,k4,k5,hki,hkl,hlk,his,hc1,hkX,hXl,bedR,List.length_map]
                 (try simp (disch:=omega) only [zI])
                 try simp only [go_sem,hw1,hw2,his,hki,hkl,hnl]
                 repeat first | intro _ | refine ⟨by omega,?_⟩ | refine ⟨⟨by omega,by omega⟩,?_⟩
                 refine hK _ ?_
                 clear hK K
                 refine ⟨(),zj [] ?_ ?_⟩
                 · try simp only [go_sem]
                 · simp only [go_sem,hrz,List.map_set]
                   rfl
               · have hnl2 : ¬ hiS X < D:=by simpa using hc
                 have hrz : raiseB D X (restK x X) = X:=by unfold raiseB; rw [if_neg hnl2]
                 rw [hrz]
                 refine zx ?_
                 try simp only [go_sem]
                 refine ⟨(),zj [] ?_ ?_⟩
                 · try simp only [go_sem]
                 · try simp only [go_sem]
             clear htk hal2 hsn hsu hle
             intro _ vs _
             have hX2:=hX.raise hDb (restK x X) (by omega)
             generalize raiseB D X (restK x X) = Y at hX2 hfx0 ⊢
             repeat refine zq ?_
             refine zb (by kernel_rfl) fun K hK=>?_
             simp only [go_sem]
             (try simp (disch:=omega) only [zI])
             repeat first | intro _ | refine ⟨by omega,?_⟩ | refine ⟨⟨by omega,by omega⟩,?_⟩
             refine hK _ ?_
             clear hK K
             refine zw (zk [2,4,5,15,16,21]) ?_
             simp only [go_sem]
             repeat refine zq ?_
             refine zd ?_
             refine awp_uptoV (n:=268) (A i).beds.length (fun k vs=>[(2,.r (.rp (lwC x))),(4,.pt 4 (vs 4) 0),(5,.pt 5 (vs 5) 0),(15,.r (i64 (i : Int))),(16,.os (i + 600) (vs (i + 600)) 3 0 (A i).beds.length),(21,.r (i64 (k : Int)))])
              (fun k vs=>(4,.box [.r (i64 0),.r .ns]) :: (5,.box [.r (i64 D),.os κ (vs κ) 2 0 N]) :: (κ,.ara 36 2 (araG A vs N)) :: fam (upd F i (.arr 67 3 ((raiseN D Y k).map bedR))) N) (fun _=>True) 0 (zj [] ?_ ?_) (Nat.zero_le _) trivial ?_
             · try simp only [go_sem]
             · try simp only [go_sem]
               rfl
             · clear hXl hXh hX hxk
               intro k vs hk _
               have hX:=hX2.raiseN hDb k hk
               have hrs : raiseN D Y (k + 1) = raiseB D (raiseN D Y k) k:=rfl
               generalize hXe : raiseN D Y k = X at hX hrs ⊢
               have hXl:=hX.len
               have hXh:=hX.hi hlen.2
               have hsu:=sumsA_ok ⟨(A i).at_,X⟩ (fun c hc=>by have:=hX.each c hc; omega) (by show X.length ≤ 1000; omega)
               simp only at hsu
               have htk:=araG_take (A:=A) (v:=vs) hci
               have hal2 : (araG A vs N).length = N * 2:=araG_len
               have hsn : List.take (A i).beds.length (List.map bedR X) = List.map bedR X:=List.take_of_length_le (by simp; omega)
               have hle : (A i).beds.length ≤ X.length:=by omega
               repeat refine zq ?_
               refine zb (by kernel_rfl) fun K hK=>?_
               simp only [go_sem]
               (try simp (disch:=omega) only [zI])
               repeat first | intro _ | refine ⟨by omega,?_⟩ | refine ⟨⟨by omega,by omega⟩,?_⟩
               refine hK _ ?_
               clear hK K
               refine zw (zk [2,4,5,15,16,21,232]) ?_
               simp only [go_sem]
               repeat refine zq ?_
               refine zc rfl (fun hc=>?_) (fun hc=>?_) <;> (try simp only [go_sem] at hc)
               · have hck : k < (A i).beds.length:=by omega
                 refine zx ?_
                 try simp only [go_sem]
                 repeat refine zq ?_
                 refine zd ?_
                 repeat refine zq ?_
                 refine zb (by kernel_rfl) fun K hK=>?_
                 simp only [go_sem,k4,k5,htk,hci,hal2,hlk,hki]
                 (try simp (disch:=omega) only [zI])
                 refine ⟨by omega,?_⟩
                 refine zh (hsu) rfl (by simp only [go_sem,i64,ints,hlk,hki,hkl,hsn,List.drop_zero,List.length_map,hle]) (by simp only [go_sem,i64,ints,hlk,hki,hkl,hsn,List.drop_zero,List.length_map,hle]) (by first | exact .inl rfl | exact .inr rfl) ?_
                 (try simp only [go_sem,hlk,hki,hkl,hsn,List.drop_zero,List.length_map,hle])
                 (try simp (disch:=omega) only [zI])
                 repeat first | intro _ | refine ⟨by omega,?_⟩ | refine ⟨⟨by omega,by omega⟩,?_⟩
                 refine hK _ ?_
                 clear hK K
                 refine zw (zk [2,4,5,15,16,21,23]) ?_
                 simp only [go_sem]
                 repeat refine zq ?_
                 refine zb (by kernel_rfl) fun K hK=>?_
                 simp only [go_sem]
                 (try simp (disch:=omega) only [zI])
                 repeat first | intro _ | refine ⟨by omega,?_⟩ | refine ⟨⟨by omega,by omega⟩,?_⟩
                 refine hK _ ?_
                 clear hK K
                 refine zw (zk [2,4,5,15,16,21,23,247]) ?_
                 simp only [go_sem]
                 repeat refine zq ?_
                 refine zc rfl (fun hc=>?_) (fun hc=>?_) <;> (try simp only [go_sem] at hc)
                 · have hlt : hiS X < D:=by simpa using hc
                   have hXl:=hX.len
                   obtain ⟨c,hc1⟩:=opt_of_lt (show k < X.length by omega)
                   have hcX:=hX.each c (mem_of_opt hc1)
                   have hcd : X.getD (k) ⟨0,0,0⟩ = c:=by simp [List.getD_eq_getElem?_getD,hc1]
                   have hrz : raiseB D X (k) = X.set (k) ⟨c.b,c.lo,min D (c.hi + D - hiS X)⟩:=by unfold raiseB; rw [if_pos hlt,hcd]
                   have hkX : k < X.length:=by omega
                   have hw1 : IntKind.i64.wrap (c.hi + D) = c.hi + D:=by rw [zI] <;> omega
                   have hw2 : IntKind.i64.wrap (c.hi + D - hiS X) = c.hi + D - hiS X:=by rw [zI] <;> omega
                   repeat refine zq ?_
                   refine zg follows (by decide +kernel) (by kernel_rfl) fun K hK=>?_
                   simp only [go_sem,k4,k5,hki,hkl,hlk,his,hc1,hkX,hXl,bedR,List.length_map]
                   (try simp (disch:=omega) only [zI])
                   try simp only [go_sem,hw1,hw2,his,hki,hkl,hnl]
                   repeat first | intro _ | refine ⟨by omega,?_⟩ | refine ⟨⟨by omega,by omega⟩,?_⟩
                   refine hK _ ?_
                   clear hK K
                   refine zw (zk [2,4,5,15,16,21]) ?_
                   simp only [go_sem]
                   repeat refine zq ?_
                   refine zb (by kernel_rfl) fun K hK=>?_
                   simp only [go_sem]
                   (try simp (disch:=omega) only [zI])
                   repeat first | intro _ | refine ⟨by omega,?_⟩ | refine ⟨⟨by omega,by omega⟩,?_⟩
                   refine hK _ ?_
                   clear hK K
                   try simp only [go_sem]
                   refine ⟨by omega,zj [] ?_ ?_⟩
                   · try simp only [go_sem]
                   · simp only [go_sem,hrs,hrz,List.map_set]
                     rfl
                 · have hnl2 : ¬ hiS X < D:=by simpa using hc
                   have hrz : raiseB D X k = X:=by unfold raiseB; rw [if_neg hnl2]
                   refine zx ?_
                   try simp only [go_sem]
                   repeat refine zq ?_
                   refine zb (by kernel_rfl) fun K hK=>?_
                   simp only [go_sem]
                   (try simp (disch:=omega) only [zI])
                   repeat first | intro _ | refine ⟨by omega,?_⟩ | refine ⟨⟨by omega,by omega⟩,?_⟩
                   refine hK _ ?_
                   clear hK K
                   try simp only [go_sem]
                   refine ⟨by omega,zj [] ?_ ?_⟩
                   · try simp only [go_sem]
                   · simp only [go_sem,hrs,hrz]
               · have hke : k = (A i).beds.length:=by omega
                 refine zf ?_
                 simp only [go_sem]
                 refine zw (zk [2,4,5,15]) ?_
                 simp only [go_sem]
                 repeat refine zq ?_
                 refine zb (by kernel_rfl) fun K hK=>?_
                 simp only [go_sem]
                 (try simp (disch:=omega) only [zI])
                 repeat first | intro _ | refine ⟨by omega,?_⟩ | refine ⟨⟨by omega,by omega⟩,?_⟩
                 refine hK _ ?_
                 clear hK K
                 try simp only [go_sem]
                 refine ⟨by omega,zj [] ?_ ?_⟩
                 · try simp only [go_sem]
                 · simp only [go_sem,tlR]
                   have hXf : X = fixM x D (A i).beds:=by rw [← hXe,hke,hfx0]
                   have hff : fam (upd F i (.arr 67 3 (X.map bedR))) N = fam (famG (fixA x D A (i + 1))) N:=fam_congr fun j hj=>by
                    unfold upd
                    split
                    · rename_i e; subst e
                      unfold famG fixA
                      rw [if_pos (by omega),hXf]
                    · rename_i e
                      rw [hF]
                      unfold famG fixA
                      by_cases h : j < i
                      · rw [if_pos h,if_pos (by omega)]
                      · rw [if_neg h,if_neg (by omega)]
                   rw [hff]
       · have hie : i = N:=by omega
         subst hie
         have hfl : ∀ j,(fixM x D (A j).beds).length = (A j).beds.length:=fun j=>by
          have hrl : ∀ (X : List Bd) k,(raiseB D X k).length = X.length:=fun X k=>by unfold raiseB; split <;> simp
          have hrn : ∀ (X : List Bd) k,(raiseN D X k).length = X.length:=fun X k=>by
           induction k with
           | zero=>rfl
           | succ k ih=>simp only [raiseN,hrl,ih]
          unfold fixM
          rw [hrn,hrl]; simp [capB]
         refine zf ?_
         simp only [go_sem]
         refine zw (zk [4,5]) ?_
         simp only [go_sem]
         obtain ⟨vs',hv,hs⟩:=frz_fam (n:=268) (l:=[(4,AV.pt 4 (vs 4) 0),(5,AV.pt 5 (vs 5) 0)]) (κ:=κ) (A:=A) (F:=fixA x D A i) (c4:=.box [.r (i64 0),.r .ns]) (c5:=.box [.r (i64 D),.os κ (vs κ) 2 0 i]) (by omega) (by omega) i (by omega) (fun j hj=>by unfold fixA; rw [if_pos hj]; exact hfl j) vs []
         rw [List.append_nil,List.append_nil] at hs
         refine zw hs ?_
         have hv4:=hv 4 (by omega)
         have hv5:=hv 5 (by omega)
         have hvκ:=hv κ (by omega)
         rw [← hv4,← hv5,← hvκ]
         have hrr : rawM x most = (List.range i).map A:=by
          refine List.ext_getElem (by rw [List.length_map,List.length_range,hN]; rfl) fun j h1 h2=>?_
          rw [List.getElem_map,List.getElem_range,hA]
          unfold rawA
          rw [List.getD_eq_getElem?_getD,List.getElem?_eq_getElem h1]; rfl
         have hes : plF A (fixA x D A i) i = (((aimsM x most).map aimR).flatten).map .r:=by
          rw [plF_flat]
          unfold aimsM
          rw [← hD,hrr,List.map_map,List.map_map]
          congr 2
          refine List.map_congr_left fun j hj=>?_
          have hji:=List.mem_range.1 hj
          unfold fixA
          rw [if_pos hji]
          rfl
         have hel : (aimsM x most).length = i:=by unfold aimsM; rw [List.length_map,hN]; rfl
         refine zw (sub_arr κ (ty:=36) (sz:=2) ((aimsM x most).map aimR) (by simp only [lookc_cons,k4,k5,if_false,if_true]) hes (fun e he=>by obtain ⟨a,_,rfl⟩:=List.mem_map.1 he; rfl) (by omega)) ?_
         simp only [insc,k4,k5,kl4,kl5,if_false,if_true]
         refine zw (sub_frzB 5 1 κ (ty:=36) (sz:=2) (off:=0) (m:=i) (es:=(aimsM x most).map aimR) (cells:=[.r (i64 D),.os κ (vs' κ) 2 0 i]) (by omega) (by omega) rfl rfl (by simp only [lookc_cons,k4,k5,if_false,if_true]) (by simp [hel])) ?_
         have e3 : (((aimsM x most).map aimR).drop 0).take i = (aimsM x most).map aimR:=by
          rw [List.drop_zero,List.take_of_length_le (by simp [hel])]
         rw [e3]
         simp only [insc,delc,k4,k5,kl4,kl5,k4',k5',if_false,if_true,List.set_cons_succ,List.set_cons_zero]
         repeat refine zq ?_
         refine zb (by kernel_rfl) fun K hK=>?_
         simp only [go_sem,k4',k5']
         (try simp (disch:=omega) only [zI])
         repeat first | intro _ | refine ⟨by omega,?_⟩ | refine ⟨⟨by omega,by omega⟩,?_⟩
         refine hK _ ?_
         clear hK K
         refine zw (zk [4]) ?_
         simp only [go_sem]
         rw [← hD]
         refine ze ?_
         simp only [go_sem]
theorem make1_tail (x : Lw) (hx : WfLw x) (most : Int) (hm : 0 ≤ most ∧ most ≤ 100) (c : Code) (hc : third Try.f31.body = some c) (C : Ctx) (vs : Nat → Nat) : awp Try.prog C c (fpostL Try.prog [.cell 4 24] [lawV (denM x most) (aimsM x most)]) (st 268 [(2,.r (.rp (lwC x))),(4,.pt 4 (vs 4) 0),(5,.pt 5 (vs 5) 0)] vs (mkR x most (cntM x) vs)):=by
 obtain ⟨c0,h0,hw⟩:=tail_ex x hx most hm
 have e : c = c0:=Option.some.inj (hc.symm.trans h0)
 rw [e]
 exact hw C vs
end Go.Proofs.Ytgkejinoaommeaa

namespace Go.Proofs.Ytgkejinoaommeaa
open Go Go.Oc
set_option linter.unusedSimpArgs false
set_option linter.unusedVariables false
set_option maxRecDepth 8000
set_option maxHeartbeats 2000000
theorem make1_ok (x : Lw) (hx : WfLw x) (most : Int) (hm : 0 ≤ most ∧ most ≤ 100) : ACalls Try.prog 31 [.ag (lwC x),i64 most] (lawV (denM x most) (aimsM x most)):=by
 refine acalls_st (rs:=[lawV (denM x most) (aimsM x most)]) [.cell 4 24] Try.func31 rfl (by kernel_rfl) Try.ntmps31 rfl (by simp) rfl fun C vs=>?_
 repeat refine zq ?_
 refine zb (by kernel_rfl) fun K hK=>?_
 simp only [go_sem]
 (try simp (disch:=omega) only [zI])
 repeat first | intro _ | refine ⟨by omega,?_⟩ | refine ⟨⟨by omega,by omega⟩,?_⟩
 refine hK _ ?_
 clear hK K
 refine zw (sub_frzP 2 2 (lwC x) (by omega) rfl rfl) ?_
 refine zw (zk [1,2,4]) ?_
 simp only [go_sem]
 repeat refine zq ?_
 refine zb (by kernel_rfl) fun K hK=>?_
 simp only [go_sem]
 (try simp (disch:=omega) only [zI])
 refine zh (mbeds_ok) rfl (by simp only [go_sem,i64,ints]) (by simp only [go_sem,i64,ints]) (by first | exact .inl rfl | exact .inr rfl) ?_
 (try simp only [go_sem])
 (try simp (disch:=omega) only [zI])
 repeat first | intro _ | refine ⟨by omega,?_⟩ | refine ⟨⟨by omega,by omega⟩,?_⟩
 refine hK _ ?_
 clear hK K
 refine zw (zk [1,2,4,5,6,7]) ?_
 simp only [go_sem]
 repeat refine zq ?_
 refine zb (by kernel_rfl) fun K hK=>?_
 simp only [go_sem]
 (try simp (disch:=omega) only [zI])
 repeat first | intro _ | refine ⟨by omega,?_⟩ | refine ⟨⟨by omega,by omega⟩,?_⟩
 refine hK _ ?_
 clear hK K
 refine zw (zk [1,2,4,5,6,7,8]) ?_
 simp only [go_sem]
 repeat refine zq ?_
 refine zd ?_
 refine awp_uptoV (n:=268) (cntM x) (fun i vs=>[(1,.r (i64 most)),(2,.r (.rp (lwC x))),(4,.pt 4 (vs 4) 0),(5,.pt 5 (vs 5) 0),(6,.r (ints beds13)),(7,.r (i64 (nM x most i))),(8,.r (i64 (i : Int)))])
  (mkR x most) (fun _=>True) 0 (zj [] ?_ ?_) (Nat.zero_le _) trivial ?_
 · try simp only [go_sem]
   rfl
 · simp only [mkR,mkX,mkA,if_true,fam,List.nil_append]
   try simp only [go_sem]
 · intro i vs hi _
   have hi6 : i ≤ 6:=by unfold cntM at hi; omega
   have hF : ∀ a c cs,lookc ((a,c) :: cs) (i + 600) = if i + 600 = a then c else lookc cs (i + 600):=fun _ _ _=>rfl
   by_cases hcw : i < cntM x
   · have hci : i < x.which.length:=by unfold cntM at hcw; omega
     have hci6 : i < 6:=by unfold cntM at hcw; omega
     have e1 : decide ((i : Int) < (x.which.length : Int)) = true:=by simpa using hci
     have e1' : decide (i < x.which.length) = true:=by simpa using hci
     have e2 : decide ((i : Int) < 6) = true:=by simp; omega
     repeat refine zq ?_
     refine zb (by kernel_rfl) fun K hK=>?_
     simp only [go_sem,e1,e1',e2]
     (try simp (disch:=omega) only [zI])
     repeat first | intro _ | refine ⟨by omega,?_⟩ | refine ⟨⟨by omega,by omega⟩,?_⟩
     refine hK _ ?_
     clear hK K
     refine zw (zk [1,2,4,5,6,7,8,34]) ?_
     simp only [go_sem]
     repeat refine zq ?_
     refine zc rfl (fun hc=>?_) (fun hc=>?_) <;> (try simp only [go_sem] at hc)
     refine zx ?_
     try simp only [go_sem]
     repeat refine zq ?_
     refine zd ?_
     have hmod : (i : Int).tmod 12 = ((i % 12 : Nat) : Int):=by rw [Int.tmod_eq_emod_of_nonneg (by omega)]; rfl
     have hbt : beds13[1 + i % 12]? = some (atM i):=by
      have hl : 1 + i % 12 < beds13.length:=by have:=Nat.mod_lt i (show 0 < 12 by omega); show _ < 13; omega
      unfold atM bedT
      rw [List.getD_eq_getElem?_getD,List.getElem?_eq_getElem hl]; rfl
     have hnl : ∀ a,a ≤ 600 → (i + 600 < a) = False:=fun a h=>by simp only [eq_iff_iff,iff_false]; omega
     have htn : (1 + ((i % 12 : Nat) : Int)).toNat = 1 + i % 12:=by omega
     have hb13 : beds13.length = 13:=rfl
     have hm12:=Nat.mod_lt i (show 0 < 12 by omega)
     have t1 : ∀ c,insc (mkA x most i vs ++ fam (mkG x most) i) 9 c = (9,c) :: (mkA x most i vs ++ fam (mkG x most) i):=fun c=>tl_ins (by omega)
     have t2 : ∀ c,insc (mkA x most i vs ++ fam (mkG x most) i) (i + 600) c = mkA x most i vs ++ fam (upd (mkG x most) i c) (i + 1):=fun c=>tl_insN
     simp only [mkR]
     repeat refine zq ?_
     refine zb (by kernel_rfl) fun K hK=>?_
     simp only [go_sem,hmod,htn,hbt,hb13,t1]
     (try simp (disch:=omega) only [zI])
     simp only [go_sem,htn,hbt,t1,List.headD_cons,List.length_cons,List.length_nil]
     repeat first | intro _ | refine ⟨by omega,?_⟩ | refine ⟨⟨by omega,by omega⟩,?_⟩
     refine hK _ ?_
     clear hK K
     refine zw (zk [1,2,4,5,6,7,8,9]) ?_
     simp only [go_sem]
     repeat refine zq ?_
     refine zb (by kernel_rfl) fun K hK=>?_
     simp only [go_sem]
     (try simp (disch:=omega) only [zI])
     repeat first | intro _ | refine ⟨by omega,?_⟩ | refine ⟨⟨by omega,by omega⟩,?_⟩
     refine hK _ ?_
     clear hK K
     refine zw (zk [1,2,4,5,6,7,8,9,10]) ?_
     simp only [go_sem]
     refine zw (sub_ownB 9 1 (i + 600) 67 3 (cells:=[.r (i64 (atM i)),.r .ns]) (by omega) (by omega) rfl rfl) ?_
     simp only [go_sem,t2,hnl,Nat.reduceLeDiff]
     obtain ⟨w,hw⟩ : ∃ w,w = x.which.getD i 0:=⟨_,rfl⟩
     have hwi : x.which[i]? = some w:=by rw [hw,List.getD_eq_getElem?_getD,List.getElem?_eq_getElem hci]; rfl
     have hwb:=hx.which w (mem_of_opt hwi)
     have m1 : ∀ v a,mkA x most i (upd v 9 a) = mkA x most i v:=fun v a=>mkA_upd (.inl (by omega))
     have m2 : ∀ v a,mkA x most i (upd v (i + 600) a) = mkA x most i v:=fun v a=>mkA_upd (.inr (by omega))
     have m3 : ∀ v a,mkX i (upd v 9 a) = mkX i v:=fun v a=>mkX_upd (by omega)
     have m4 : ∀ v a,mkX i (upd v (i + 600) a) = mkX i v:=fun v a=>mkX_upd (by omega)
     have hit : ∀ k,(iterM x most w (nM x most i) k).1.length ≤ 10 ∨ 13 < k:=fun k=>by
      by_cases h : k ≤ 13
      · exact .inl (iterM_ok hx hm.1 w _ k h).len
      · exact .inr (by omega)
     repeat refine zq ?_
     refine zd ?_
     refine awp_uptoV (n:=268) 13 (fun k vs=>[(1,.r (i64 most)),(2,.r (.rp (lwC x))),(4,.pt 4 (vs 4) 0),(5,.pt 5 (vs 5) 0),(6,.r (ints beds13)),(7,.r (i64 ((iterM x most w (nM x most i) k).2 : Int))),(8,.r (i64 (i : Int))),(9,.pt 9 (vs 9) 0),(10,.r (i64 (k : Int)))])
      (fun k vs=>(4,.box [.r (i64 0),.r .ns]) :: (5,.box [.r (i64 0),mkX i vs]) :: (9,.box [.r (i64 (atM i)),.os (i + 600) (vs (i + 600)) 3 0 (iterM x most w (nM x most i) k).1.length]) :: (mkA x most i vs ++ fam (upd (mkG x most) i (.arr 67 3 ((iterM x most w (nM x most i) k).1.map bedR))) (i + 1))) (fun _=>True) 0 (zj [] ?_ ?_) (Nat.zero_le _) trivial ?_
     · try simp only [go_sem]
       rfl
     · simp only [go_sem,m1,m2,m3,m4,upd_same]
       rfl
     · intro k vs hk _
       obtain ⟨l,hl⟩ : ∃ l,l = (iterM x most w (nM x most i) k).1:=⟨_,rfl⟩
       obtain ⟨n,hn⟩ : ∃ n,n = (iterM x most w (nM x most i) k).2:=⟨_,rfl⟩
       have hI:=iterM_ok hx hm.1 w (nM x most i) k hk
       rw [← hl] at hI
       have hlen:=hI.len
       have hnb:=iterM_n x most w (nM x most i) k
       have hnb2:=nM_le x most i
       rw [← hn] at hnb
       have hstep : iterM x most w (nM x most i) (k + 1) = addM x most w k (l,n):=by rw [hl,hn]; rfl
       rw [← hl,← hn]
       have tl1 : ∀ v c,lookc (mkA x most i v ++ fam (upd (mkG x most) i c) (i + 1)) (i + 600) = c:=fun v c=>by rw [tl_look (by omega),upd_same]
       have ti1 : ∀ v c d,insc (mkA x most i v ++ fam (upd (mkG x most) i c) (i + 1)) (i + 600) d = mkA x most i v ++ fam (upd (mkG x most) i d) (i + 1):=fun v c d=>by rw [tl_insI (by omega),upd_upd]
       by_cases hcond : k < 13 ∧ l.length < 10
       · have e3 : decide ((k : Int) < 13) = true:=by simp; omega
         have e4 : decide ((l.length : Int) < 10) = true:=by simp; omega
         repeat refine zq ?_
         refine zb (by kernel_rfl) fun K hK=>?_
         simp only [go_sem,e3,e4]
         (try simp (disch:=omega) only [zI])
         repeat first | intro _ | refine ⟨by omega,?_⟩ | refine ⟨⟨by omega,by omega⟩,?_⟩
         refine hK _ ?_
         clear hK K
         refine zw (zk [1,2,4,5,6,7,8,9,10,51]) ?_
         simp only [go_sem]
         repeat refine zq ?_
         refine zc rfl (fun hc=>?_) (fun hc=>?_) <;> (try simp only [go_sem] at hc)
         refine zx ?_
         try simp only [go_sem]
         repeat refine zq ?_
         refine zd ?_
         repeat refine zq ?_
         refine awp_joinV (n:=268) (fun (_ : Unit) vs=>[(1,.r (i64 most)),(2,.r (.rp (lwC x))),(4,.pt 4 (vs 4) 0),(5,.pt 5 (vs 5) 0),(6,.r (ints beds13)),(7,.r (i64 (n : Int))),(8,.r (i64 (i : Int))),(9,.pt 9 (vs 9) 0),(10,.r (i64 (k : Int))),(73,.r (.bo (decide (hasB w k = true ∨ (k = 12 ∧ l.length = 0)))))]) (fun _ vs=>(4,.box [.r (i64 0),.r .ns]) :: (5,.box [.r (i64 0),mkX i vs]) :: (9,.box [.r (i64 (atM i)),.os (i + 600) (vs (i + 600)) 3 0 l.length]) :: (mkA x most i vs ++ fam (upd (mkG x most) i (.arr 67 3 (l.map bedR))) (i + 1))) (fun _=>True) (fun _ h=>h) ?_ ?_
         · cases hB : hasB w k with
           | true =>
             have hB' : (bitAnd IntKind.u16 (shrI IntKind.u16 w (IntKind.u64.wrap (k : Int))) 1 == 1) = true:=hB
             repeat refine zq ?_
             refine zb (by kernel_rfl) fun K hK=>?_
             simp only [go_sem,hwi,hci,hB']
             (try simp (disch:=omega) only [zI])
             repeat first | intro _ | refine ⟨by omega,?_⟩ | refine ⟨⟨by omega,by omega⟩,?_⟩
             refine hK _ ?_
             clear hK K
             refine ⟨(),trivial,zj [] ?_ ?_⟩
             · try simp only [go_sem]
               try simp
             · try simp only [go_sem]
           | false =>
             have hB' : (bitAnd IntKind.u16 (shrI IntKind.u16 w (IntKind.u64.wrap (k : Int))) 1 == 1) = false:=hB
             by_cases hk12 : k = 12
             · have e5 : ((k : Int) == 12) = true:=by simp; omega
               repeat refine zq ?_
               refine zb (by kernel_rfl) fun K hK=>?_
               simp only [go_sem,hwi,hci,hB',e5]
               (try simp (disch:=omega) only [zI])
               repeat first | intro _ | refine ⟨by omega,?_⟩ | refine ⟨⟨by omega,by omega⟩,?_⟩
               refine hK _ ?_
               clear hK K
               refine ⟨(),trivial,zj [] ?_ ?_⟩
               · try simp only [go_sem]
                 simp [hk12,Bool.beq_eq_decide_eq]
               · try simp only [go_sem]
             · have e5 : ((k : Int) == 12) = false:=by simp; omega
               repeat refine zq ?_
               refine zb (by kernel_rfl) fun K hK=>?_
               simp only [go_sem,hwi,hci,hB',e5]
               (try simp (disch:=omega) only [zI])
               repeat first | intro _ | refine ⟨by omega,?_⟩ | refine ⟨⟨by omega,by omega⟩,?_⟩
               refine hK _ ?_
               clear hK K
               refine ⟨(),trivial,zj [] ?_ ?_⟩
               · try simp only [go_sem]
                 simp [hk12]
               · try simp only [go_sem]
         intro _ vs _
         repeat refine zq ?_
         refine zc rfl (fun hc=>?_) (fun hc=>?_) <;> (try simp only [go_sem] at hc)
         · have hadd : iterM x most w (nM x most i) (k + 1) = (l ++ [⟨bedT k,byteL x.low n % (most + 1),byteL x.low n % (most + 1) + byteL x.more n % (most + 1)⟩],n + 1):=by
            rw [hstep]; unfold addM; rw [if_pos ⟨hcond.2,by simpa using hc⟩]
           have bl:=byteL_le hx.low n
           have bm:=byteL_le hx.more n
           have hbo1:=mbyteOf_ok x.low n
           have hbo2:=mbyteOf_ok x.more n
           have hm1 : (most + 1 == 0) = false:=by simp; omega
           have hm2 : most + 1 ≠ 0:=by omega
           have l1:=Int.emod_nonneg (byteL x.low n) hm2
           have l2:=Int.emod_lt_of_pos (byteL x.low n) (show 0 < most + 1 by omega)
           have n1:=Int.emod_nonneg (byteL x.more n) hm2
           have n2:=Int.emod_lt_of_pos (byteL x.more n) (show 0 < most + 1 by omega)
           have ht1 : (byteL x.low n).tmod (most + 1) = byteL x.low n % (most + 1):=Int.tmod_eq_emod_of_nonneg bl.1
           have ht2 : (byteL x.more n).tmod (most + 1) = byteL x.more n % (most + 1):=Int.tmod_eq_emod_of_nonneg bm.1
           obtain ⟨lo,hlo⟩ : ∃ lo,lo = byteL x.low n % (most + 1):=⟨_,rfl⟩
           obtain ⟨mo,hmo⟩ : ∃ mo,mo = byteL x.more n % (most + 1):=⟨_,rfl⟩
           rw [← hlo] at l1 l2 ht1 hadd
           rw [← hmo] at n1 n2 ht2 hadd
           have hto:=mto_ok lo (lo + mo)
           have hk13:=hcond.1
           have hkb : beds13[k]? = some (bedT k):=by
            have hl : k < beds13.length:=by show k < 13; omega
            unfold bedT
            rw [List.getD_eq_getElem?_getD,List.getElem?_eq_getElem hl]; rfl
           repeat refine zq ?_
           refine zb (by kernel_rfl) fun K hK=>?_
           simp only [go_sem]
           (try simp (disch:=omega) only [zI])
           refine zh (hbo1) rfl (by simp only [go_sem,i64,ints]) (by simp only [go_sem,i64,ints]) (by first | exact .inl rfl | exact .inr rfl) ?_
           (try simp only [go_sem])
           (try simp (disch:=omega) only [zI])
           try simp only [go_sem,ht1,hm1]
           repeat first | intro _ | refine ⟨by omega,?_⟩ | refine ⟨⟨by omega,by omega⟩,?_⟩
           refine hK _ ?_
           clear hK K
           refine zw (zk [1,2,4,5,6,7,8,9,10,11]) ?_
           simp only [go_sem]
           repeat refine zq ?_
           refine awp_dreg3 [(9,some 9),(6,none),(10,none),(11,none),(2,none),(7,none),(1,none)] [9] follows (by decide +kernel) (by kernel_rfl) (by simp only [keysOk,List.mem_cons,List.not_mem_nil,forall_eq_or_imp,Oc.keyOf,go_sem]; simp) (by intro k hk; simp only [List.mem_cons,List.not_mem_nil,or_false] at hk; first | (subst hk; exact ⟨_,rfl⟩) | (rcases hk with rfl | rfl <;> exact ⟨_,rfl⟩) | (rcases hk with rfl | rfl | rfl <;> exact ⟨_,rfl⟩)) fun K hK=>?_
           simp only [go_sem,hkb,hb13,hk13]
           (try simp (disch:=omega) only [zI])
           refine ⟨by omega,?_⟩
           refine zh (hbo2) rfl (by simp only [go_sem,i64,ints]) (by simp only [go_sem,i64,ints]) (by first | exact .inl rfl | exact .inr rfl) ?_
           (try simp only [go_sem])
           (try simp (disch:=omega) only [zI])
           try simp only [go_sem,ht2,hm1]
           try simp (disch:=omega) only [zI]
           refine ⟨hm2,?_⟩
           refine zh (hto) rfl (by simp only [go_sem,i64,ints]) (by simp only [go_sem,i64,ints]) (by first | exact .inl rfl | exact .inr rfl) ?_
           (try simp only [go_sem])
           (try simp (disch:=omega) only [zI])
           try simp only [go_sem,tl1,ti1,hnl,Nat.reduceLeDiff,List.length_map]
           repeat first | intro _ | refine ⟨by omega,?_⟩ | refine ⟨⟨by omega,by omega⟩,?_⟩
           refine hK _ ?_
           clear hK K
           refine zw (zk [1,2,4,5,6,7,8,9,10]) ?_
           simp only [go_sem]
           repeat refine zq ?_
           refine zb (by kernel_rfl) fun K hK=>?_
           simp only [go_sem]
           (try simp (disch:=omega) only [zI])
           repeat first | intro _ | refine ⟨by omega,?_⟩ | refine ⟨⟨by omega,by omega⟩,?_⟩
           refine hK _ ?_
           clear hK K
           refine zw (zk [1,2,4,5,6,7,8,9,10]) ?_
           simp only [go_sem]
           repeat refine zq ?_
           refine zb (by kernel_rfl) fun K hK=>?_
           simp only [go_sem]
           (try simp (disch:=omega) only [zI])
           repeat first | intro _ | refine ⟨by omega,?_⟩ | refine ⟨⟨by omega,by omega⟩,?_⟩
           refine hK _ ?_
           clear hK K
           try simp only [go_sem]
           refine ⟨by omega,zj [] ?_ ?_⟩
           · try simp only [go_sem]
             rw [hadd]
             simp only
             omega
           · simp only [go_sem,m1,m2,m3,m4,upd_same,hadd,List.length_append,List.length_cons,List.length_nil,List.map_append,List.map_cons,List.map_nil]
             rfl
         · have hadd : iterM x most w (nM x most i) (k + 1) = (l,n):=by
            have hnc : ¬ (hasB w k = true ∨ (k = 12 ∧ l.length = 0)):=by simpa using hc
            rw [hstep]; unfold addM; rw [if_neg fun h=>hnc h.2]
           refine zx ?_
           try simp only [go_sem]
           repeat refine zq ?_
           refine zb (by kernel_rfl) fun K hK=>?_
           simp only [go_sem]
           (try simp (disch:=omega) only [zI])
           repeat first | intro _ | refine ⟨by omega,?_⟩ | refine ⟨⟨by omega,by omega⟩,?_⟩
           refine hK _ ?_
           clear hK K
           try simp only [go_sem]
           refine ⟨by omega,zj [] ?_ ?_⟩
           · try simp only [go_sem]
             rw [hadd]
           · try simp only [go_sem]
             rw [hadd]
       · have hend : bedsM x most i = l ∧ nM x most (i + 1) = n:=by
          have e : iterM x most w (nM x most i) 13 = iterM x most w (nM x most i) k:=by
           by_cases h13 : k < 13
           · have:=iterM_full (x:=x) (most:=most) (w:=w) (n:=nM x most i) (k:=k) (by rw [← hl]; omega) (13 - k)
             rw [show k + (13 - k) = 13 by omega] at this
             exact this
           · rw [show k = 13 by omega]
          rw [hl,hn,← e]
          unfold bedsM
          simp only [nM,← hw,and_self]
         have hxc : (51,AV.r (.bo false)) = (51,AV.r (.bo false)):=rfl
         repeat refine zq ?_
         refine awp_joinV (n:=268) (fun (_ : Unit) vs=>[(1,.r (i64 most)),(2,.r (.rp (lwC x))),(4,.pt 4 (vs 4) 0),(5,.pt 5 (vs 5) 0),(6,.r (ints beds13)),(7,.r (i64 (n : Int))),(8,.r (i64 (i : Int))),(9,.pt 9 (vs 9) 0),(10,.r (i64 (k : Int))),(51,.r (.bo false))]) (fun _ vs=>(4,.box [.r (i64 0),.r .ns]) :: (5,.box [.r (i64 0),mkX i vs]) :: (9,.box [.r (i64 (atM i)),.os (i + 600) (vs (i + 600)) 3 0 l.length]) :: (mkA x most i vs ++ fam (upd (mkG x most) i (.arr 67 3 (l.map bedR))) (i + 1))) (fun _=>True) (fun _ h=>h) ?_ ?_
         · by_cases h13 : k < 13
           · have e3 : decide ((k : Int) < 13) = true:=by simp; omega
             have e4 : decide ((l.length : Int) < 10) = false:=by simp; omega
             repeat refine zq ?_
             refine zb (by kernel_rfl) fun K hK=>?_
             simp only [go_sem,e3,e4]
             (try simp (disch:=omega) only [zI])
             repeat first | intro _ | refine ⟨by omega,?_⟩ | refine ⟨⟨by omega,by omega⟩,?_⟩
             refine hK _ ?_
             clear hK K
             refine ⟨(),trivial,zj [] ?_ ?_⟩
             · try simp only [go_sem]
             · try simp only [go_sem]
           · have e3 : decide ((k : Int) < 13) = false:=by simp; omega
             repeat refine zq ?_
             refine zb (by kernel_rfl) fun K hK=>?_
             simp only [go_sem,e3]
             (try simp (disch:=omega) only [zI])
             repeat first | intro _ | refine ⟨by omega,?_⟩ | refine ⟨⟨by omega,by omega⟩,?_⟩
             refine hK _ ?_
             clear hK K
             refine ⟨(),trivial,zj [] ?_ ?_⟩
             · try simp only [go_sem]
             · try simp only [go_sem]
         clear hk hxc
         intro _ vs _
         repeat refine zq ?_
         refine zc rfl (fun hc=>?_) (fun hc=>?_) <;> (try simp only [go_sem] at hc)
         refine zf ?_
         simp only [go_sem]
         have hlen1:=bedsM_ne x most i
         have hG : RowC.arr 67 3 (l.map bedR) = mkG x most i:=by unfold mkG; rw [hend.1]
         rw [hend.1] at hlen1
         rcases Nat.eq_zero_or_pos i with h0 | h0
         · simp only [mkA,mkX,if_pos h0,List.nil_append]
           have dl : ∀ (F : Nat → RowC) n k,k < 600 → delc (fam F n) k = fam F n:=fun F n k h=>delc_fam_lt h
           have q1 : ∀ c,insc (fam (upd (mkG x most) i (.arr 67 3 (l.map bedR))) (i + 1)) 109 c = (109,c) :: fam (upd (mkG x most) i (.arr 67 3 (l.map bedR))) (i + 1):=fun c=>insc_fam_lt (by omega)
           have q2 : ∀ c,insc (fam (upd (mkG x most) i (.arr 67 3 (l.map bedR))) (i + 1)) 110 c = (110,c) :: fam (upd (mkG x most) i (.arr 67 3 (l.map bedR))) (i + 1):=fun c=>insc_fam_lt (by omega)
           repeat refine zq ?_
           refine awp_long ?_
           refine sops_take 3 (by kernel_rfl) fun K hK=>?_
           simp only [go_sem,List.take_succ_cons,List.take_zero,List.drop_succ_cons,List.drop_zero,List.append_eq,List.cons_append,List.nil_append]
           (try simp (disch:=omega) only [zI])
           repeat first | intro _ | refine ⟨by omega,?_⟩ | refine ⟨⟨by omega,by omega⟩,?_⟩
           refine hK _ rfl ?_
           clear hK K
           refine sops_sub (zk [1,2,4,5,6,7,8,107,108]) ?_
           simp only [go_sem]
           refine sops_litB (by simp [go_sem]) ?_
           simp only [go_sem,sLitBox,lay,List.replicate_succ,List.replicate_zero,List.flatten_cons,List.flatten_nil,List.map_cons,List.map_nil,List.cons_append,List.nil_append]
           repeat first | refine ⟨by omega,?_⟩ | refine ⟨⟨by omega,by omega⟩,?_⟩
           simp only [go_sem,hnl,q1]
           refine sops_appB (by simp [go_sem]) ?_
           simp only [go_sem,sAppB,List.length_cons,List.length_nil,decide_true,hnl,q1,q2]
           refine sops_end (by kernel_rfl) fun K hK=>?_
           simp only [go_sem,List.drop_succ_cons,List.drop_zero,List.append_eq,List.cons_append,List.nil_append]
           (try simp (disch:=omega) only [zI])
           try simp only [go_sem,hnl,q1,q2]
           repeat first | intro _ | refine ⟨by omega,?_⟩ | refine ⟨⟨by omega,by omega⟩,?_⟩
           refine hK _ ?_
           clear hK K
           refine zw (zk [1,2,4,5,6,7,8]) ?_
           simp only [go_sem]
           repeat refine zq ?_
           refine zb (by kernel_rfl) fun K hK=>?_
           simp only [go_sem]
           (try simp (disch:=omega) only [zI])
           repeat first | intro _ | refine ⟨by omega,?_⟩ | refine ⟨⟨by omega,by omega⟩,?_⟩
           refine hK _ ?_
           clear hK K
           try simp only [go_sem]
           refine ⟨by omega,zj [9,109] ?_ ?_⟩
           · try simp only [go_sem]
             rw [hend.2]
           · simp only [go_sem,dl,mkR,mkX,mkA,if_neg (show ¬ i + 1 = 0 by omega),List.cons_append,List.nil_append]
             rw [hG,upd_self,araC_upd (by omega),araC_upd (by omega),araC_upd (by omega),araC_upd (by omega),araC_upd (by omega)]
             simp only [araC,hend.1]
             subst h0
             rfl
         · have hi0 : ¬ i = 0:=by omega
           simp only [mkA,mkX,if_neg hi0,List.cons_append,List.nil_append]
           have dl : ∀ (F : Nat → RowC) n k,k < 600 → delc (fam F n) k = fam F n:=fun F n k h=>delc_fam_lt h
           have acl : (araC x most vs i).length = i * 2:=araC_len
           repeat refine zq ?_
           refine awp_long ?_
           refine sops_take 3 (by kernel_rfl) fun K hK=>?_
           simp only [go_sem,List.take_succ_cons,List.take_zero,List.drop_succ_cons,List.drop_zero,List.append_eq,List.cons_append,List.nil_append]
           (try simp (disch:=omega) only [zI])
           repeat first | intro _ | refine ⟨by omega,?_⟩ | refine ⟨⟨by omega,by omega⟩,?_⟩
           refine hK _ rfl ?_
           clear hK K
           refine sops_sub (zk [1,2,4,5,6,7,8,107,108]) ?_
           simp only [go_sem]
           refine sops_litB (by simp [go_sem]) ?_
           simp only [go_sem,sLitBox,lay,List.replicate_succ,List.replicate_zero,List.flatten_cons,List.flatten_nil,List.map_cons,List.map_nil,List.cons_append,List.nil_append]
           repeat first | refine ⟨by omega,?_⟩ | refine ⟨⟨by omega,by omega⟩,?_⟩
           try simp only [go_sem,hnl]
           refine sops_appB (by simp [go_sem]) ?_
           simp only [go_sem,sAppB,List.length_cons,List.length_nil,decide_true,hnl,acl]
           refine ⟨⟨by omega,by omega,by omega⟩,?_⟩
           refine sops_end (by kernel_rfl) fun K hK=>?_
           simp only [go_sem,List.drop_succ_cons,List.drop_zero,List.append_eq,List.cons_append,List.nil_append]
           (try simp (disch:=omega) only [zI])
           try simp only [go_sem,hnl]
           repeat first | intro _ | refine ⟨by omega,?_⟩ | refine ⟨⟨by omega,by omega⟩,?_⟩
           refine hK _ ?_
           clear hK K
           refine zw (zk [1,2,4,5,6,7,8]) ?_
           simp only [go_sem]
           repeat refine zq ?_
           refine zb (by kernel_rfl) fun K hK=>?_
           simp only [go_sem]
           (try simp (disch:=omega) only [zI])
           repeat first | intro _ | refine ⟨by omega,?_⟩ | refine ⟨⟨by omega,by omega⟩,?_⟩
           refine hK _ ?_
           clear hK K
           try simp only [go_sem]
           refine ⟨by omega,zj [9,109] ?_ ?_⟩
           · try simp only [go_sem]
             rw [hend.2]
           · simp only [go_sem,dl,mkR,mkX,mkA,if_neg (show ¬ i + 1 = 0 by omega),List.cons_append,List.nil_append]
             rw [hG,upd_self,araC_upd (by omega),araC_upd (by omega),araC_upd (by omega),araC_upd (by omega),araC_upd (by omega)]
             simp only [araC,hend.1]
   · have hie : i = cntM x:=by omega
     repeat refine zq ?_
     refine awp_joinV (n:=268) (fun (_ : Unit) vs=>[(2,.r (.rp (lwC x))),(4,.pt 4 (vs 4) 0),(5,.pt 5 (vs 5) 0),(34,.r (.bo false))]) (fun _ vs=>mkR x most i vs) (fun _=>True) (fun _ h=>h) ?_ ?_
     · simp only [mkR]
       by_cases h : i < x.which.length
       · have n1 : decide ((i : Int) < (x.which.length : Int)) = true:=by simpa using h
         have n1' : decide (i < x.which.length) = true:=by simpa using h
         have n2 : decide ((i : Int) < 6) = false:=by simp only [decide_eq_false_iff_not]; unfold cntM at hie; omega
         repeat refine zq ?_
         refine zb (by kernel_rfl) fun K hK=>?_
         simp only [go_sem,n1,n1',n2]
         (try simp (disch:=omega) only [zI])
         repeat first | intro _ | refine ⟨by omega,?_⟩ | refine ⟨⟨by omega,by omega⟩,?_⟩
         refine hK _ ?_
         clear hK K
         refine ⟨(),trivial,zj [] ?_ ?_⟩
         · try simp only [go_sem]
         · try simp only [go_sem]
       · have n1 : decide ((i : Int) < (x.which.length : Int)) = false:=by simp only [decide_eq_false_iff_not]; omega
         have n1' : decide (i < x.which.length) = false:=by simpa using h
         repeat refine zq ?_
         refine zb (by kernel_rfl) fun K hK=>?_
         simp only [go_sem,n1,n1']
         (try simp (disch:=omega) only [zI])
         repeat first | intro _ | refine ⟨by omega,?_⟩ | refine ⟨⟨by omega,by omega⟩,?_⟩
         refine hK _ ?_
         clear hK K
         refine ⟨(),trivial,zj [] ?_ ?_⟩
         · try simp only [go_sem]
         · try simp only [go_sem]
     intro _ vs _
     repeat refine zq ?_
     refine zc rfl (fun hc=>?_) (fun hc=>?_) <;> (try simp only [go_sem] at hc)
     refine zf ?_
     simp only [go_sem]
     refine zw (zk [2,4,5]) ?_
     simp only [go_sem]
     rw [hie]
     exact make1_tail x hx most hm _ rfl C vs
end Go.Proofs.Ytgkejinoaommeaa

namespace Go.Proofs.Ytgkejinoaommeaa
open Go Go.Oc
set_option linter.unusedSimpArgs false
set_option linter.unusedVariables false
set_option maxRecDepth 8000
set_option maxHeartbeats 4000000
theorem eqT46' : eqN Try.prog 46 = some 2:=by kernel_rfl
def narF (D : Int) (bs : List Int) (a : Am) : Am:=⟨a.at_,narL (truthU a.beds D bs) bs a.beds⟩
def mixN (D : Int) (bs : List Int) (A : Nat → Am) (i j : Nat) : Am:=if j < i then narF D bs (A j) else A j
theorem mixN_zero (D : Int) (bs : List Int) (A : Nat → Am) : mixN D bs A 0 = A:=by funext j; simp [mixN]
def mixL (l' l : List Bd) (k : Nat) : List Bd:=l'.take k ++ l.drop k
theorem mixL_get {l' l : List Bd} {k : Nat} {c : Bd} (hl : l'.length = l.length) (h : l[k]? = some c) : (mixL l' l k)[k]? = some c:=by
 have hk:=(List.getElem?_eq_some_iff.1 h).1
 unfold mixL
 rw [List.getElem?_append_right (by rw [List.length_take]; omega),List.length_take,List.getElem?_drop,← h]
 congr 1; omega
theorem mixL_len {l' l : List Bd} {k : Nat} (hl : l'.length = l.length) : (mixL l' l k).length = l.length:=by unfold mixL; simp; omega
theorem mixL_set {l' l : List Bd} {k : Nat} {c : Bd} (hl : l'.length = l.length) (h : l'[k]? = some c) : (mixL l' l k).set k c = mixL l' l (k + 1):=by
 have hk:=(List.getElem?_eq_some_iff.1 h).1
 unfold mixL
 rw [List.set_append_right _ _ (by rw [List.length_take]; omega),List.length_take,take_of_opt h,List.append_assoc]
 congr 1
 have e : k - min k l'.length = 0:=by omega
 have hk2 : k < l.length:=by omega
 rw [e,List.drop_eq_getElem_cons hk2]
 rfl
theorem lA_at {l : List Am} {j : Nat} {a : Am} (h : l[j]? = some a) : lA l j = a:=by unfold lA; rw [List.getD_eq_getElem?_getD,h]; rfl
theorem plF_law (D : Int) (bs : List Int) (l : List Am) : plF (lA l) (mixN D bs (lA l) l.length) l.length = ((l.map (narF D bs)).map aimR).flatten.map .r:=by
 rw [plF_flat]
 congr 2
 have : l.map (narF D bs) = (List.range l.length).map fun j=>narF D bs (lA l j):=by
  refine List.ext_getElem? fun j=>?_
  rw [List.getElem?_map,List.getElem?_map]
  by_cases h : j < l.length
  · obtain ⟨a,ha⟩:=opt_of_lt h
    rw [List.getElem?_range h,ha,Option.map_some,Option.map_some,lA_at ha]
  · rw [List.getElem?_eq_none (by omega),List.getElem?_eq_none (by simp; omega)]; rfl
 rw [this,List.map_map]
 refine List.map_congr_left fun j hj=>?_
 have hj':=List.mem_range.1 hj
 simp only [Function.comp_def,mixN,if_pos hj']
 rfl
theorem narrows_law (x : Lw) (hx : WfLw x) (bs : List Int) (hb : ∀ n ∈ bs,0 ≤ n ∧ n ≤ 255) : ACalls Try.prog 6 [.ag (lwC x),u8s bs] (.bo true):=by
 have hkn:=known14_ok
 have hT46:=eqT46'
 have hmk:=make1_ok x hx 60 (by omega)
 obtain ⟨hD,hL,hmade,hcv,hwf⟩:=made_ok hx (most:=60) (by omega)
 generalize denM x 60 = D at *
 generalize aimsM x 60 = l at *
 have hown:=own_ok D l (by omega) fun a ha=>by have:=(hmade a ha).len; omega
 have htru : ∀ a ∈ l,TruthN D a.beds (truthU a.beds D bs) ∧ ACalls Try.prog 32 [.ag [i64 a.at_,bedsR a.beds],i64 D,u8s bs] (ints (truthU a.beds D bs)) ∧ (∀ c ∈ a.beds,0 ≤ c.lo ∧ c.lo ≤ c.hi ∧ c.hi ≤ 3000):=fun a ha=>by
  have hm:=hmade a ha
  have hok:=hm.ok
  have hlen:=hm.len
  simp only [aimOk,Bool.and_eq_true,decide_eq_true_eq] at hok
  obtain ⟨⟨⟨⟨⟨o1,o2⟩,o3⟩,o4⟩,o5⟩,o6⟩:=hok
  simp only [chOk,List.all_eq_true,Bool.and_eq_true,decide_eq_true_eq] at o4
  have hc : ∀ c ∈ a.beds,0 ≤ c.lo ∧ c.lo ≤ c.hi ∧ c.hi ≤ 3000:=fun c hc=>by have:=o4 c hc; omega
  have hI:=TI.it (bs:=bs) hb hlen.1 o5 (fun c hc'=>(hc c hc').2.1) 31
  have hz:=itU_done (bs:=bs) hb hlen.1 o5 (fun c hc'=>(hc c hc').2.1) o6
  exact ⟨⟨hI.len,hI.each,by have:=hI.sum; unfold truthU; omega⟩,truthU_ok a D bs hb o5 (by omega) (by omega) hc o6,hc⟩
 have hmade2 : ∀ a ∈ l.map (narF D bs),MadeI D a:=fun a ha=>by
  obtain ⟨a0,h0,rfl⟩:=List.mem_map.1 ha
  exact nar_made (by omega) hb (hmade a0 h0) (htru a0 h0).1
 have hml : (l.map (narF D bs)).length = l.length:=by simp
 obtain ⟨hcv2,hwf2⟩:=check_made (d:=D) (l:=l.map (narF D bs)) (by omega) (by rw [hml]; omega) hmade2
 have hown2:=own_ok D (l.map (narF D bs)) (by rw [hml]; omega) fun a ha=>by have:=(hmade2 a ha).len; omega
 have htig:=Tight_ok D l hwf
 have htig2:=Tight_ok D (l.map (narF D bs)) hwf2
 simp only [hcv,hcv2,if_true] at htig htig2
 have hbest:=Best_ok D l hwf
 have hbest2:=Best_ok D (l.map (narF D bs)) hwf2
 have hscore:=Score_ok D l hwf
 have hscore2:=Score_ok D (l.map (narF D bs)) hwf2
 have hsp : spansV D l = l.map (spanOf D):=by unfold spansV; rw [if_pos hcv]
 have hsp2 : spansV D (l.map (narF D bs)) = (l.map (narF D bs)).map (spanOf D):=by unfold spansV; rw [if_pos hcv2]
 rw [hcv,hsp] at hbest hscore
 rw [hcv2,hsp2] at hbest2 hscore2
 have hN1 : ∀ a ∈ l,1 ≤ a.beds.length ∧ a.beds.length ≤ 1000:=fun a ha=>by have:=(hmade a ha).len; omega
 have hspan : ∀ (i : Nat) (u v : Int × Int),(l.map (spanOf D))[i]? = some u → ((l.map (narF D bs)).map (spanOf D))[i]? = some v → u.1 ≤ v.1 ∧ v.2 ≤ u.2:=fun i u v hu hv=>by
  rw [List.getElem?_map] at hu hv
  rw [List.getElem?_map] at hv
  cases ha : l[i]? with
  | none=>rw [ha] at hu; cases hu
  | some a =>
    rw [ha] at hu hv
    simp only [Option.map_some,Option.some.injEq] at hu hv
    subst hu hv
    have:=nar_span (d:=D) (by omega) hb (hmade a (mem_of_opt ha)) (htru a (mem_of_opt ha)).1
    exact ⟨this.1,this.2.1⟩
 obtain ⟨hw1,hw2⟩:=best_nar (s:=l.map (spanOf D)) (t:=(l.map (narF D bs)).map (spanOf D)) (by simp) hspan
 have hw3:=best_sub (s:=l.map (spanOf D)) fun v hv=>by
  obtain ⟨a,ha,rfl⟩:=List.mem_map.1 hv
  exact (nar_span (d:=D) (by omega) hb (hmade a ha) (htru a ha).1).2.2
 have hw4:=best_sub (s:=(l.map (narF D bs)).map (spanOf D)) fun v hv=>by
  obtain ⟨a,ha,rfl⟩:=List.mem_map.1 hv
  have hh:=hmade2 a ha
  obtain ⟨g1,g2,g3⟩:=made_facts hh
  have hq:=filled_bound (vals:=scoresOf a.beds) (by simp [scoresOf]) (filled_truth (cm:=cmpI) (vals:=scoresOf a.beds) g1 g2 g3)
  exact Int.le_trans hq.1 hq.2
 have p1:=best_pw isP (l.map (spanOf D))
 have p2:=best_pw mayP (l.map (spanOf D))
 have p3:=best_pw isP ((l.map (narF D bs)).map (spanOf D))
 have p4:=best_pw mayP ((l.map (narF D bs)).map (spanOf D))
 have n1:=best_len isP (l.map (spanOf D))
 have n2:=best_len mayP (l.map (spanOf D))
 have n3:=best_len isP ((l.map (narF D bs)).map (spanOf D))
 have n4:=best_len mayP ((l.map (narF D bs)).map (spanOf D))
 simp only [List.length_map] at n1 n2 n3 n4
 have hc1:=isWithin_ok _ _ p1 p3 hw1 (by omega) (by omega)
 have hc2:=isWithin_ok _ _ p4 p2 hw2 (by omega) (by omega)
 have hc3:=isWithin_ok _ _ p1 p2 hw3 (by omega) (by omega)
 have hc4:=isWithin_ok _ _ p3 p4 hw4 (by omega) (by omega)
 have dl : ∀ (F : Nat → RowC) n k,k < 600 → delc (fam F n) k = fam F n:=fun F n k h=>delc_fam_lt h
 have hal0 : ∀ vs,(araG (lA l) vs l.length).length = l.length * 2:=fun vs=>araG_len
 refine acalls_st (rs:=[.bo true]) [.tmp 4] Try.func6 rfl (by kernel_rfl) Try.ntmps6 rfl (by simp) rfl fun C vs=>?_
 repeat refine zq ?_
 refine zb (by kernel_rfl) fun K hK=>?_
 simp only [go_sem]
 (try simp (disch:=omega) only [zI])
 repeat first | intro _ | refine ⟨by omega,?_⟩ | refine ⟨⟨by omega,by omega⟩,?_⟩
 refine hK _ ?_
 clear hK K
 refine zw (zk [1,2]) ?_
 simp only [go_sem]
 repeat refine zq ?_
 refine zb (by kernel_rfl) fun K hK=>?_
 simp only [go_sem]
 (try simp (disch:=omega) only [zI])
 refine zh (hmk) rfl (by simp only [go_sem,i64,ints]) (by simp only [go_sem,i64,ints]) (by first | exact .inl rfl | exact .inr rfl) ?_
 (try simp only [go_sem])
 (try simp (disch:=omega) only [zI])
 repeat first | intro _ | refine ⟨by omega,?_⟩ | refine ⟨⟨by omega,by omega⟩,?_⟩
 refine hK _ ?_
 clear hK K
 refine zw (sub_frzP 5 5 [i64 D,aimsR l] (by omega) rfl rfl) ?_
 refine zw (zk [1,5]) ?_
 simp only [go_sem]
 repeat refine zq ?_
 refine zb (by kernel_rfl) fun K hK=>?_
 simp only [go_sem]
 (try simp (disch:=omega) only [zI])
 refine own_call hL.1 (by omega) hN1 (by simp) fun vs' hvs'=>?_
 simp only [go_sem,List.nil_append]
 repeat first | intro _ | refine ⟨by omega,?_⟩ | refine ⟨⟨by omega,by omega⟩,?_⟩
 refine hK _ ?_
 clear hK K
 refine zw (zk [1,5,6]) ?_
 simp only [go_sem]
 repeat refine zq ?_
 refine zb (by kernel_rfl) fun K hK=>?_
 simp only [go_sem]
 (try simp (disch:=omega) only [zI])
 repeat first | intro _ | refine ⟨by omega,?_⟩ | refine ⟨⟨by omega,by omega⟩,?_⟩
 refine hK _ ?_
 clear hK K
 refine zw (zk [1,5,6,7]) ?_
 simp only [go_sem]
 repeat refine zq ?_
 refine zd ?_
 have hnl : ∀ i a,a ≤ 600 → (i + 600 < a) = False:=fun i a h=>by simp only [eq_iff_iff,iff_false]; omega
 refine awp_uptoV (n:=335) l.length (fun i vs=>[(1,.r (u8s bs)),(5,.r (.rp [i64 D,aimsR l])),(6,.pt 6 (vs 6) 0),(7,.r (i64 (i : Int)))])
  (fun i vs=>(6,.box [.r (i64 D),.os 24 (vs 24) 2 0 l.length]) :: (24,.ara 36 2 (araG (lA l) vs l.length)) :: fam (famG (mixN D bs (lA l) i)) l.length) (fun _=>True) 0 (zj [2] ?_ ?_) (Nat.zero_le _) trivial ?_
 · try simp only [go_sem]
 · simp only [mixN_zero,go_sem,araG_upd,Nat.reduceLT,dl]
   try rfl
 · intro i vs hi _
   repeat refine zq ?_
   refine zb (by kernel_rfl) fun K hK=>?_
   simp only [go_sem]
   (try simp (disch:=omega) only [zI])
   repeat first | intro _ | refine ⟨by omega,?_⟩ | refine ⟨⟨by omega,by omega⟩,?_⟩
   refine hK _ ?_
   clear hK K
   refine zw (zk [1,5,6,7,35]) ?_
   simp only [go_sem]
   repeat refine zq ?_
   refine zc rfl (fun hc=>?_) (fun hc=>?_) <;> (try simp only [go_sem] at hc)
   · have hci : i < l.length:=by omega
     obtain ⟨a,ha⟩:=opt_of_lt hci
     obtain ⟨hty,htr,hbd⟩:=htru a (mem_of_opt ha)
     have hlen:=(hmade a (mem_of_opt ha)).len
     have hla:=lA_at ha
     have hat : ∀ vs,(araG (lA l) vs l.length)[i * 2 + 1]? = some (.os (i + 600) (vs (i + 600)) 3 0 a.beds.length):=fun vs=>by rw [araG_at hci,hla]
     obtain ⟨F,hF⟩ : ∃ F,F = famG (mixN D bs (lA l) i):=⟨_,rfl⟩
     have hFi : F i = .arr 67 3 (a.beds.map bedR):=by rw [hF]; unfold famG mixN; rw [if_neg (by omega),hla]
     have hF0 : fam F l.length = fam (upd F i (.arr 67 3 (a.beds.map bedR))) l.length:=by rw [← hFi,upd_self]
     have hlk : ∀ c,lookc (fam (upd F i c) l.length) (i + 600) = c:=fun c=>by rw [lookc_fam hci,upd_same]
     have his : ∀ c d,insc (fam (upd F i c) l.length) (i + 600) d = fam (upd F i d) l.length:=fun c d=>by rw [insc_fam hci,upd_upd]
     rw [← hF,hF0]
     refine zx ?_
     try simp only [go_sem]
     repeat refine zq ?_
     refine zd ?_
     repeat refine zq ?_
     refine zg follows (by decide +kernel) (by kernel_rfl) fun K hK=>?_
     simp only [go_sem,ha,hci,aimR]
     (try simp (disch:=omega) only [zI])
     refine zh (htr) rfl (by simp only [go_sem,i64,ints]) (by simp only [go_sem,i64,ints]) (by first | exact .inl rfl | exact .inr rfl) ?_
     (try simp only [go_sem])
     (try simp (disch:=omega) only [zI])
     repeat first | intro _ | refine ⟨by omega,?_⟩ | refine ⟨⟨by omega,by omega⟩,?_⟩
     refine hK _ ?_
     clear hK K
     refine zw (zk [1,5,6,7,8]) ?_
     simp only [go_sem]
     repeat refine zq ?_
     refine zb (by kernel_rfl) fun K hK=>?_
     simp only [go_sem]
     (try simp (disch:=omega) only [zI])
     repeat first | intro _ | refine ⟨by omega,?_⟩ | refine ⟨⟨by omega,by omega⟩,?_⟩
     refine hK _ ?_
     clear hK K
     refine zw (zk [1,5,6,7,8,9]) ?_
     simp only [go_sem]
     obtain ⟨y,hy⟩ : ∃ y,y = truthU a.beds D bs:=⟨_,rfl⟩
     rw [← hy] at hty ⊢
     have hyl:=hty.len
     have hnl':=nar_len y bs a.beds
     repeat refine zq ?_
     refine zd ?_
     refine awp_uptoV (n:=335) a.beds.length (fun k vs=>[(1,.r (u8s bs)),(5,.r (.rp [i64 D,aimsR l])),(6,.pt 6 (vs 6) 0),(7,.r (i64 (i : Int))),(8,.r (ints y)),(9,.r (i64 (k : Int)))])
      (fun k vs=>(6,.box [.r (i64 D),.os 24 (vs 24) 2 0 l.length]) :: (24,.ara 36 2 (araG (lA l) vs l.length)) :: fam (upd F i (.arr 67 3 ((mixL (narL y bs a.beds) a.beds k).map bedR))) l.length) (fun _=>True) 0 (zj [] ?_ ?_) (Nat.zero_le _) trivial ?_
     · try simp only [go_sem]
     · have e0 : mixL (narL y bs a.beds) a.beds 0 = a.beds:=by simp [mixL]
       rw [e0]
       try rfl
     · intro k vs hk _
       repeat refine zq ?_
       refine zb (by kernel_rfl) fun K hK=>?_
       simp only [go_sem]
       (try simp (disch:=omega) only [zI])
       repeat first | intro _ | refine ⟨by omega,?_⟩ | refine ⟨⟨by omega,by omega⟩,?_⟩
       refine hK _ ?_
       clear hK K
       refine zw (zk [1,5,6,7,8,9,50]) ?_
       simp only [go_sem]
       repeat refine zq ?_
       refine zc rfl (fun hc=>?_) (fun hc=>?_) <;> (try simp only [go_sem] at hc)
       · have hck : k < a.beds.length:=by omega
         obtain ⟨c,hc1⟩:=opt_of_lt hck
         obtain ⟨v,hv⟩:=opt_of_lt (show k < y.length by omega)
         have hvD : y.getD k 0 = v:=by rw [List.getD_eq_getElem?_getD,hv]; rfl
         have hbc : bAt a.beds k = c:=by unfold bAt; rw [List.getD_eq_getElem?_getD,hc1]; rfl
         have hle:=hty.each k hck
         rw [hbc,hvD] at hle
         have hbdc:=hbd c (mem_of_opt hc1)
         have hmg:=mixL_get (l':=narL y bs a.beds) hnl' hc1
         have hng : (narL y bs a.beds)[k]? = some (narB v (byteL bs k) (byteL bs (k + 1)) c):=by
          unfold narL
          rw [List.getElem?_map,List.getElem?_range hck,← hvD,← hbc]; rfl
         have hms:=mixL_set (l:=a.beds) hnl' hng
         have hmln:=mixL_len (k:=k) hnl'
         generalize mixL (narL y bs a.beds) a.beds k = X at hmg hms hmln ⊢
         have hkX : k < X.length:=by omega
         have hset : ∀ x,((X.map bedR).set k x)[k]? = some x:=fun x=>List.getElem?_set_self (by rw [List.length_map]; exact hkX)
         have hsetD : ∀ x,((X.map bedR).set k x).getD k [] = x:=fun x=>by rw [List.getD_eq_getElem?_getD,hset]; rfl
         have hb1:=byteL_le hb k
         have hb2:=byteL_le hb (k + 1)
         have hy1:=mbyteOf_ok bs k
         have hy2:=mbyteOf_ok bs (k + 1)
         have ek : ((k + 1 : Nat) : Int) = (k : Int) + 1:=by omega
         rw [ek] at hy2
         generalize byteL bs k = g1 at *
         generalize byteL bs (k + 1) = g2 at *
         have hhd : ∀ vs,(List.drop (i * 2 + 1) (araG (lA l) vs l.length)).headD (AV.r RV.un) = .os (i + 600) (vs (i + 600)) 3 0 a.beds.length:=fun vs=>by
          rw [List.headD_eq_head?_getD,List.head?_drop,hat]; rfl
         have hki : ∀ a,a < 600 → (i + 600 = a) = False:=fun a h=>by simp only [eq_iff_iff,iff_false]; omega
         refine zx ?_
         try simp only [go_sem]
         repeat refine zq ?_
         refine zd ?_
         repeat refine zq ?_
         refine zb (by kernel_rfl) fun K hK=>?_
         simp only [go_sem,hat,hci,hal0,hhd]
         (try simp (disch:=omega) only [zI])
         repeat first | intro _ | refine ⟨by omega,?_⟩ | refine ⟨⟨by omega,by omega⟩,?_⟩
         refine hK _ ?_
         clear hK K
         refine zw (zk [1,5,6,7,8,9,10]) ?_
         simp only [go_sem]
         have q1:=scale_le (x:=v - c.lo) (b:=g1) (by omega) hb1
         have q2:=scale_le (x:=c.hi - v) (b:=g2) (by omega) hb2
         have m1 : 0 ≤ (v - c.lo) * g1 ∧ (v - c.lo) * g1 ≤ 3000 * 255:=⟨Int.mul_nonneg (by omega) hb1.1,Int.le_trans (Int.mul_le_mul_of_nonneg_left hb1.2 (show 0 ≤ v - c.lo by omega)) (by omega)⟩
         have m2 : 0 ≤ (c.hi - v) * g2 ∧ (c.hi - v) * g2 ≤ 3000 * 255:=⟨Int.mul_nonneg (by omega) hb2.1,Int.le_trans (Int.mul_le_mul_of_nonneg_left hb2.2 (show 0 ≤ c.hi - v by omega)) (by omega)⟩
         have w1 : IntKind.i64.wrap (v - c.lo) = v - c.lo:=by rw [zI] <;> omega
         have w2 : IntKind.i64.wrap (c.hi - v) = c.hi - v:=by rw [zI] <;> omega
         have w3 : IntKind.i64.wrap ((v - c.lo) * g1) = (v - c.lo) * g1:=by rw [zI] <;> omega
         have w4 : IntKind.i64.wrap ((c.hi - v) * g2) = (c.hi - v) * g2:=by rw [zI] <;> omega
         have w5 : IntKind.i64.wrap g1 = g1:=by rw [zI] <;> omega
         have w6 : IntKind.i64.wrap g2 = g2:=by rw [zI] <;> omega
         have t1 : ((v - c.lo) * g1).tdiv 255 = (v - c.lo) * g1 / 255:=Int.tdiv_eq_ediv_of_nonneg m1.1
         have t2 : ((c.hi - v) * g2).tdiv 255 = (c.hi - v) * g2 / 255:=Int.tdiv_eq_ediv_of_nonneg m2.1
         have w7 : IntKind.i64.wrap ((v - c.lo) * g1 / 255) = (v - c.lo) * g1 / 255:=by rw [zI] <;> omega
         have w8 : IntKind.i64.wrap ((c.hi - v) * g2 / 255) = (c.hi - v) * g2 / 255:=by rw [zI] <;> omega
         have w9 : IntKind.i64.wrap (v - (v - c.lo) * g1 / 255) = v - (v - c.lo) * g1 / 255:=by rw [zI] <;> omega
         have w10 : IntKind.i64.wrap (v + (c.hi - v) * g2 / 255) = v + (c.hi - v) * g2 / 255:=by rw [zI] <;> omega
         have w11 : IntKind.i64.wrap ((k : Int) + 1) = (k : Int) + 1:=by rw [zI] <;> omega
         repeat refine zq ?_
         refine zg follows (by decide +kernel) (by kernel_rfl) fun K hK=>?_
         simp only [go_sem,hlk,his,hmg,hkX,hmln,bedR,List.length_map,hv,w1,w2,w3,w4,w5,w6,t1,t2,w7,w8,w9,w10,w11,hki,Nat.reduceLT]
         (try simp (disch:=omega) only [zI])
         repeat first | intro _ | refine ⟨by omega,?_⟩ | refine ⟨⟨by omega,by omega⟩,?_⟩
         refine zh (hy1) rfl (by simp only [go_sem,i64,ints,w1,w2,w3,w4,w5,w6,t1,t2,w7,w8,w9,w10,w11,hlk,his,hmg,hkX,hmln,bedR,List.length_map,hv,hki,Nat.reduceLT,hnl,Nat.reduceLeDiff,hset,hsetD,List.set_set,List.length_set,List.set_cons_zero,List.set_cons_succ,List.take_succ_cons,List.take_zero,List.drop_succ_cons,List.drop_zero]) (by simp only [go_sem,i64,ints,w1,w2,w3,w4,w5,w6,t1,t2,w7,w8,w9,w10,w11,hlk,his,hmg,hkX,hmln,bedR,List.length_map,hv,hki,Nat.reduceLT,hnl,Nat.reduceLeDiff,hset,hsetD,List.set_set,List.length_set,List.set_cons_zero,List.set_cons_succ,List.take_succ_cons,List.take_zero,List.drop_succ_cons,List.drop_zero]) (by first | exact .inl rfl | exact .inr rfl) ?_
         (try simp only [go_sem,w1,w2,w3,w4,w5,w6,t1,t2,w7,w8,w9,w10,w11,hlk,his,hmg,hkX,hmln,bedR,List.length_map,hv,hki,Nat.reduceLT,hnl,Nat.reduceLeDiff,hset,hsetD,List.set_set,List.length_set,List.set_cons_zero,List.set_cons_succ,List.take_succ_cons,List.take_zero,List.drop_succ_cons,List.drop_zero])
         (try simp (disch:=omega) only [zI])
         repeat first | intro _ | refine ⟨by omega,?_⟩ | refine ⟨⟨by omega,by omega⟩,?_⟩
         refine zh (hy2) rfl (by simp only [go_sem,i64,ints,w1,w2,w3,w4,w5,w6,t1,t2,w7,w8,w9,w10,w11,hlk,his,hmg,hkX,hmln,bedR,List.length_map,hv,hki,Nat.reduceLT,hnl,Nat.reduceLeDiff,hset,hsetD,List.set_set,List.length_set,List.set_cons_zero,List.set_cons_succ,List.take_succ_cons,List.take_zero,List.drop_succ_cons,List.drop_zero]) (by simp only [go_sem,i64,ints,w1,w2,w3,w4,w5,w6,t1,t2,w7,w8,w9,w10,w11,hlk,his,hmg,hkX,hmln,bedR,List.length_map,hv,hki,Nat.reduceLT,hnl,Nat.reduceLeDiff,hset,hsetD,List.set_set,List.length_set,List.set_cons_zero,List.set_cons_succ,List.take_succ_cons,List.take_zero,List.drop_succ_cons,List.drop_zero]) (by first | exact .inl rfl | exact .inr rfl) ?_
         (try simp only [go_sem,w1,w2,w3,w4,w5,w6,t1,t2,w7,w8,w9,w10,w11,hlk,his,hmg,hkX,hmln,bedR,List.length_map,hv,hki,Nat.reduceLT,hnl,Nat.reduceLeDiff,hset,hsetD,List.set_set,List.length_set,List.set_cons_zero,List.set_cons_succ,List.take_succ_cons,List.take_zero,List.drop_succ_cons,List.drop_zero])
         (try simp (disch:=omega) only [zI])
         repeat first | intro _ | refine ⟨by omega,?_⟩ | refine ⟨⟨by omega,by omega⟩,?_⟩
         try simp only [go_sem,hset,hsetD,List.set_set,List.length_set,List.length_map,his,hki,hnl,Nat.reduceLeDiff,hlk,hmln]
         repeat first | intro _ | refine ⟨by omega,?_⟩ | refine ⟨⟨by omega,by omega⟩,?_⟩
         repeat first | intro _ | refine ⟨by omega,?_⟩ | refine ⟨⟨by omega,by omega⟩,?_⟩
         refine hK _ ?_
         clear hK K
         refine zw (zk [1,5,6,7,8,9]) ?_
         simp only [go_sem]
         repeat refine zq ?_
         refine zb (by kernel_rfl) fun K hK=>?_
         simp only [go_sem]
         (try simp (disch:=omega) only [zI])
         repeat first | intro _ | refine ⟨by omega,?_⟩ | refine ⟨⟨by omega,by omega⟩,?_⟩
         refine hK _ ?_
         clear hK K
         try simp only [go_sem]
         refine ⟨by omega,zj [] ?_ ?_⟩
         · try simp only [go_sem]
         · simp only [go_sem]
           rw [← hms,List.map_set]
           rfl
       · have hke : k = a.beds.length:=by omega
         subst hke
         have hfull : mixL (narL y bs a.beds) a.beds a.beds.length = narL y bs a.beds:=by
          unfold mixL
          rw [List.take_of_length_le (by omega),List.drop_eq_nil_of_le (by omega),List.append_nil]
         rw [hfull]
         have hfam : fam (upd F i (.arr 67 3 ((narL y bs a.beds).map bedR))) l.length = fam (famG (mixN D bs (lA l) (i + 1))) l.length:=fam_congr fun j hj=>by
          unfold upd
          by_cases e : j = i
          · rw [if_pos e,e]; unfold famG mixN; rw [if_pos (by omega),hla,hy]; rfl
          · rw [if_neg e,hF]; unfold famG mixN
            by_cases e2 : j < i
            · rw [if_pos e2,if_pos (by omega)]
            · rw [if_neg e2,if_neg (by omega)]
         rw [hfam]
         refine zf ?_
         simp only [go_sem]
         repeat refine zq ?_
         refine zb (by kernel_rfl) fun K hK=>?_
         simp only [go_sem]
         (try simp (disch:=omega) only [zI])
         repeat first | intro _ | refine ⟨by omega,?_⟩ | refine ⟨⟨by omega,by omega⟩,?_⟩
         refine hK _ ?_
         clear hK K
         try simp only [go_sem]
         refine ⟨by omega,zj [] ?_ ?_⟩
         · try simp only [go_sem]
         · try simp only [go_sem]
           try rfl
   · have hie : i = l.length:=by omega
     subst hie
     have hpl:=plF_law D bs l
     have hfl : ∀ j,j < l.length → (mixN D bs (lA l) l.length j).beds.length = (lA l j).beds.length:=fun j hj=>by
      unfold mixN; rw [if_pos hj]; exact nar_len _ _ _
     obtain ⟨m,hm⟩ : ∃ m,m = l.map (narF D bs):=⟨_,rfl⟩
     have hmi : ∀ j a,l[j]? = some a → m[j]? = some (narF D bs a):=fun j a h=>by rw [hm,List.getElem?_map,h]; rfl
     rw [← hm] at hpl hml hmade2 hown2 htig2 hbest2 hscore2 hc1 hc2 hc4
     refine zf ?_
     simp only [go_sem]
     refine zw (zk [5,6]) ?_
     simp only [go_sem]
     obtain ⟨vs',hv,hs⟩:=frz_law (n:=335) (l:=[(5,AV.r (.rp [i64 D,aimsR l])),(6,AV.pt 6 (vs 6) 0)]) (κ:=24) (q:=6) (A:=lA l) (F:=mixN D bs (lA l) l.length) (c5:=.box [.r (i64 D),.os 24 (vs 24) 2 0 l.length]) (by omega) (by omega) l.length (by omega) hfl vs []
     rw [List.append_nil,List.append_nil] at hs
     refine zw hs ?_
     rw [← hv 6 (by omega),← hv 24 (by omega),hpl]
     refine zw (sub_arr 24 (ty:=36) (sz:=2) (m.map aimR) rfl rfl (fun e he=>by obtain ⟨a,_,rfl⟩:=List.mem_map.1 he; rfl) (by omega)) ?_
     refine zw (sub_frzB 6 1 24 (ty:=36) (sz:=2) (off:=0) (m:=l.length) (es:=m.map aimR) (cells:=[.r (i64 D),.os 24 (vs' 24) 2 0 l.length]) (by omega) (by omega) rfl rfl rfl (by simp [hml])) ?_
     have e3 : ((m.map aimR).drop 0).take l.length = m.map aimR:=by
      rw [List.drop_zero,List.take_of_length_le (by simp [hml])]
     rw [e3]
     simp only [go_sem,List.set_cons_succ,List.set_cons_zero]
     refine zw (sub_frzP 6 6 [i64 D,aimsR m] (by omega) rfl rfl) ?_
     refine zw (zk [5,6]) ?_
     simp only [go_sem]
     have htl1 : (l.map (tightA D)).length = l.length:=by simp
     have htl2 : (m.map (tightA D)).length = l.length:=by simp [hml]
     have hsl1 : (l.map (spanOf D)).length = l.length:=by simp
     have hsl2 : (m.map (spanOf D)).length = l.length:=by simp [hml]
     have hti1 : ∀ j a,l[j]? = some a → (l.map (tightA D))[j]? = some (tightA D a):=fun j a h=>by rw [List.getElem?_map,h]; rfl
     have hti2 : ∀ j a,l[j]? = some a → (m.map (tightA D))[j]? = some (tightA D (narF D bs a)):=fun j a h=>by rw [List.getElem?_map,hmi j a h]; rfl
     have hsi1 : ∀ j a,l[j]? = some a → (l.map (spanOf D))[j]? = some (spanOf D a):=fun j a h=>by rw [List.getElem?_map,h]; rfl
     have hsi2 : ∀ j a,l[j]? = some a → (m.map (spanOf D))[j]? = some (spanOf D (narF D bs a)):=fun j a h=>by rw [List.getElem?_map,hmi j a h]; rfl
     generalize bestL isP (l.map (spanOf D)) = P1 at *
     generalize bestL mayP (l.map (spanOf D)) = P2 at *
     generalize bestL isP (m.map (spanOf D)) = P3 at *
     generalize bestL mayP (m.map (spanOf D)) = P4 at *
     generalize l.map (tightA D) = tl at *
     generalize m.map (tightA D) = tm at *
     generalize l.map (spanOf D) = S1 at *
     generalize m.map (spanOf D) = S2 at *
     repeat refine zq ?_
     refine zb (by kernel_rfl) fun K hK=>?_
     simp only [go_sem]
     (try simp (disch:=omega) only [zI])
     refine zh (hown) rfl (by simp only [go_sem,i64,ints]) (by simp only [go_sem,i64,ints]) (by first | exact .inl rfl | exact .inr rfl) ?_
     (try simp only [go_sem])
     (try simp (disch:=omega) only [zI])
     refine zh (htig) rfl (by simp only [go_sem,i64,ints]) (by simp only [go_sem,i64,ints]) (by first | exact .inl rfl | exact .inr rfl) ?_
     (try simp only [go_sem])
     (try simp (disch:=omega) only [zI])
     repeat first | intro _ | refine ⟨by omega,?_⟩ | refine ⟨⟨by omega,by omega⟩,?_⟩
     refine hK _ ?_
     clear hK K
     refine zw (sub_frzP 11 11 [i64 D,aimsR tl] (by omega) rfl rfl) ?_
     refine zw (zk [5,6,11,12]) ?_
     simp only [go_sem]
     repeat refine zq ?_
     refine zb (by kernel_rfl) fun K hK=>?_
     simp only [go_sem]
     (try simp (disch:=omega) only [zI])
     refine zh (hown2) rfl (by simp only [go_sem,i64,ints]) (by simp only [go_sem,i64,ints]) (by first | exact .inl rfl | exact .inr rfl) ?_
     (try simp only [go_sem])
     (try simp (disch:=omega) only [zI])
     refine zh (htig2) rfl (by simp only [go_sem,i64,ints]) (by simp only [go_sem,i64,ints]) (by first | exact .inl rfl | exact .inr rfl) ?_
     (try simp only [go_sem])
     (try simp (disch:=omega) only [zI])
     repeat first | intro _ | refine ⟨by omega,?_⟩ | refine ⟨⟨by omega,by omega⟩,?_⟩
     refine hK _ ?_
     clear hK K
     refine zw (sub_frzP 13 13 [i64 D,aimsR tm] (by omega) rfl rfl) ?_
     refine zw (zk [5,6,11,12,13,14]) ?_
     simp only [go_sem]
     repeat refine zq ?_
     refine zb (by kernel_rfl) fun K hK=>?_
     simp only [go_sem]
     (try simp (disch:=omega) only [zI])
     refine zh (hown) rfl (by simp only [go_sem,i64,ints]) (by simp only [go_sem,i64,ints]) (by first | exact .inl rfl | exact .inr rfl) ?_
     (try simp only [go_sem])
     (try simp (disch:=omega) only [zI])
     refine zh (hscore) rfl (by simp only [go_sem,i64,ints]) (by simp only [go_sem,i64,ints]) (by first | exact .inl rfl | exact .inr rfl) ?_
     (try simp only [go_sem])
     (try simp (disch:=omega) only [zI])
     repeat first | intro _ | refine ⟨by omega,?_⟩ | refine ⟨⟨by omega,by omega⟩,?_⟩
     refine hK _ ?_
     clear hK K
     refine zw (zk [5,6,11,12,13,14,15,16]) ?_
     simp only [go_sem]
     repeat refine zq ?_
     refine zb (by kernel_rfl) fun K hK=>?_
     simp only [go_sem]
     (try simp (disch:=omega) only [zI])
     refine zh (hown2) rfl (by simp only [go_sem,i64,ints]) (by simp only [go_sem,i64,ints]) (by first | exact .inl rfl | exact .inr rfl) ?_
     (try simp only [go_sem])
     (try simp (disch:=omega) only [zI])
     refine zh (hscore2) rfl (by simp only [go_sem,i64,ints]) (by simp only [go_sem,i64,ints]) (by first | exact .inl rfl | exact .inr rfl) ?_
     (try simp only [go_sem])
     (try simp (disch:=omega) only [zI])
     repeat first | intro _ | refine ⟨by omega,?_⟩ | refine ⟨⟨by omega,by omega⟩,?_⟩
     refine hK _ ?_
     clear hK K
     refine zw (zk [5,6,11,12,13,14,15,16,17,18]) ?_
     simp only [go_sem]
     repeat refine zq ?_
     refine zb (by kernel_rfl) fun K hK=>?_
     simp only [go_sem,bne_self_eq_false,hsl1,hsl2,htl1,htl2]
     (try simp (disch:=omega) only [zI])
     repeat first | intro _ | refine ⟨by omega,?_⟩ | refine ⟨⟨by omega,by omega⟩,?_⟩
     refine hK _ ?_
     clear hK K
     refine zw (zk [5,6,11,13,15,17,177]) ?_
     simp only [go_sem]
     repeat refine zq ?_
     refine zc rfl (fun hc=>?_) (fun hc=>?_) <;> (try simp only [go_sem] at hc)
     refine zx ?_
     try simp only [go_sem]
     repeat refine zq ?_
     refine zb (by kernel_rfl) fun K hK=>?_
     simp only [go_sem]
     (try simp (disch:=omega) only [zI])
     repeat first | intro _ | refine ⟨by omega,?_⟩ | refine ⟨⟨by omega,by omega⟩,?_⟩
     refine hK _ ?_
     clear hK K
     refine zw (zk [5,6,11,13,15,17,19]) ?_
     simp only [go_sem]
     repeat refine zq ?_
     refine zd ?_
     refine awp_uptoV (n:=335) l.length (fun i vs=>[(5,.r (.rp [i64 D,aimsR l])),(6,.r (.rp [i64 D,aimsR m])),(11,.r (.rp [i64 D,aimsR tl])),(13,.r (.rp [i64 D,aimsR tm])),(15,.r (spansR S1)),(17,.r (spansR S2)),(19,.r (i64 (i : Int)))])
      (fun i vs=>[]) (fun _=>True) 0 (zj [] ?_ ?_) (Nat.zero_le _) trivial ?_
     · try simp only [go_sem]
     · try simp only [go_sem]
     · intro i vs hi _
       repeat refine zq ?_
       refine zb (by kernel_rfl) fun K hK=>?_
       simp only [go_sem,hsl1]
       (try simp (disch:=omega) only [zI])
       repeat first | intro _ | refine ⟨by omega,?_⟩ | refine ⟨⟨by omega,by omega⟩,?_⟩
       refine hK _ ?_
       clear hK K
       refine zw (zk [5,6,11,13,15,17,19,181]) ?_
       simp only [go_sem]
       repeat refine zq ?_
       refine zc rfl (fun hc=>?_) (fun hc=>?_) <;> (try simp only [go_sem] at hc)
       · have hci : i < l.length:=by omega
         obtain ⟨a,ha⟩:=opt_of_lt hci
         have hmd:=hmade a (mem_of_opt ha)
         have hty:=(htru a (mem_of_opt ha)).1
         have g1:=hti1 i a ha
         have g2:=hti2 i a ha
         have g3:=hsi1 i a ha
         have g4:=hsi2 i a ha
         have i1 : i < tl.length:=by omega
         have i2 : i < tm.length:=by omega
         have i3 : i < S1.length:=by omega
         have i4 : i < S2.length:=by omega
         have hns:=nar_span (d:=D) (by omega) hb hmd hty
         have hnt:=fun k (hk : k < a.beds.length)=>nar_tight (d:=D) (by omega) hb hmd hty hk
         have bl1 : (tightA D a).beds.length = a.beds.length:=tight_len _ _
         have bl2 : (tightA D (narF D bs a)).beds.length = a.beds.length:=by unfold tightA narF; rw [tight_len]; exact nar_len _ _ _
         have hbk1 : ∀ k,k < a.beds.length → (tightA D a).beds[k]? = some (bAt (tightL D a.beds) k):=fun k hk=>by
          unfold bAt tightA
          rw [List.getD_eq_getElem?_getD,List.getElem?_eq_getElem (by rw [tight_len]; exact hk)]; rfl
         have hbk2 : ∀ k,k < a.beds.length → (tightA D (narF D bs a)).beds[k]? = some (bAt (tightL D (narL (truthU a.beds D bs) bs a.beds)) k):=fun k hk=>by
          unfold bAt tightA narF
          rw [List.getD_eq_getElem?_getD,List.getElem?_eq_getElem (by rw [tight_len,nar_len]; exact hk)]; rfl
         have hns' : (spanOf D a).1 ≤ (spanOf D (narF D bs a)).1 ∧ (spanOf D (narF D bs a)).2 ≤ (spanOf D a).2:=⟨hns.1,hns.2.1⟩
         generalize spanOf D a = s1 at *
         generalize spanOf D (narF D bs a) = s2 at *
         generalize tightA D a = t1 at *
         generalize tightA D (narF D bs a) = t2 at *
         have d1 : decide (s2.1 < s1.1) = false:=decide_eq_false (by omega)
         have d1' : ¬ s2.1 < s1.1:=by omega
         have d2 : decide (s1.2 < s2.2) = false:=decide_eq_false (by omega)
         have d2' : ¬ s1.2 < s2.2:=by omega
         refine zx ?_
         try simp only [go_sem]
         repeat refine zq ?_
         refine zd ?_
         repeat refine zq ?_
         refine zg follows (by decide +kernel) (by kernel_rfl) fun K hK=>?_
         simp only [go_sem,bne_self_eq_false,g1,g2,g3,g4,i1,i2,i3,i4,ha,hci,aimR,spanR,bl1,bl2,d1,d1',d2,d2']
         (try simp (disch:=omega) only [zI])
         repeat first | intro _ | refine ⟨by omega,?_⟩ | refine ⟨⟨by omega,by omega⟩,?_⟩
         refine hK _ ?_
         clear hK K
         refine zw (zk [5,6,11,13,15,17,19,241]) ?_
         simp only [go_sem]
         repeat refine zq ?_
         refine zc rfl (fun hc=>?_) (fun hc=>?_) <;> (try simp only [go_sem] at hc)
         refine zx ?_
         try simp only [go_sem]
         repeat refine zq ?_
         refine zb (by kernel_rfl) fun K hK=>?_
         simp only [go_sem]
         (try simp (disch:=omega) only [zI])
         repeat first | intro _ | refine ⟨by omega,?_⟩ | refine ⟨⟨by omega,by omega⟩,?_⟩
         refine hK _ ?_
         clear hK K
         refine zw (zk [5,6,11,13,15,17,19,20]) ?_
         simp only [go_sem]
         repeat refine zq ?_
         refine zd ?_
         refine awp_uptoV (n:=335) a.beds.length (fun k vs=>[(5,.r (.rp [i64 D,aimsR l])),(6,.r (.rp [i64 D,aimsR m])),(11,.r (.rp [i64 D,aimsR tl])),(13,.r (.rp [i64 D,aimsR tm])),(15,.r (spansR S1)),(17,.r (spansR S2)),(19,.r (i64 (i : Int))),(20,.r (i64 (k : Int)))])
          (fun k vs=>[]) (fun _=>True) 0 (zj [] ?_ ?_) (Nat.zero_le _) trivial ?_
         · try simp only [go_sem]
         · try simp only [go_sem]
         · intro k vs hk _
           repeat refine zq ?_
           refine zb (by kernel_rfl) fun K hK=>?_
           simp only [go_sem,g1,i1,aimR,bl1]
           (try simp (disch:=omega) only [zI])
           repeat first | intro _ | refine ⟨by omega,?_⟩ | refine ⟨⟨by omega,by omega⟩,?_⟩
           refine hK _ ?_
           clear hK K
           refine zw (zk [5,6,11,13,15,17,19,20,250]) ?_
           simp only [go_sem]
           repeat refine zq ?_
           refine zc rfl (fun hc=>?_) (fun hc=>?_) <;> (try simp only [go_sem] at hc)
           · have hck : k < a.beds.length:=by omega
             have f1:=hbk1 k hck
             have f2:=hbk2 k hck
             have f3:=hnt k hck
             have k1 : k < t1.beds.length:=by omega
             have k2 : k < t2.beds.length:=by omega
             generalize bAt (tightL D a.beds) k = c1 at *
             generalize bAt (tightL D (narL (truthU a.beds D bs) bs a.beds)) k = c2 at *
             have d3 : decide (c2.lo < c1.lo) = false:=decide_eq_false (by omega)
             have d3' : ¬ c2.lo < c1.lo:=by omega
             have d4 : decide (c1.hi < c2.hi) = false:=decide_eq_false (by omega)
             have d4' : ¬ c1.hi < c2.hi:=by omega
             have d5 : decide (c2.hi < c2.lo) = false:=decide_eq_false (by omega)
             have d5' : ¬ c2.hi < c2.lo:=by omega
             refine zx ?_
             try simp only [go_sem]
             repeat refine zq ?_
             refine zd ?_
             repeat refine zq ?_
             refine awp_dreg2 [(11,none),(13,none),(19,none),(20,none)] follows (by decide +kernel) (by kernel_rfl) (by simp only [keysOk,List.mem_cons,List.not_mem_nil,forall_eq_or_imp,Oc.keyOf,go_sem]; simp) fun K hK=>?_
             simp only [go_sem,g1,g2,i1,i2,aimR,f1,f2,k1,k2,bedR]
             (try simp (disch:=omega) only [zI])
             repeat first | intro _ | refine ⟨by omega,?_⟩ | refine ⟨⟨by omega,by omega⟩,?_⟩
             refine hK _ ?_
             clear hK K
             refine zw (zk [5,6,11,13,15,17,19,20,21,22]) ?_
             simp only [go_sem]
             repeat refine zq ?_
             refine zb (by kernel_rfl) fun K hK=>?_
             simp only [go_sem,d3,d3',d4,d4',d5,d5']
             (try simp (disch:=omega) only [zI])
             repeat first | intro _ | refine ⟨by omega,?_⟩ | refine ⟨⟨by omega,by omega⟩,?_⟩
             refine hK _ ?_
             clear hK K
             refine zw (zk [5,6,11,13,15,17,19,20,291]) ?_
             simp only [go_sem]
             repeat refine zq ?_
             refine zc rfl (fun hc=>?_) (fun hc=>?_) <;> (try simp only [go_sem] at hc)
             refine zx ?_
             try simp only [go_sem]
             repeat refine zq ?_
             refine zb (by kernel_rfl) fun K hK=>?_
             simp only [go_sem]
             (try simp (disch:=omega) only [zI])
             repeat first | intro _ | refine ⟨by omega,?_⟩ | refine ⟨⟨by omega,by omega⟩,?_⟩
             refine hK _ ?_
             clear hK K
             try simp only [go_sem]
             refine ⟨by omega,zj [21,22] ?_ ?_⟩
             · try simp only [go_sem]
             · try simp only [go_sem]
           · refine zf ?_
             simp only [go_sem]
             repeat refine zq ?_
             refine zb (by kernel_rfl) fun K hK=>?_
             simp only [go_sem]
             (try simp (disch:=omega) only [zI])
             repeat first | intro _ | refine ⟨by omega,?_⟩ | refine ⟨⟨by omega,by omega⟩,?_⟩
             refine hK _ ?_
             clear hK K
             try simp only [go_sem]
             refine ⟨by omega,zj [] ?_ ?_⟩
             · try simp only [go_sem]
             · try simp only [go_sem]
       · refine zf ?_
         simp only [go_sem]
         repeat refine zq ?_
         refine zb (by kernel_rfl) fun K hK=>?_
         simp only [go_sem]
         (try simp (disch:=omega) only [zI])
         refine zh (hown) rfl (by simp only [go_sem,i64,ints]) (by simp only [go_sem,i64,ints]) (by first | exact .inl rfl | exact .inr rfl) ?_
         (try simp only [go_sem])
         (try simp (disch:=omega) only [zI])
         refine zh (hbest) rfl (by simp only [go_sem,i64,ints]) (by simp only [go_sem,i64,ints]) (by first | exact .inl rfl | exact .inr rfl) ?_
         (try simp only [go_sem])
         (try simp (disch:=omega) only [zI])
         repeat first | intro _ | refine ⟨by omega,?_⟩ | refine ⟨⟨by omega,by omega⟩,?_⟩
         refine hK _ ?_
         clear hK K
         refine zw (zk [6,12,23,24]) ?_
         simp only [go_sem]
         repeat refine zq ?_
         refine zb (by kernel_rfl) fun K hK=>?_
         simp only [go_sem]
         (try simp (disch:=omega) only [zI])
         refine zh (hown2) rfl (by simp only [go_sem,i64,ints]) (by simp only [go_sem,i64,ints]) (by first | exact .inl rfl | exact .inr rfl) ?_
         (try simp only [go_sem])
         (try simp (disch:=omega) only [zI])
         refine zh (hbest2) rfl (by simp only [go_sem,i64,ints]) (by simp only [go_sem,i64,ints]) (by first | exact .inl rfl | exact .inr rfl) ?_
         (try simp only [go_sem])
         (try simp (disch:=omega) only [zI])
         repeat first | intro _ | refine ⟨by omega,?_⟩ | refine ⟨⟨by omega,by omega⟩,?_⟩
         refine hK _ ?_
         clear hK K
         refine zw (zk [12,14,23,24,25,26]) ?_
         simp only [go_sem]
         repeat refine zq ?_
         refine zb (by kernel_rfl) fun K hK=>?_
         simp only [go_sem,beq_self_eq_true]
         (try simp (disch:=omega) only [zI])
         refine zh (hc1) rfl (by simp only [go_sem,i64,ints]) (by simp only [go_sem,i64,ints]) (by first | exact .inl rfl | exact .inr rfl) ?_
         (try simp only [go_sem])
         (try simp (disch:=omega) only [zI])
         refine zh (hc2) rfl (by simp only [go_sem,i64,ints]) (by simp only [go_sem,i64,ints]) (by first | exact .inl rfl | exact .inr rfl) ?_
         (try simp only [go_sem])
         (try simp (disch:=omega) only [zI])
         refine zh (hc3) rfl (by simp only [go_sem,i64,ints]) (by simp only [go_sem,i64,ints]) (by first | exact .inl rfl | exact .inr rfl) ?_
         (try simp only [go_sem])
         (try simp (disch:=omega) only [zI])
         refine zh (hc4) rfl (by simp only [go_sem,i64,ints]) (by simp only [go_sem,i64,ints]) (by first | exact .inl rfl | exact .inr rfl) ?_
         (try simp only [go_sem])
         (try simp (disch:=omega) only [zI])
         refine zh (hkn) rfl (by simp only [go_sem,i64,ints]) (by simp only [go_sem,i64,ints]) (by first | exact .inl rfl | exact .inr rfl) ?_
         (try simp only [go_sem])
         (try simp (disch:=omega) only [zI])
         repeat first | intro _ | refine ⟨by omega,?_⟩ | refine ⟨⟨by omega,by omega⟩,?_⟩
         refine hK _ ?_
         clear hK K
         refine zw (zk [4]) ?_
         simp only [go_sem]
         refine ze ?_
         simp only [go_sem]
end Go.Proofs.Ytgkejinoaommeaa
