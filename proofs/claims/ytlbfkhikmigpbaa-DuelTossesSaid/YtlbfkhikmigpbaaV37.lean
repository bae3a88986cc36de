/- Part 7 of the texts of this claim. -/
import Derived.Test.YtlbfkhikmigpbaaV36
import Derived.Test.YtlbfkhikmigpbaaV35
namespace Go.Proofs.Ytlbfkhikmigpbaa
open Go Go.Oc
set_option linter.unusedSimpArgs false
set_option linter.unusedVariables false
set_option maxRecDepth 8000
abbrev Pv:=Int × Int
def fillP : List Pv → Int × Int → Int × Int
 | [],x=>x
 | c :: cs,x=>fillP cs (x.1 - min x.1 c.1,x.2 + min x.1 c.1 * c.2)
theorem fillG_P : ∀ (l : List Bd) (x : Int × Int),fillG l x = fillP (l.map fun c=>(c.hi - c.lo,c.b)) x
 | [],_=>rfl
 | c :: l,x=>by simp only [fillG,List.map_cons,fillP]; exact fillG_P l _
theorem fillP_swap {a c : Pv} {B : List Pv} {x : Int × Int} (h : a.1 = 0 ∨ a.2 = c.2) (ha : 0 ≤ a.1) (hc : 0 ≤ c.1) (hx : 0 ≤ x.1) : fillP (a :: c :: B) x = fillP (c :: a :: B) x:=by
 simp only [fillP]
 congr 1
 refine Prod.ext (by simp only; omega) ?_
 simp only
 rcases h with h | h
 · have e1 : min x.1 a.1 = 0:=by omega
   have e2 : min (x.1 - min x.1 c.1) a.1 = 0:=by omega
   rw [e1,e2]; simp
 · rw [h,Int.add_assoc,Int.add_assoc,← Int.add_mul,← Int.add_mul]
   congr 2
   omega
theorem fillP_move {c : Pv} {B : List Pv} (hc : 0 ≤ c.1) : ∀ (A : List Pv) {x : Int × Int},(∀ a ∈ A,(a.1 = 0 ∨ a.2 = c.2) ∧ 0 ≤ a.1) → 0 ≤ x.1 → fillP (A ++ c :: B) x = fillP (c :: (A ++ B)) x
 | [],_,_,_=>rfl
 | a :: A, x, h, hx => by
   have h1:=h a (by simp)
   have ih:=fillP_move (B:=B) hc A (x:=(x.1 - min x.1 a.1,x.2 + min x.1 a.1 * a.2)) (fun y hy=>h y (by simp [hy])) (by simp only; omega)
   have e : fillP (a :: A ++ c :: B) x = fillP (a :: c :: (A ++ B)) x:=by
    rw [List.cons_append,fillP,ih]; rfl
   rw [e,fillP_swap h1.1 h1.2 hc hx]
   rfl
def leD (most : Bool) (x y : Int) : Prop:=if most then y ≤ x else x ≤ y
theorem leD_trans {most : Bool} {x y z : Int} (h : leD most x y) (g : leD most y z) : leD most x z:=by
 unfold leD at *; split at h <;> simp_all <;> omega
theorem leD_anti {most : Bool} {x y : Int} (h : leD most x y) (g : leD most y x) : x = y:=by
 unfold leD at *; split at h <;> simp_all <;> omega
abbrev SortP (most : Bool) (S : List Pv) : Prop:=S.Pairwise fun a b=>leD most a.2 b.2
theorem fill_step {most : Bool} {A B : List Pv} {c : Pv} {x : Int × Int} (hS : SortP most (A ++ c :: B)) (hn : ∀ a ∈ A ++ c :: B,0 ≤ a.1) (hbest : ∀ a ∈ A ++ c :: B,0 < a.1 → leD most c.2 a.2) (hx : 0 ≤ x.1) :
 fillP (A ++ (c.1 - min x.1 c.1,c.2) :: B) (x.1 - min x.1 c.1,x.2 + min x.1 c.1 * c.2) = fillP (A ++ c :: B) x:=by
 have hc0 : 0 ≤ c.1:=hn c (by simp)
 have hA : ∀ a ∈ A,(a.1 = 0 ∨ a.2 = c.2) ∧ 0 ≤ a.1:=fun a ha=>by
  have h0:=hn a (by simp [ha])
  refine ⟨?_,h0⟩
  by_cases h : a.1 = 0
  · exact .inl h
  · have h1:=hbest a (by simp [ha]) (by omega)
    have h2 : leD most a.2 c.2:=(List.pairwise_append.1 hS).2.2 a ha c (by simp)
    exact .inr (leD_anti h2 h1)
 rw [fillP_move hc0 A hA hx,fillP_move (c:=(c.1 - min x.1 c.1,c.2)) (by simp only; omega) A hA (by simp only; omega)]
 simp only [fillP]
 congr 1
 have e : min (x.1 - min x.1 c.1) (c.1 - min x.1 c.1) = 0:=by omega
 rw [e]; simp
theorem fillP_done : ∀ {S : List Pv} {y : Int},(∀ a ∈ S,0 ≤ a.1) → fillP S (0,y) = (0,y)
 | [],_,_=>rfl
 | c :: S, y, h => by
   have h0:=h c (by simp)
   have e : min 0 c.1 = 0:=by omega
   simp only [fillP,e]
   simpa using fillP_done fun a ha=>h a (by simp [ha])
theorem insB_pw {most : Bool} {x : Bd} : ∀ {R : List Bd},R.Pairwise (fun y z=>leD most z.b y.b) → (insB (ltD most) x R).Pairwise (fun y z=>leD most z.b y.b)
 | [],_=>by simp [insB]
 | y :: R, h => by
   obtain ⟨h1,h2⟩:=List.pairwise_cons.1 h
   unfold insB
   split
   · rename_i hlt
     refine List.pairwise_cons.2 ⟨fun z hz=>?_,insB_pw h2⟩
     rcases (mem_insB _ _ _ _).1 hz with rfl | hz
     · unfold ltD at hlt; unfold leD; cases most <;> simp at hlt ⊢ <;> omega
     · exact h1 z hz
   · rename_i hlt
     have hyx : leD most y.b x.b:=by unfold ltD at hlt; unfold leD; cases most <;> simp at hlt ⊢ <;> omega
     refine List.pairwise_cons.2 ⟨fun z hz=>?_,h⟩
     rcases List.mem_cons.1 hz with rfl | hz
     · exact hyx
     · exact leD_trans (h1 z hz) hyx
theorem sortB_pw {most : Bool} : ∀ {l R : List Bd},R.Pairwise (fun y z=>leD most z.b y.b) → (sortB (ltD most) l R).Pairwise (fun y z=>leD most z.b y.b)
 | [],_,h=>h
 | x :: l,R,h=>by rw [sortB]; exact sortB_pw (insB_pw h)
theorem sortN_pw {most : Bool} (l : List Bd) : (sortN (ltD most) l).Pairwise (fun y z=>leD most y.b z.b):=by
 unfold sortN
 rw [List.pairwise_reverse]
 exact sortB_pw List.Pairwise.nil
def beats (most : Bool) (x y : Int) : Bool:=if most then decide (y < x) else decide (x < y)
def bestI (most : Bool) (M V : List Int) : Nat → Int
 | 0=>-1
 | i + 1=>if decide (0 < M.getD i 0) && (decide (bestI most M V i < 0) || beats most (V.getD i 0) (V.getD (bestI most M V i).toNat 0)) then i else bestI most M V i
theorem bestI_spec (most : Bool) (M V : List Int) : ∀ i,(bestI most M V i = -1 ∧ ∀ j,j < i → M.getD j 0 ≤ 0) ∨
 ∃ a : Nat,a < i ∧ bestI most M V i = a ∧ 0 < M.getD a 0 ∧ ∀ j,j < i → 0 < M.getD j 0 → leD most (V.getD a 0) (V.getD j 0)
 | 0=>.inl ⟨rfl,fun j hj=>by omega⟩
 | i + 1 => by
   have ih:=bestI_spec most M V i
   simp only [bestI]
   by_cases hm : 0 < M.getD i 0
   · rcases ih with ⟨h1,h2⟩ | ⟨a,h1,h2,h3,h4⟩
     · refine .inr ⟨i,by omega,?_,hm,fun j hj hj0=>?_⟩
       · rw [if_pos (by rw [decide_eq_true hm,h1]; simp)]
       · by_cases e : j = i
         · subst e; unfold leD; split <;> omega
         · have:=h2 j (by omega); omega
     · by_cases hb : beats most (V.getD i 0) (V.getD a 0) = true
       · refine .inr ⟨i,by omega,?_,hm,fun j hj hj0=>?_⟩
         · rw [if_pos (by rw [decide_eq_true hm,h2,Int.toNat_natCast,hb]; simp)]
         · have hia : leD most (V.getD i 0) (V.getD a 0):=by unfold beats at hb; unfold leD; cases most <;> simp at hb ⊢ <;> omega
           by_cases e : j = i
           · subst e; unfold leD; split <;> omega
           · exact leD_trans hia (h4 j (by omega) hj0)
       · refine .inr ⟨a,by omega,?_,h3,fun j hj hj0=>?_⟩
         · rw [if_neg,h2]
           simp only [h2,Int.toNat_natCast,Bool.not_eq_true] at hb ⊢
           simp only [hb]
           simp
         · by_cases e : j = i
           · subst e; unfold beats at hb; unfold leD; cases most <;> simp at hb ⊢ <;> omega
           · exact h4 j (by omega) hj0
   · have hc : ¬ ((decide (0 < M.getD i 0) && (decide (bestI most M V i < 0) || beats most (V.getD i 0) (V.getD (bestI most M V i).toNat 0))) = true):=by rw [decide_eq_false hm]; simp
     rw [if_neg hc]
     rcases ih with ⟨h1,h2⟩ | ⟨a,h1,h2,h3,h4⟩
     · exact .inl ⟨h1,fun j hj=>by
        by_cases e : j = i
        · subst e; omega
        · exact h2 j (by omega)⟩
     · exact .inr ⟨a,by omega,h2,h3,fun j hj hj0=>by
        by_cases e : j = i
        · subst e; omega
        · exact h4 j (by omega) hj0⟩
theorem sum_pos : ∀ {M : List Int},0 < M.sum → ∃ j,j < M.length ∧ 0 < M.getD j 0
 | [],h=>by simp at h
 | m :: M, h => by
   by_cases hm : 0 < m
   · exact ⟨0,by simp,by simpa using hm⟩
   · obtain ⟨j,h1,h2⟩:=sum_pos (M:=M) (by simp only [List.sum_cons] at h; omega)
     exact ⟨j + 1,by simpa using h1,by simpa using h2⟩
theorem sum_set : ∀ {M : List Int} {a : Nat} {y : Int},a < M.length → (M.set a y).sum = M.sum - M.getD a 0 + y
 | m :: M,0,y,_=>by simp; omega
 | m :: M, a + 1, y, h => by
   have:=sum_set (M:=M) (a:=a) (y:=y) (by simpa using h)
   simp at this ⊢
   omega
theorem zip_set : ∀ {M V : List Int} {a : Nat} {y v : Int},V[a]? = some v → (M.set a y).zip V = (M.zip V).set a (y,v)
 | [],_,_,_,_,_=>by simp
 | _ :: _,[],_,_,_,h=>by simp at h
 | m :: M,w :: V,0,y,v,h=>by simp at h; subst h; simp
 | m :: M, w :: V, a + 1, y, v, h => by
   simp at h
   simp only [List.set_cons_succ,List.zip_cons_cons,zip_set (M:=M) (V:=V) (a:=a) (y:=y) h]
structure RefI (most : Bool) (V : List Int) (target : Int) (M : List Int) (left sum : Int) : Prop where
 len : M.length = V.length
 l19 : V.length ≤ 19
 vals : ∀ v ∈ V,0 ≤ v ∧ v ≤ 1000000
 mores : ∀ m ∈ M,0 ≤ m ∧ m ≤ 3000
 ok : GOk (left,sum)
 enough : left ≤ M.sum
 same : ∃ S : List Pv,S.Perm (M.zip V) ∧ SortP most S ∧ (fillP S (left,sum)).2 = target
theorem RefI.done {most : Bool} {V M : List Int} {target left sum : Int} (h : RefI most V target M left sum) (h0 : ¬ 0 < left) : sum = target:=by
 obtain ⟨S,h1,_,h3⟩:=h.same
 have:=h.ok.1.1
 have e : left = 0:=by simp only at this; omega
 rw [e,fillP_done] at h3
 · exact h3
 · intro a ha
   have:=h1.mem_iff.1 ha
   exact (h.mores a.1 (List.of_mem_zip this).1).1
theorem RefI.best {most : Bool} {V M : List Int} {target left sum : Int} (h : RefI most V target M left sum) (h0 : 0 < left) :
 ∃ a : Nat, ∃ m v, a < M.length ∧ bestI most M V M.length = a ∧ M[a]? = some m ∧ V[a]? = some v ∧ 0 < m ∧ (m ≤ 3000 ∧ 0 ≤ v ∧ v ≤ 1000000) ∧
   RefI most V target (M.set a (m - min left m)) (left - min left m) (sum + min left m * v):=by
 rcases bestI_spec most M V M.length with ⟨_,h2⟩ | ⟨a,ha,hb,hm,hbest⟩
 · obtain ⟨j,hj,hj0⟩:=sum_pos (M:=M) (by have:=h.enough; omega)
   have:=h2 j hj
   omega
 · have hav : a < V.length:=by rw [← h.len]; exact ha
   have hma : M[a]? = some M[a]:=List.getElem?_eq_getElem ha
   have hva : V[a]? = some V[a]:=List.getElem?_eq_getElem hav
   have egm : M.getD a 0 = M[a]:=by simp [List.getD,hma]
   have egv : V.getD a 0 = V[a]:=by simp [List.getD,hva]
   have hmb:=h.mores _ (List.getElem_mem ha)
   have hvb:=h.vals _ (List.getElem_mem hav)
   rw [egm] at hm
   refine ⟨a,M[a],V[a],ha,hb,hma,hva,hm,⟨hmb.2,hvb⟩,?_⟩
   obtain ⟨S,hp,hs,hf⟩:=h.same
   have hza : (M.zip V)[a]? = some (M[a],V[a]):=by
    rw [List.getElem?_zip_eq_some]; exact ⟨hma,hva⟩
   have hlz : a < (M.zip V).length:=(List.getElem?_eq_some_iff.1 hza).1
   have hin : (M[a],V[a]) ∈ S:=hp.mem_iff.2 (List.mem_of_getElem? hza)
   obtain ⟨A,B,rfl⟩:=List.append_of_mem hin
   have hn : ∀ x ∈ A ++ (M[a],V[a]) :: B,0 ≤ x.1:=fun x hx=>(h.mores x.1 (List.of_mem_zip (hp.mem_iff.1 hx)).1).1
   have hbt : ∀ x ∈ A ++ (M[a],V[a]) :: B,0 < x.1 → leD most (M[a],V[a]).2 x.2:=fun x hx hx0=>by
    obtain ⟨j,hj⟩:=List.getElem?_of_mem (hp.mem_iff.1 hx)
    obtain ⟨g1,g2⟩:=List.getElem?_zip_eq_some.1 hj
    have:=hbest j (List.getElem?_eq_some_iff.1 g1).1 (by simpa [List.getD,g1] using hx0)
    rw [egv] at this
    simpa [List.getD,g2] using this
   have hst:=fill_step (x:=(left,sum)) hs hn hbt (by simp only; omega)
   obtain ⟨k1,k2,k3⟩:=gOk_step (c:=⟨V[a],0,M[a]⟩) h.ok ⟨hvb,by simp only; omega,by simp only; omega,by simp only; omega⟩
   simp only [Int.sub_zero] at k1 k2 k3
   refine ⟨by simp [h.len],h.l19,h.vals,fun m hm'=>?_,k3,?_,?_⟩
   · rcases List.mem_or_eq_of_mem_set hm' with hm' | rfl
     · exact h.mores m hm'
     · omega
   · rw [sum_set ha,egm]
     have:=h.enough
     omega
   · refine ⟨A ++ (M[a] - min left M[a],V[a]) :: B,?_,?_,?_⟩
     · rw [zip_set hva]
       have hz : M.zip V = (M.zip V).take a ++ (M[a],V[a]) :: (M.zip V).drop (a + 1):=by
        have e:=List.getElem?_eq_some_iff.1 hza
        rw [← e.2,← List.drop_eq_getElem_cons hlz,List.take_append_drop]
       have hset : (M.zip V).set a (M[a] - min left M[a],V[a]) = (M.zip V).take a ++ (M[a] - min left M[a],V[a]) :: (M.zip V).drop (a + 1):=List.set_eq_take_append_cons_drop .. |>.trans (if_pos hlz)
       rw [hset]
       rw [hz] at hp
       have h1:=(List.perm_middle.symm.trans hp).trans List.perm_middle
       exact List.perm_middle.trans (((List.perm_cons _).1 h1).cons _ |>.trans List.perm_middle.symm)
     · have h1:=List.pairwise_append.1 hs
       have h2:=List.pairwise_cons.1 h1.2.1
       refine List.pairwise_append.2 ⟨h1.1,List.pairwise_cons.2 ⟨h2.1,h2.2⟩,fun x hx y hy=>?_⟩
       rcases List.mem_cons.1 hy with rfl | hy
       · exact h1.2.2 x hx (M[a],V[a]) (by simp)
       · exact h1.2.2 x hx y (by simp [hy])
     · rw [hst]
       exact hf
theorem RefI.start {most : Bool} {den : Int} {l : List Bd} (h : ChG den l) (hh : den ≤ hiS l) :
 RefI most (l.map (·.b)) (fillG (sortN (ltD most) l) (den - loS (sortN (ltD most) l),loV (sortN (ltD most) l))).2 (l.map fun c=>c.hi - c.lo) (den - loS l) (loV l):=by
 have hp:=sortN_perm (ltD most) l
 have e1 : loS (sortN (ltD most) l) = loS l:=perm_sum hp
 have e2 : loV (sortN (ltD most) l) = loV l:=perm_sum hp
 have hl:=h.low
 have hd:=h.den1
 have hv:=loV_le h.each
 have hlen:=h.len
 have hlo0 : 0 ≤ loS l:=by
  have : ∀ m : List Bd,(∀ c ∈ m,0 ≤ c.lo) → 0 ≤ loS m:=by
   intro m
   induction m with
   | nil=>intro _; simp [loS]
   | cons c m ih=>intro hc; have h1:=hc c (by simp); have h2:=ih fun x hx=>hc x (by simp [hx]); simp only [loS,List.map_cons,List.sum_cons] at h2 ⊢; omega
  exact this l fun c hc=>(h.each c hc).2.1
 refine ⟨by simp,by simpa using hlen,?_,?_,?_,?_,?_⟩
 · intro v hv
   obtain ⟨c,hc,rfl⟩:=List.mem_map.1 hv
   exact (h.each c hc).1
 · intro m hm
   obtain ⟨c,hc,rfl⟩:=List.mem_map.1 hm
   obtain ⟨_,g0,g1,g2⟩:=h.each c hc
   omega
 · refine ⟨⟨by simp only; omega,by simp only; omega⟩,by simp only; omega,by simp only; omega⟩
 · have : (l.map fun c=>c.hi - c.lo).sum = hiS l - loS l:=by
    clear hh hp e1 e2 hl hv hlen hlo0 h
    induction l with
    | nil=>simp [hiS,loS]
    | cons c l ih=>simp only [hiS,loS,List.map_cons,List.sum_cons] at ih ⊢; omega
   omega
 · refine ⟨(sortN (ltD most) l).map fun c=>(c.hi - c.lo,c.b),?_,?_,?_⟩
   · have : (l.map fun c=>c.hi - c.lo).zip (l.map (·.b)) = l.map fun c=>(c.hi - c.lo,c.b):=by
      rw [List.zip_map',]
     rw [this]
     exact hp.map _
   · exact List.Pairwise.map _ (fun a b h=>h) (sortN_pw l)
   · rw [← fillG_P,e1,e2]
end Go.Proofs.Ytlbfkhikmigpbaa

namespace Go.Proofs.Ytlbfkhikmigpbaa
open Go Go.Oc
set_option linter.unusedSimpArgs false
set_option linter.unusedVariables false
set_option maxRecDepth 8000
set_option maxHeartbeats 4000000 in
theorem refMean_ok (a : Am) (f : Int → Int) (most : Bool) (den : Int) (h : ChG den (chW f a.beds)) (hh : den ≤ hiS (chW f a.beds)) :
 ACalls Try.prog 77 [aimV a,i64 den,ints (a.beds.map fun c=>f c.b),.bo most] (i64 (meanD most den (chW f a.beds))):=by
 have hst:=RefI.start (most:=most) h hh
 generalize hL : chW f a.beds = L at h hst ⊢
 have hlen : L.length = a.beds.length:=by rw [← hL]; simp [chW]
 have hV : (a.beds.map fun c=>f c.b) = L.map (·.b):=by rw [← hL]; simp [chW]
 have hM : (a.beds.map fun c=>c.hi - c.lo) = L.map fun c=>c.hi - c.lo:=by rw [← hL]; simp [chW]
 have hl19:=h.len
 have hd1:=h.den1
 have hlow:=h.low
 have hlv:=loV_le h.each
 have hsub : ∀ i,0 ≤ loS (L.take i) ∧ loS (L.take i) ≤ loS L ∧ 0 ≤ loV (L.take i) ∧ loV (L.take i) ≤ 57000000000:=fun i=>by
  have e : L.take i ++ L.drop i = L:=List.take_append_drop i L
  have hE : ∀ c ∈ L.take i,(0 ≤ c.b ∧ c.b ≤ 1000000) ∧ 0 ≤ c.lo ∧ c.lo ≤ c.hi ∧ c.hi ≤ 3000:=fun c hc=>h.each c (List.mem_of_mem_take hc)
  have hnn : ∀ m : List Bd,(∀ c ∈ m,0 ≤ c.lo) → 0 ≤ loS m:=by
   intro m
   induction m with
   | nil=>intro _; simp [loS]
   | cons c m ih=>intro hc; have h1:=hc c (by simp); have h2:=ih fun x hx=>hc x (by simp [hx]); simp only [loS,List.map_cons,List.sum_cons] at h2 ⊢; omega
  have h1:=hnn (L.take i) fun c hc=>(hE c hc).2.1
  have h2:=hnn (L.drop i) fun c hc=>(h.each c (List.mem_of_mem_drop hc)).2.1
  have h3 : loS L = loS (L.take i) + loS (L.drop i):=by
   have:=congrArg loS e
   rw [← this]
   simp only [loS,List.map_append,List.sum_append]
  obtain ⟨v0,v1⟩:=loV_le hE
  have hli : (L.take i).length ≤ 19:=by simp; omega
  exact ⟨h1,by omega,v0,by omega⟩
 rw [hV]
 refine acalls_st (rs:=[i64 (meanD most den L)]) [.tmp 8] Try.func77 rfl (by kernel_rfl) Try.ntmps77 rfl (by simp) rfl fun C vs=>?_
 repeat refine zq ?_
 refine zb (by kernel_rfl) fun K hK=>?_
 simp only [go_sem]
 (try simp (disch:=omega) only [zI])
 repeat first | intro _ | refine ⟨by omega,?_⟩ | refine ⟨⟨by omega,by omega⟩,?_⟩
 refine hK _ ?_
 clear hK K
 refine zw (sub_frzP 4 4 (aimR a) (by omega) rfl rfl) ?_
 simp only [go_sem,aimR]
 refine zw (zk [1,2,3,4]) ?_
 simp only [go_sem]
 repeat refine zq ?_
 refine zb (by kernel_rfl) fun K hK=>?_
 simp only [go_sem]
 (try simp (disch:=omega) only [zI])
 repeat first | intro _ | refine ⟨by omega,?_⟩ | refine ⟨⟨by omega,by omega⟩,?_⟩
 refine hK _ ?_
 clear hK K
 refine zw (zk [1,2,3,4,9,10,11]) ?_
 simp only [go_sem]
 refine zw (sub_own 9 39 3 1 (by omega) rfl) ?_
 try simp only [go_sem]
 repeat refine zq ?_
 refine zb (by kernel_rfl) fun K hK=>?_
 simp only [go_sem]
 (try simp (disch:=omega) only [zI])
 repeat first | intro _ | refine ⟨by omega,?_⟩ | refine ⟨⟨by omega,by omega⟩,?_⟩
 refine hK _ ?_
 clear hK K
 refine zw (zk [1,2,3,4,9,10,11,12]) ?_
 simp only [go_sem]
 repeat refine zq ?_
 refine zd ?_
 refine awp_uptoV (n:=130) a.beds.length (fun i vs=>[(1,.r (i64 den)),(2,.r (ints (L.map (·.b)))),(3,.r (.bo most)),(4,.r (.rp [i64 a.at_,bedsR a.beds])),(9,.os 39 (vs 39) 1 0 i),(10,.r (i64 (den - loS (L.take i)))),(11,.r (i64 (loV (L.take i)))),(12,.r (i64 i))])
  (fun i vs=>[(39,.arr 3 1 (((L.map fun c=>c.hi - c.lo).take i).map fun x=>[i64 x]))]) (fun _=>True) 0 (zj [] ?_ ?_) (Nat.zero_le _) trivial ?_
 · try simp only [go_sem]
   simp [loS,loV]
 · try simp only [go_sem]
 · intro i vs hi _
   repeat refine zq ?_
   refine zb (by kernel_rfl) fun K hK=>?_
   simp only [go_sem]
   (try simp (disch:=omega) only [zI])
   repeat first | intro _ | refine ⟨by omega,?_⟩ | refine ⟨⟨by omega,by omega⟩,?_⟩
   refine hK _ ?_
   clear hK K
   refine zw (zk [1,2,3,4,9,10,11,12,23]) ?_
   simp only [go_sem]
   repeat refine zq ?_
   refine zc rfl (fun hc=>?_) (fun hc=>?_) <;> (try simp only [go_sem] at hc)
   · have hci : i < a.beds.length:=by omega
     have hcL : i < L.length:=by omega
     obtain ⟨x,hx⟩:=opt_of_lt hci
     obtain ⟨c,hc⟩:=opt_of_lt hcL
     have hcx : c.lo = x.lo ∧ c.hi = x.hi:=by
      rw [← hL] at hc
      simp only [chW,List.getElem?_map,hx,Option.map_some,Option.some.injEq] at hc
      rw [← hc]; exact ⟨rfl,rfl⟩
     obtain ⟨⟨b0,b1⟩,g0,g1,g2⟩:=h.each c (mem_of_opt hc)
     have m0:=Int.mul_nonneg g0 b0
     have m1 : c.lo * c.b ≤ 3000 * 1000000:=Int.mul_le_mul (by omega) b1 b0 (by omega)
     have hs0:=hsub i
     have hs1:=hsub (i + 1)
     have hlS : loS (L.take (i + 1)) = loS (L.take i) + c.lo:=by rw [take_of_opt hc,loS_snoc]
     have hlV : loV (L.take (i + 1)) = loV (L.take i) + c.lo * c.b:=by rw [take_of_opt hc,loV_snoc]
     have hMt : (L.map fun c=>c.hi - c.lo).take (i + 1) = (L.map fun c=>c.hi - c.lo).take i ++ [c.hi - c.lo]:=take_of_opt (by simp [hc])
     have hmw : IntKind.i64.wrap (c.lo * c.b) = c.lo * c.b:=by rw [zI] <;> omega
     have hli : ((L.map fun c=>c.hi - c.lo).take i).length = i:=by rw [List.length_take]; simp; omega
     have hdw : IntKind.i64.wrap (c.hi - c.lo) = c.hi - c.lo:=by rw [zI] <;> omega
     have hbw : (L.map (·.b))[i]? = some c.b:=by simp [hc]
     have hbl : i < (L.map (·.b)).length:=by simpa using hcL
     refine zx ?_
     try simp only [go_sem]
     repeat refine zq ?_
     refine zd ?_
     repeat refine zq ?_
     refine zb (by kernel_rfl) fun K hK=>?_
     simp only [go_sem,hx,hci,bedR]
     (try simp (disch:=omega) only [zI])
     repeat first | intro _ | refine ⟨by omega,?_⟩ | refine ⟨⟨by omega,by omega⟩,?_⟩
     refine hK _ ?_
     clear hK K
     refine zw (sub_frzP 13 13 [i64 x.lo,i64 x.hi] (by omega) rfl rfl) ?_
     rw [← hcx.1,← hcx.2]
     refine zw (zk [1,2,3,4,9,10,11,12,13]) ?_
     simp only [go_sem]
     repeat refine zq ?_
     refine zb (by kernel_rfl) fun K hK=>?_
     simp only [go_sem,hdw,hli]
     (try simp (disch:=omega) only [zI])
     repeat first | intro _ | refine ⟨by omega,?_⟩ | refine ⟨⟨by omega,by omega⟩,?_⟩
     refine hK _ ?_
     clear hK K
     refine zw (zk [1,2,3,4,9,10,11,12,13]) ?_
     simp only [go_sem]
     repeat refine zq ?_
     refine zg follows (by decide +kernel) (by kernel_rfl) fun K hK=>?_
     simp only [go_sem,hbw,hbl,hcL,hmw]
     (try simp (disch:=omega) only [zI])
     repeat first | intro _ | refine ⟨by omega,?_⟩ | refine ⟨⟨by omega,by omega⟩,?_⟩
     refine hK _ ?_
     clear hK K
     refine zw (zk [1,2,3,4,9,10,11,12]) ?_
     simp only [go_sem]
     repeat refine zq ?_
     refine zb (by kernel_rfl) fun K hK=>?_
     simp only [go_sem]
     (try simp (disch:=omega) only [zI])
     repeat first | intro _ | refine ⟨by omega,?_⟩ | refine ⟨⟨by omega,by omega⟩,?_⟩
     refine hK _ ?_
     clear hK K
     try simp only [go_sem]
     refine ⟨by omega,zj [] ?_ ?_⟩
     · try simp only [go_sem]
       rw [hlS,hlV]
       exact ⟨by omega,rfl⟩
     · try simp only [go_sem]
       rw [hMt]
       simp
   · have hil : i = a.beds.length:=by omega
     have hiL : i = L.length:=by omega
     subst hil
     rw [hiL,List.take_length,List.take_of_length_le (by simp)]
     refine zf ?_
     simp only [go_sem]
     refine zw (zk [1,2,3,9,10,11]) ?_
     simp only [go_sem]
     repeat refine zq ?_
     refine zd ?_
     refine awp_whileV (n:=130) (α:=List Int × Int × Int) (fun x vs=>[(1,.r (i64 den)),(2,.r (ints (L.map (·.b)))),(3,.r (.bo most)),(9,.os 39 (vs 39) 1 0 L.length),(10,.r (i64 x.2.1)),(11,.r (i64 x.2.2))])
      (fun x vs=>[(39,.arr 3 1 (x.1.map fun m=>[i64 m]))]) (fun x=>RefI most (L.map (·.b)) (fillG (sortN (ltD most) L) (den - loS (sortN (ltD most) L),loV (sortN (ltD most) L))).2 x.1 x.2.1 x.2.2) (fun x=>x.2.1.toNat)
      (L.map fun c=>c.hi - c.lo,den - loS L,loV L) (zj [] ?_ ?_) hst ?_
     · try simp only [go_sem]
     · try simp only [go_sem]
     · rintro ⟨M,left,sum⟩ vs hI
       simp only at hI ⊢
       generalize hVV : L.map (·.b) = V at hI ⊢
       generalize htg : (fillG (sortN (ltD most) L) (den - loS (sortN (ltD most) L),loV (sortN (ltD most) L))).2 = target at hI ⊢
       have hMl : M.length = L.length:=by rw [hI.len,← hVV]; simp
       have hVl : V.length = L.length:=by rw [← hVV]; simp
       have hok:=hI.ok
       repeat refine zq ?_
       refine zb (by kernel_rfl) fun K hK=>?_
       simp only [go_sem]
       (try simp (disch:=omega) only [zI])
       repeat first | intro _ | refine ⟨by omega,?_⟩ | refine ⟨⟨by omega,by omega⟩,?_⟩
       refine hK _ ?_
       clear hK K
       refine zw (zk [1,2,3,9,10,11,54]) ?_
       simp only [go_sem]
       repeat refine zq ?_
       refine zc rfl (fun hc=>?_) (fun hc=>?_) <;> (try simp only [go_sem] at hc)
       · have hcl:=hc
         obtain ⟨a,m,v,ha,hbe,hMa,hVa,hm0,⟨hm1,hv0,hv1⟩,hI'⟩:=hI.best hcl
         refine zx ?_
         try simp only [go_sem]
         repeat refine zq ?_
         refine zd ?_
         repeat refine zq ?_
         refine zb (by kernel_rfl) fun K hK=>?_
         simp only [go_sem]
         (try simp (disch:=omega) only [zI])
         repeat first | intro _ | refine ⟨by omega,?_⟩ | refine ⟨⟨by omega,by omega⟩,?_⟩
         refine hK _ ?_
         clear hK K
         refine zw (zk [1,2,3,9,10,11,14]) ?_
         simp only [go_sem]
         repeat refine zq ?_
         refine zb (by kernel_rfl) fun K hK=>?_
         simp only [go_sem]
         (try simp (disch:=omega) only [zI])
         repeat first | intro _ | refine ⟨by omega,?_⟩ | refine ⟨⟨by omega,by omega⟩,?_⟩
         refine hK _ ?_
         clear hK K
         refine zw (zk [1,2,3,9,10,11,14,15]) ?_
         simp only [go_sem]
         repeat refine zq ?_
         refine zd ?_
         refine awp_uptoV (n:=130) L.length (fun i vs=>[(1,.r (i64 den)),(2,.r (ints V)),(3,.r (.bo most)),(9,.os 39 (vs 39) 1 0 L.length),(10,.r (i64 left)),(11,.r (i64 sum)),(14,.r (i64 (bestI most M V i))),(15,.r (i64 i))])
          (fun i vs=>[(39,.arr 3 1 (M.map fun m=>[i64 m]))]) (fun _=>True) 0 (zj [] ?_ ?_) (Nat.zero_le _) trivial ?_
         · try simp only [go_sem]
           rfl
         · try simp only [go_sem]
         · intro i vs hi _
           repeat refine zq ?_
           refine zb (by kernel_rfl) fun K hK=>?_
           simp only [go_sem]
           (try simp (disch:=omega) only [zI])
           repeat first | intro _ | refine ⟨by omega,?_⟩ | refine ⟨⟨by omega,by omega⟩,?_⟩
           refine hK _ ?_
           clear hK K
           refine zw (zk [1,2,3,9,10,11,14,15,58]) ?_
           simp only [go_sem]
           repeat refine zq ?_
           refine zc rfl (fun hc=>?_) (fun hc=>?_) <;> (try simp only [go_sem] at hc)
           · have hci : i < M.length:=by omega
             have hci2 : i < L.length:=by omega
             have hciV : i < V.length:=by omega
             obtain ⟨mi,hmi⟩:=opt_of_lt hci
             obtain ⟨vi,hvi⟩:=opt_of_lt hciV
             have gm : M.getD i 0 = mi:=by simp [List.getD,hmi]
             have gv : V.getD i 0 = vi:=by simp [List.getD,hvi]
             have hB : bestI most M V (i + 1) = if decide (0 < mi) && (decide (bestI most M V i < 0) || beats most vi (V.getD (bestI most M V i).toNat 0)) then (i : Int) else bestI most M V i:=by
              simp only [bestI,gm,gv]
             refine zx ?_
             try simp only [go_sem]
             repeat refine zq ?_
             refine zd ?_
             by_cases hmp : 0 < mi
             · have d1 : decide (0 < mi) = true:=by simpa using hmp
               rcases bestI_spec most M V i with ⟨g1,_⟩ | ⟨q,hq,g1,g2,g3⟩
               · rw [g1] at hB ⊢
                 repeat refine zq ?_
                 refine zg follows (by decide +kernel) (by kernel_rfl) fun K hK=>?_
                 simp only [go_sem,hmi,hci,hci2,d1]
                 (try simp (disch:=omega) only [zI])
                 repeat first | intro _ | refine ⟨by omega,?_⟩ | refine ⟨⟨by omega,by omega⟩,?_⟩
                 refine hK _ ?_
                 clear hK K
                 refine zw (zk [1,2,3,9,10,11,14,15,98]) ?_
                 simp only [go_sem]
                 repeat refine zq ?_
                 refine zc rfl (fun hc=>?_) (fun hc=>?_) <;> (try simp only [go_sem] at hc)
                 repeat refine zq ?_
                 refine zb (by kernel_rfl) fun K hK=>?_
                 simp only [go_sem]
                 (try simp (disch:=omega) only [zI])
                 repeat first | intro _ | refine ⟨by omega,?_⟩ | refine ⟨⟨by omega,by omega⟩,?_⟩
                 refine hK _ ?_
                 clear hK K
                 refine zw (zk [1,2,3,9,10,11,14,15]) ?_
                 simp only [go_sem]
                 repeat refine zq ?_
                 refine zb (by kernel_rfl) fun K hK=>?_
                 simp only [go_sem]
                 (try simp (disch:=omega) only [zI])
                 repeat first | intro _ | refine ⟨by omega,?_⟩ | refine ⟨⟨by omega,by omega⟩,?_⟩
                 refine hK _ ?_
                 clear hK K
                 try simp only [go_sem]
                 refine ⟨by omega,zj [] ?_ ?_⟩
                 · try simp only [go_sem]
                   rw [hB]; simp [hmp]
                 · try simp only [go_sem]
               · have hqV : q < V.length:=by omega
                 obtain ⟨vq,hvq⟩:=opt_of_lt hqV
                 have gq : V.getD q 0 = vq:=by simp [List.getD,hvq]
                 rw [g1] at hB ⊢
                 rw [Int.toNat_natCast,gq] at hB
                 have d2 : decide ((q : Int) < 0) = false:=by simp
                 have hqL : q < L.length:=by omega
                 cases most
                 · by_cases hlt : vi < vq
                   · have d3 : decide (vi < vq) = true:=by simpa using hlt
                     repeat refine zq ?_
                     refine zg follows (by decide +kernel) (by kernel_rfl) fun K hK=>?_
                     simp only [go_sem,hmi,hci,hci2,d1,d2,d3,hvi,hvq,hciV,hqV,hqL]
                     (try simp (disch:=omega) only [zI])
                     repeat first | intro _ | refine ⟨by omega,?_⟩ | refine ⟨⟨by omega,by omega⟩,?_⟩
                     refine hK _ ?_
                     clear hK K
                     refine zw (zk [1,2,3,9,10,11,14,15,98]) ?_
                     simp only [go_sem]
                     repeat refine zq ?_
                     refine zc rfl (fun hc=>?_) (fun hc=>?_) <;> (try simp only [go_sem] at hc)
                     repeat refine zq ?_
                     refine zb (by kernel_rfl) fun K hK=>?_
                     simp only [go_sem]
                     (try simp (disch:=omega) only [zI])
                     repeat first | intro _ | refine ⟨by omega,?_⟩ | refine ⟨⟨by omega,by omega⟩,?_⟩
                     refine hK _ ?_
                     clear hK K
                     refine zw (zk [1,2,3,9,10,11,14,15]) ?_
                     simp only [go_sem]
                     repeat refine zq ?_
                     refine zb (by kernel_rfl) fun K hK=>?_
                     simp only [go_sem]
                     (try simp (disch:=omega) only [zI])
                     repeat first | intro _ | refine ⟨by omega,?_⟩ | refine ⟨⟨by omega,by omega⟩,?_⟩
                     refine hK _ ?_
                     clear hK K
                     try simp only [go_sem]
                     refine ⟨by omega,zj [] ?_ ?_⟩
                     · try simp only [go_sem]
                       rw [hB]; simp [hmp,beats,hlt]
                     · try simp only [go_sem]
                   · have d3 : decide (vi < vq) = false:=by simpa using hlt
                     repeat refine zq ?_
                     refine zg follows (by decide +kernel) (by kernel_rfl) fun K hK=>?_
                     simp only [go_sem,hmi,hci,hci2,d1,d2,d3,hvi,hvq,hciV,hqV,hqL]
                     (try simp (disch:=omega) only [zI])
                     repeat first | intro _ | refine ⟨by omega,?_⟩ | refine ⟨⟨by omega,by omega⟩,?_⟩
                     refine hK _ ?_
                     clear hK K
                     refine zw (zk [1,2,3,9,10,11,14,15,98]) ?_
                     simp only [go_sem]
                     repeat refine zq ?_
                     refine zc rfl (fun hc=>?_) (fun hc=>?_) <;> (try simp only [go_sem] at hc)
                     refine zx ?_
                     try simp only [go_sem]
                     repeat refine zq ?_
                     refine zb (by kernel_rfl) fun K hK=>?_
                     simp only [go_sem]
                     (try simp (disch:=omega) only [zI])
                     repeat first | intro _ | refine ⟨by omega,?_⟩ | refine ⟨⟨by omega,by omega⟩,?_⟩
                     refine hK _ ?_
                     clear hK K
                     try simp only [go_sem]
                     refine ⟨by omega,zj [] ?_ ?_⟩
                     · try simp only [go_sem]
                       rw [hB]; simp [hmp,beats,hlt]
                       try omega
                     · try simp only [go_sem]
                 · by_cases hlt : vq < vi
                   · have d3 : decide (vq < vi) = true:=by simpa using hlt
                     repeat refine zq ?_
                     refine zg follows (by decide +kernel) (by kernel_rfl) fun K hK=>?_
                     simp only [go_sem,hmi,hci,hci2,d1,d2,d3,hvi,hvq,hciV,hqV,hqL]
                     (try simp (disch:=omega) only [zI])
                     repeat first | intro _ | refine ⟨by omega,?_⟩ | refine ⟨⟨by omega,by omega⟩,?_⟩
                     refine hK _ ?_
                     clear hK K
                     refine zw (zk [1,2,3,9,10,11,14,15,98]) ?_
                     simp only [go_sem]
                     repeat refine zq ?_
                     refine zc rfl (fun hc=>?_) (fun hc=>?_) <;> (try simp only [go_sem] at hc)
                     repeat refine zq ?_
                     refine zb (by kernel_rfl) fun K hK=>?_
                     simp only [go_sem]
                     (try simp (disch:=omega) only [zI])
                     repeat first | intro _ | refine ⟨by omega,?_⟩ | refine ⟨⟨by omega,by omega⟩,?_⟩
                     refine hK _ ?_
                     clear hK K
                     refine zw (zk [1,2,3,9,10,11,14,15]) ?_
                     simp only [go_sem]
                     repeat refine zq ?_
                     refine zb (by kernel_rfl) fun K hK=>?_
                     simp only [go_sem]
                     (try simp (disch:=omega) only [zI])
                     repeat first | intro _ | refine ⟨by omega,?_⟩ | refine ⟨⟨by omega,by omega⟩,?_⟩
                     refine hK _ ?_
                     clear hK K
                     try simp only [go_sem]
                     refine ⟨by omega,zj [] ?_ ?_⟩
                     · try simp only [go_sem]
                       rw [hB]; simp [hmp,beats,hlt]
                     · try simp only [go_sem]
                   · have d3 : decide (vq < vi) = false:=by simpa using hlt
                     repeat refine zq ?_
                     refine zg follows (by decide +kernel) (by kernel_rfl) fun K hK=>?_
                     simp only [go_sem,hmi,hci,hci2,d1,d2,d3,hvi,hvq,hciV,hqV,hqL]
                     (try simp (disch:=omega) only [zI])
                     repeat first | intro _ | refine ⟨by omega,?_⟩ | refine ⟨⟨by omega,by omega⟩,?_⟩
                     refine hK _ ?_
                     clear hK K
                     refine zw (zk [1,2,3,9,10,11,14,15,98]) ?_
                     simp only [go_sem]
                     repeat refine zq ?_
                     refine zc rfl (fun hc=>?_) (fun hc=>?_) <;> (try simp only [go_sem] at hc)
                     refine zx ?_
                     try simp only [go_sem]
                     repeat refine zq ?_
                     refine zb (by kernel_rfl) fun K hK=>?_
                     simp only [go_sem]
                     (try simp (disch:=omega) only [zI])
                     repeat first | intro _ | refine ⟨by omega,?_⟩ | refine ⟨⟨by omega,by omega⟩,?_⟩
                     refine hK _ ?_
                     clear hK K
                     try simp only [go_sem]
                     refine ⟨by omega,zj [] ?_ ?_⟩
                     · try simp only [go_sem]
                       rw [hB]; simp [hmp,beats,hlt]
                       try omega
                     · try simp only [go_sem]
             · have d1 : decide (0 < mi) = false:=by simpa using hmp
               repeat refine zq ?_
               refine zg follows (by decide +kernel) (by kernel_rfl) fun K hK=>?_
               simp only [go_sem,hmi,hci,hci2,d1]
               (try simp (disch:=omega) only [zI])
               repeat first | intro _ | refine ⟨by omega,?_⟩ | refine ⟨⟨by omega,by omega⟩,?_⟩
               refine hK _ ?_
               clear hK K
               refine zw (zk [1,2,3,9,10,11,14,15,98]) ?_
               simp only [go_sem]
               repeat refine zq ?_
               refine zc rfl (fun hc=>?_) (fun hc=>?_) <;> (try simp only [go_sem] at hc)
               refine zx ?_
               try simp only [go_sem]
               repeat refine zq ?_
               refine zb (by kernel_rfl) fun K hK=>?_
               simp only [go_sem]
               (try simp (disch:=omega) only [zI])
               repeat first | intro _ | refine ⟨by omega,?_⟩ | refine ⟨⟨by omega,by omega⟩,?_⟩
               refine hK _ ?_
               clear hK K
               try simp only [go_sem]
               refine ⟨by omega,zj [] ?_ ?_⟩
               · try simp only [go_sem]
                 rw [hB]; simp [hmp]
               · try simp only [go_sem]
           · have hil : i = M.length:=by omega
             rw [hil,hbe]
             have haL : a < L.length:=by omega
             have haV : a < V.length:=by omega
             obtain ⟨⟨k0,k1⟩,⟨k2,k3⟩,_⟩:=gOk_step (c:=⟨v,0,m⟩) hok ⟨⟨hv0,hv1⟩,by simp only; omega,by simp only; omega,by simp only; omega⟩
             simp only [Int.sub_zero] at k0 k1 k2 k3
             have hok2:=hok.2
             simp only at hok2
             have hok1:=hok.1
             simp only at hok1
             have hm2 : IntKind.i64.wrap (min left m * v) = min left m * v:=by rw [zI] <;> omega
             refine zf ?_
             simp only [go_sem]
             repeat refine zq ?_
             refine zb (by kernel_rfl) fun K hK=>?_
             simp only [go_sem,hMa,ha,haL]
             (try simp (disch:=omega) only [zI])
             repeat first | intro _ | refine ⟨by omega,?_⟩ | refine ⟨⟨by omega,by omega⟩,?_⟩
             refine hK _ ?_
             clear hK K
             refine zw (zk [1,2,3,9,10,11,14,16]) ?_
             simp only [go_sem]
             generalize hn : min left m = n at *
             repeat refine zq ?_
             refine awp_dreg2 [(9,some 39),(14,none),(16,none),(10,none),(11,none),(2,none)] follows (by decide +kernel) (by kernel_rfl) (by simp only [keysOk,List.mem_cons,List.not_mem_nil,forall_eq_or_imp,Oc.keyOf,go_sem]; simp) fun K hK=>?_
             simp only [go_sem,hMa,ha,haL,hVa,haV,hm2]
             (try simp (disch:=omega) only [zI])
             repeat first | intro _ | refine ⟨by omega,?_⟩ | refine ⟨⟨by omega,by omega⟩,?_⟩
             refine hK _ ?_
             clear hK K
             try simp only [go_sem]
             refine ⟨(M.set a (m - n),left - n,sum + n * v),hI',by simp only; omega,zj [] ?_ ?_⟩
             · try simp only [go_sem]
             · try simp only [go_sem]
               rw [List.map_set]
       · have hfin:=hI.done hc
         have hov:=refOver_ok most sum den hok.2.1 (by have:=hok.2.2; have:=hok.1; simp only at *; omega) h.den0 (by omega)
         refine zf ?_
         simp only [go_sem]
         repeat refine zq ?_
         refine zb (by kernel_rfl) fun K hK=>?_
         simp only [go_sem]
         (try simp (disch:=omega) only [zI])
         refine zh (hov) rfl (by simp only [go_sem,i64,ints]) (by simp only [go_sem,i64,ints]) (by first | exact .inl rfl | exact .inr rfl) ?_
         (try simp only [go_sem])
         (try simp (disch:=omega) only [zI])
         repeat first | intro _ | refine ⟨by omega,?_⟩ | refine ⟨⟨by omega,by omega⟩,?_⟩
         refine hK _ ?_
         clear hK K
         refine zw (zk [8]) ?_
         simp only [go_sem]
         refine ze ?_
         simp only [go_sem]
         unfold meanD
         rw [htg,hfin]
end Go.Proofs.Ytlbfkhikmigpbaa

namespace Go.Oc
open Go Go.RowKit
set_option linter.unusedVariables false
section
variable {ρ : List (Nat × Nat)} {ver ver' : Nat → Nat}
mutual
theorem lendA_congr (hv : ∀ k,(lendKey ρ k).isSome = true → ver' k = ver k) : ∀ x : AV,lendA ρ ver' x = lendA ρ ver x
 | .r _=>by simp only [lendA]
 | .tu _=>by simp only [lendA]
 | .mi _ _=>by simp only [lendA]
 | .pt k _ _=>by simp only [lendA]; cases e : lendKey ρ k with | none=>rfl | some pk=>rw [hv k (by rw [e]; rfl)]
 | .pe k _ _ _ _=>by simp only [lendA]; cases e : lendKey ρ k with | none=>rfl | some pk=>rw [hv k (by rw [e]; rfl)]
 | .os k _ _ _ _=>by simp only [lendA]; cases e : lendKey ρ k with | none=>rfl | some pk=>rw [hv k (by rw [e]; rfl)]
 | .mp k _=>by simp only [lendA]; cases e : lendKey ρ k with | none=>rfl | some pk=>rw [hv k (by rw [e]; rfl)]
 | .pu k _ _=>by simp only [lendA]; cases e : lendKey ρ k with | none=>rfl | some pk=>rw [hv k (by rw [e]; rfl)]
 | .fn _ cs=>by simp only [lendA]; rw [lendL_congr hv cs]
 | .ag cs=>by simp only [lendA]; rw [lendL_congr hv cs]
theorem lendL_congr (hv : ∀ k,(lendKey ρ k).isSome = true → ver' k = ver k) : ∀ xs : List AV,lendL ρ ver' xs = lendL ρ ver xs
 | []=>by simp only [lendL]
 | x :: xs=>by simp only [lendL]; rw [lendA_congr hv x,lendL_congr hv xs]
end
theorem lendC_congr (hv : ∀ k,(lendKey ρ k).isSome = true → ver' k = ver k) (c : RowC) : lendC ρ ver' c = lendC ρ ver c:=by
 cases c <;> simp only [lendC]
 rw [lendL_congr hv]
theorem key_of_pin : ∀ {ρ : List (Nat × Nat)} {j ck : Nat},pinOf ρ j = some ck → (lendKey ρ ck).isSome = true
 | [],_,_,h=>by simp [pinOf] at h
 | (x, y) :: ρ, j, ck, h => by
   simp only [pinOf] at h
   simp only [lendKey]
   split at h
   · injection h with h; subst h; simp
   · split
     · rfl
     · exact key_of_pin h
mutual
theorem backA_congr (hv : ∀ k,(lendKey ρ k).isSome = true → ver' k = ver k) : ∀ x : AV,backA ρ ver' x = backA ρ ver x
 | .r _=>by simp only [backA]
 | .mi _ _=>by simp only [backA]
 | .pt k _ _=>by simp only [backA]; cases e : pinOf ρ k with | none=>rfl | some ck=>simp only [hv ck (key_of_pin e)]
 | .pe k _ _ _ _=>by simp only [backA]; cases e : pinOf ρ k with | none=>rfl | some ck=>simp only [hv ck (key_of_pin e)]
 | .os k _ _ _ _=>by simp only [backA]; cases e : pinOf ρ k with | none=>rfl | some ck=>simp only [hv ck (key_of_pin e)]
 | .mp k _=>by simp only [backA]; cases e : pinOf ρ k with | none=>rfl | some ck=>simp only [hv ck (key_of_pin e)]
 | .pu k _ _=>by simp only [backA]; cases e : pinOf ρ k with | none=>rfl | some ck=>simp only [hv ck (key_of_pin e)]
 | .tu cs=>by simp only [backA]; rw [backL_congr hv cs]
 | .fn _ cs=>by simp only [backA]; rw [backL_congr hv cs]
 | .ag cs=>by simp only [backA]; rw [backL_congr hv cs]
theorem backL_congr (hv : ∀ k,(lendKey ρ k).isSome = true → ver' k = ver k) : ∀ xs : List AV,backL ρ ver' xs = backL ρ ver xs
 | []=>by simp only [backL]
 | x :: xs=>by simp only [backL]; rw [backA_congr hv x,backL_congr hv xs]
end
theorem backC_congr (hv : ∀ k,(lendKey ρ k).isSome = true → ver' k = ver k) (c : RowC) : backC ρ ver' c = backC ρ ver c:=by
 cases c <;> simp only [backC]
 rw [backL_congr hv]
theorem lendOk_congr {s s' : AS} (hr : ∀ k,(lendKey ρ k).isSome = true → s'.rows k = s.rows k) : ∀ {l : List (Nat × Nat)} {L : List (Nat × RowC)},(∀ x ∈ l,(lendKey ρ x.2).isSome = true) → lendOk ρ s l L → lendOk ρ s' l L
 | [],[],_,h=>h
 | [],_ :: _,_,h=>h.elim
 | _ :: _,[],_,h=>h.elim
 | (a, b) :: l, (k, c) :: L, hl, h => by
   simp only [lendOk] at h ⊢
   obtain ⟨h1,h2,h3⟩:=h
   refine ⟨h1,?_,lendOk_congr hr (fun x hx=>hl x (by simp [hx])) h3⟩
   rw [hr b (hl (a,b) (by simp)),lendC_congr (ver:=s.ver) fun k hk=>by show (s'.rows k).ver = _; rw [hr k hk]; rfl]
   exact h2
theorem lendKey_mem : ∀ {ρ : List (Nat × Nat)} {x : Nat × Nat},x ∈ ρ → (lendKey ρ x.2).isSome = true
 | (a, b) :: ρ, x, h => by
   simp only [lendKey]
   split
   · rfl
   · rename_i hne
     rcases List.mem_cons.1 h with h | h
     · subst h; exact absurd rfl hne
     · exact lendKey_mem h
theorem mem_of_key : ∀ {ρ : List (Nat × Nat)} {k : Nat},(lendKey ρ k).isSome = true → ∃ x ∈ ρ,x.2 = k
 | [],_,h=>by simp [lendKey] at h
 | (a, b) :: ρ, k, h => by
   simp only [lendKey] at h
   split at h
   · rename_i e; exact ⟨(a,b),by simp,e.symm⟩
   · obtain ⟨x,h1,h2⟩:=mem_of_key h
     exact ⟨x,by simp [h1],h2⟩
theorem pin_mem : ∀ {ρ : List (Nat × Nat)} {j ck : Nat},pinOf ρ j = some ck → (j,ck) ∈ ρ
 | [],_,_,h=>by simp [pinOf] at h
 | (x, y) :: ρ, j, ck, h => by
   simp only [pinOf] at h
   split at h
   · rename_i e; injection h with h; subst h e; simp
   · exact List.mem_cons_of_mem _ (pin_mem h)
end
section
variable {P : Program} {s : AS}
def found (s : AS) (ρ : List (Nat × Nat)) (xs : List AV) : Prop :=
 ∀ x ∈ ρ,¬ AV.nrL x.2 (s.ver x.2) xs ∨ ∃ y ∈ ρ,∃ cs,¬ AV.nrL y.2 (s.ver y.2) xs ∧ (s.rows y.2).c = .box cs ∧ ¬ AV.nrL x.2 (s.ver x.2) cs
theorem bcall_of {f : AV} {xs : List AV} {ρ : List (Nat × Nat)} {L : List (Nat × RowC)} {args : List AV} {F : FuncId} {cs : List AV} {r : RV} (hM : MCalls P F L L args (.r r)) (hF : callee? f = some (F,cs)) (hl : lendL ρ s.ver (xs ++ cs) = some args)
 (hL : lendOk ρ s ρ L) (hap : apart ρ = true) (hsk : sameKeys ρ L = true) (hback : ∀ x ∈ ρ,backC ρ s.ver (lookc L x.1) = (s.rows x.2).c) (hre : found s ρ (f :: xs)) : BCallOk P s f xs r:=by
 refine ⟨fun k=>(lendKey ρ k).isSome = true,fun k hk=>?_,fun s' hs'=>?_⟩
 · obtain ⟨x,hx,rfl⟩:=mem_of_key hk
   rcases hre x hx with h | ⟨y,hy,cs',h1,h2,h3⟩
   · exact .inl h
   · exact .inr ⟨y.2,cs',lendKey_mem hy,h1,h2,h3⟩
 · have hv : ∀ k,(lendKey ρ k).isSome = true → s'.ver k = s.ver k:=fun k hk=>by show (s'.rows k).ver = _; rw [hs' k hk]; rfl
   have hbk : s'.backs ρ L = s':=by
    unfold AS.backs
    refine AS.ext rfl rfl ?_
    funext j
    obtain ⟨g1,g2⟩:=backRows_get (ρ:=ρ) (ver:=s'.ver) (L':=L) (l:=ρ) (rows:=s'.rows) hap j
    cases e : lendKey ρ j with
    | none=>exact g1 e
    | some pk =>
      have hj : (lendKey ρ j).isSome = true:=by rw [e]; rfl
      have hp:=pin_lend hap e
      have hx : (pk,j) ∈ ρ:=pin_mem hp
      refine (g2 pk e).trans ?_
      rw [backC_congr hv,hback _ hx,← hs' j hj]
      rfl
   intro C p a w o g as1 ts hs ho hg has hd K Q hK
   subst hg has
   refine mcall_sound hs ho (KA:=fun t=>t = s'.put o.dst (.r r)) ⟨F,cs,ρ,L,L,args,.r r,hF,by rw [lendL_congr hv]; exact hl,lendOk_congr hs' (fun x hx=>lendKey_mem hx) hL,hap,hsk,hM,?_⟩ hd ?_
   · rw [hbk]; simp only [backA]
   · rintro a' w' p' t ht _ rfl
     exact hK a' w' p' ht
theorem xcall_keep {D : Bool} {n : Nat} {l : List (Nat × AV)} {vs : Nat → Nat} {rw : List (Nat × RowC)} {f : AV} {xs : List AV} {L : List (Nat × RowC)} {args : List AV} {F : FuncId} {caps : List AV} {r : RV} {d : Option Nat} {K : AS → Prop} (hM : MCalls P F L L args (.r r)) (ρ : List (Nat × Nat)) (hF : callee? f = some (F,caps))
 (hl : lendL ρ vs (xs ++ caps) = some args) (hL : lendOk ρ (st n l vs rw) ρ L) (hap : apart ρ = true) (hsk : sameKeys ρ L = true) (hback : ∀ x ∈ ρ,backC ρ vs (lookc L x.1) = lookc rw x.2) (hre : found (st n l vs rw) ρ (f :: xs)) (hK : K ((st n l vs rw).put d (.r r))) : xcall P D (st n l vs rw) d f xs K :=
 .inl ⟨r,.inr (bcall_of hM hF hl hL hap hsk hback hre),hK⟩
end
section
variable {P : Program} {C : Ctx} {Q : Exit → AS → Prop} {s : AS} {Φ : List (RV × RV) → Prop}
theorem awp_openMR {c : Code} (k : Nat) (hc : (s.rows k).c = .mem Φ) (h : ∀ m,Φ m → awp P C c Q { s with rows:=upd s.rows k ⟨(s.rows k).ver,.mp m⟩ }) : awp P C c Q s:=fun a w ⟨p,hs⟩=>by
 have hrow:=hs.rw k
 rw [hc] at hrow
 simp only [rowRel] at hrow
 obtain ⟨m,b,hΦ,hβ,hm⟩:=hrow
 have hset:=hs.setRow (w':=w) k (.mp m) (by rw [hc]; rfl) (fun _ _ _ _ h=>by cases h) hβ rfl rfl rfl rfl (fun i _=>rfl) (fun _=>by
  simp only [rowRel]
  exact ⟨b,hβ,hm⟩)
 exact h m hΦ a w ⟨p,hset⟩
theorem sub_shutMR (k : Nat) {m : List (RV × RV)} (hc : (s.rows k).c = .mp m) (hΦ : Φ m) : Sub s { s with rows:=upd s.rows k ⟨(s.rows k).ver,.mem Φ⟩ }:=fun C a w ⟨p,hs⟩=>by
 have hrow:=hs.rw k
 rw [hc] at hrow
 simp only [rowRel] at hrow
 obtain ⟨b,hβ,hm⟩:=hrow
 exact ⟨p,hs.setRow (w':=w) k (.mem Φ) (by rw [hc]; rfl) (fun _ _ _ _ h=>by cases h) hβ rfl rfl rfl rfl (fun i _=>rfl) (fun _=>by
  simp only [rowRel]
  exact ⟨m,b,hΦ,hβ,hm⟩)⟩
variable {n : Nat} {l : List (Nat × AV)} {vs : Nat → Nat} {cs : List (Nat × RowC)}
theorem st_rowQ (k : Nat) (c : RowC) : ({ st n l vs cs with rows:=upd (st n l vs cs).rows k ⟨((st n l vs cs).rows k).ver,c⟩ } : AS) = st n l vs (insc cs k c):=by
 simp only [st,AS.mk.injEq,true_and]
 funext j
 rw [lookc_insc]
 unfold upd
 split
 · rename_i e; subst e; rfl
 · rfl
theorem awp_openM {c : Code} (k : Nat) (hc : lookc cs k = .mem Φ) (h : ∀ m,Φ m → awp P C c Q (st n l vs (insc cs k (.mp m)))) : awp P C c Q (st n l vs cs) :=
 awp_openMR k hc fun m hm=>by rw [st_rowQ]; exact h m hm
theorem sub_shutM (Φ : List (RV × RV) → Prop) (k : Nat) {m : List (RV × RV)} (hc : lookc cs k = .mp m) (hΦ : Φ m) : Sub (st n l vs cs) (st n l vs (insc cs k (.mem Φ))):=by
 have:=sub_shutMR (s:=st n l vs cs) k hc hΦ
 rwa [st_rowQ] at this
end
end Go.Oc

namespace Go.Proofs.Ytlbfkhikmigpbaa
open Go Go.Oc
set_option linter.unusedSimpArgs false
set_option linter.unusedVariables false
set_option maxRecDepth 8000
theorem max_ok (l : List Int) (h : l ≠ []) (hl : l.length ≤ 1000000) : ACalls Try.prog 95 [ints l] (i64 (maxL l)):=by
 have hp : 0 < l.length:=List.length_pos_iff.2 h
 have d0 : decide ((l.length : Int) < 1) = false:=by simp; omega
 obtain ⟨x0,hx0⟩:=opt_of_lt hp
 have hhd : l.headD 0 = x0:=by cases l with | nil=>exact absurd rfl h | cons a l=>simpa using hx0
 have hs : ∀ i v,l[i]? = some v → (l.take (i + 1)).foldl max x0 = max ((l.take i).foldl max x0) v:=fun i v hv=>by
  rw [List.take_add_one,hv]; simp
 refine acalls_st (rs:=[i64 (maxL l)]) [.tmp 2] Try.func95 rfl (by kernel_rfl) Try.ntmps95 rfl (by simp) rfl fun C vs=>?_
 repeat refine zq ?_
 refine zb (by kernel_rfl) fun K hK=>?_
 simp only [go_sem]
 (try simp (disch:=omega) only [zI])
 repeat first | intro _ | refine ⟨by omega,?_⟩ | refine ⟨⟨by omega,by omega⟩,?_⟩
 refine hK _ ?_
 clear hK K
 refine zw (zk [0]) ?_
 simp only [go_sem]
 repeat refine zq ?_
 refine zb (by kernel_rfl) fun K hK=>?_
 simp only [go_sem,d0]
 (try simp (disch:=omega) only [zI])
 repeat first | intro _ | refine ⟨by omega,?_⟩ | refine ⟨⟨by omega,by omega⟩,?_⟩
 refine hK _ ?_
 clear hK K
 refine zw (zk [0,7]) ?_
 simp only [go_sem]
 repeat refine zq ?_
 refine zc rfl (fun hc=>?_) (fun hc=>?_) <;> (try simp only [go_sem] at hc)
 refine zx ?_
 try simp only [go_sem]
 repeat refine zq ?_
 refine zb (by kernel_rfl) fun K hK=>?_
 simp only [go_sem,hx0]
 (try simp (disch:=omega) only [zI])
 repeat first | intro _ | refine ⟨by omega,?_⟩ | refine ⟨⟨by omega,by omega⟩,?_⟩
 refine hK _ ?_
 clear hK K
 refine zw (zk [0,3]) ?_
 simp only [go_sem]
 repeat refine zq ?_
 refine zb (by kernel_rfl) fun K hK=>?_
 simp only [go_sem]
 (try simp (disch:=omega) only [zI])
 repeat first | intro _ | refine ⟨by omega,?_⟩ | refine ⟨⟨by omega,by omega⟩,?_⟩
 refine hK _ ?_
 clear hK K
 refine zw (zk [0,3,4]) ?_
 simp only [go_sem]
 repeat refine zq ?_
 refine zd ?_
 refine awp_upto (n:=25) l.length (fun i vs=>[(0,.r (ints l)),(3,.r (i64 ((l.take i).foldl max x0))),(4,.r (i64 i))])
  (fun i=>[]) (fun _=>True) 1 (fit_of [] ?_ ?_) (by omega) trivial ?_
 · try simp only [go_sem]
   rw [show (1 : Nat) = 0 + 1 from rfl,hs 0 x0 hx0]; simp
 · try simp only [go_sem]
 · intro i vs hi _
   repeat refine zq ?_
   refine zb (by kernel_rfl) fun K hK=>?_
   simp only [go_sem]
   (try simp (disch:=omega) only [zI])
   repeat first | intro _ | refine ⟨by omega,?_⟩ | refine ⟨⟨by omega,by omega⟩,?_⟩
   refine hK _ ?_
   clear hK K
   refine zw (zk [0,3,4,15]) ?_
   simp only [go_sem]
   repeat refine zq ?_
   refine zc rfl (fun hc=>?_) (fun hc=>?_) <;> (try simp only [go_sem] at hc)
   · have hci : i < l.length:=by omega
     obtain ⟨v,hv⟩:=opt_of_lt hci
     refine zx ?_
     try simp only [go_sem]
     repeat refine zq ?_
     refine zd ?_
     repeat refine zq ?_
     refine zb (by kernel_rfl) fun K hK=>?_
     simp only [go_sem,hv]
     (try simp (disch:=omega) only [zI])
     repeat first | intro _ | refine ⟨by omega,?_⟩ | refine ⟨⟨by omega,by omega⟩,?_⟩
     refine hK _ ?_
     clear hK K
     refine zw (zk [0,3,4]) ?_
     simp only [go_sem]
     repeat refine zq ?_
     refine zb (by kernel_rfl) fun K hK=>?_
     simp only [go_sem]
     (try simp (disch:=omega) only [zI])
     repeat first | intro _ | refine ⟨by omega,?_⟩ | refine ⟨⟨by omega,by omega⟩,?_⟩
     refine hK _ ?_
     clear hK K
     try simp only [go_sem]
     refine ⟨by omega,fit_of [] ?_ ?_⟩
     · try simp only [go_sem]
       rw [hs i v hv]
     · try simp only [go_sem]
   · have hil : i = l.length:=by omega
     refine zf ?_
     simp only [go_sem]
     repeat refine zq ?_
     refine zb (by kernel_rfl) fun K hK=>?_
     simp only [go_sem]
     (try simp (disch:=omega) only [zI])
     repeat first | intro _ | refine ⟨by omega,?_⟩ | refine ⟨⟨by omega,by omega⟩,?_⟩
     refine hK _ ?_
     clear hK K
     refine zw (zk [2]) ?_
     simp only [go_sem]
     refine ze ?_
     simp only [go_sem]
     rw [maxL,hhd,hil,List.take_length]
theorem value_ok (r : Ru) (most : Bool) (T : List (List Int)) (k st n left : Nat) (hn : n ≤ 100) (hl : left ≤ 40) (hne : r.aims ≠ []) (hle : r.aims.length ≤ 1000)
 (hme : MCalls Try.prog 49 (visL r most T k st) (visL r most T k st) [.pt 1000 0 0,.r (.ag [i64 (left : Int),i64 ((n + 1 : Nat) : Int)])] (.r (ints (meansV r most (nextV r most T k st (valV r most T k st n) (decide (n = 0)) left))))) :
 MCalls Try.prog 79 (visL r most T k st) (visL r most T k st) [.pt 1000 0 0,.r (.ag [i64 (left : Int),i64 ((n + 1 : Nat) : Int)])] (.r (i64 (valV r most T k st (n + 1) left))):=by
 have hmx:=max_ok (meansV r most (nextV r most T k st (valV r most T k st n) (decide (n = 0)) left)) (by simp [meansV,hne]) (by simp [meansV]; omega)
 have hval : maxL (meansV r most (nextV r most T k st (valV r most T k st n) (decide (n = 0)) left)) = valV r most T k st (n + 1) left:=rfl
 rw [hval] at hmx
 refine mcalls_st (n:=29) (rs:=[.r (i64 (valV r most T k st (n + 1) left))]) _ _ [.tmp 4] Try.func79 rfl (by kernel_rfl) Try.ntmps79 rfl (by simp) rfl rfl fun C=>?_
 repeat refine zq ?_
 refine zb (by kernel_rfl) fun K hK=>?_
 simp only [go_sem]
 (try simp (disch:=omega) only [zI])
 repeat first | intro _ | refine ⟨by omega,?_⟩ | refine ⟨⟨by omega,by omega⟩,?_⟩
 refine hK _ ?_
 clear hK K
 refine zw (sub_frzP 3 3 [i64 (left : Int),i64 ((n + 1 : Nat) : Int)] (by omega) rfl rfl) ?_
 refine zw (zk [0,3]) ?_
 simp only [go_sem]
 repeat refine zq ?_
 refine awp_openM 1001 (by rfl) fun m hm=>?_
 try simp only [go_sem]
 have ecast : (((n + 1 : Nat)) : Int) = (n : Int) + 1:=by omega
 rcases memo_find (n:=n + 1) (left:=left) (i:=0) hm with hf | ⟨j,hf⟩
 · rw [ecast] at hf
   repeat refine zq ?_
   refine zg follows (by decide +kernel) (by kernel_rfl) fun K hK=>?_
   simp only [go_sem,hf,Bool.and_self,eq_self,true_and]
   (try simp (disch:=omega) only [zI])
   repeat first | intro _ | refine ⟨by omega,?_⟩ | refine ⟨⟨by omega,by omega⟩,?_⟩
   refine hK _ ?_
   clear hK K
   refine zw (sub_shutM (memoV r most T k st) 1001 (by rfl) hm) ?_
   refine zw (zk [0,3,5,6]) ?_
   simp only [go_sem]
   repeat refine zq ?_
   refine zb (by kernel_rfl) fun K hK=>?_
   simp only [go_sem]
   (try simp (disch:=omega) only [zI])
   repeat first | intro _ | refine ⟨by omega,?_⟩ | refine ⟨⟨by omega,by omega⟩,?_⟩
   refine hK _ ?_
   clear hK K
   refine zw (zk [0,3,5,17]) ?_
   simp only [go_sem]
   repeat refine zq ?_
   refine zc rfl (fun hc=>?_) (fun hc=>?_) <;> (try simp only [go_sem] at hc)
   repeat refine zq ?_
   refine zb (by kernel_rfl) fun K hK=>?_
   simp only [go_sem]
   (try simp (disch:=omega) only [zI])
   refine xcall_mut (hme) [(1000,1000),(1001,1001)] rfl (by simp only [go_sem,i64,ints]) (by simp only [go_sem,i64,ints]) (by rfl) (by rfl) ?_
   (try simp only [go_sem])
   (try simp (disch:=omega) only [zI])
   refine zh (hmx) rfl (by simp only [go_sem,i64,ints]) (by simp only [go_sem,i64,ints]) (by first | exact .inl rfl | exact .inr rfl) ?_
   (try simp only [go_sem])
   (try simp (disch:=omega) only [zI])
   repeat first | intro _ | refine ⟨by omega,?_⟩ | refine ⟨⟨by omega,by omega⟩,?_⟩
   refine hK _ ?_
   clear hK K
   refine zw (zk [0,3,5]) ?_
   simp only [go_sem]
   repeat refine zq ?_
   refine awp_openM 1001 (by rfl) fun m' hm'=>?_
   try simp only [go_sem]
   rcases memo_find (n:=n + 1) (left:=left) (i:=0) hm' with hf' | ⟨j,hf'⟩
   · rw [ecast] at hf'
     repeat refine zq ?_
     refine awp_dreg2 [(0,some 1000),(3,none),(5,none)] follows (by decide +kernel) (by kernel_rfl) (by simp only [keysOk,List.mem_cons,List.not_mem_nil,forall_eq_or_imp,Oc.keyOf,go_sem]; simp) fun K hK=>?_
     simp only [go_sem,hf',Bool.and_self,eq_self,true_and]
     (try simp (disch:=omega) only [zI])
     repeat first | intro _ | refine ⟨by omega,?_⟩ | refine ⟨⟨by omega,by omega⟩,?_⟩
     refine hK _ ?_
     clear hK K
     refine zw (sub_shutM (memoV r most T k st) 1001 (by rfl) (by have h:=memo_app (n:=n + 1) (left:=left) hm'; rw [ecast] at h; exact h)) ?_
     refine zw (zk [5]) ?_
     simp only [go_sem]
     repeat refine zq ?_
     refine zb (by kernel_rfl) fun K hK=>?_
     simp only [go_sem]
     (try simp (disch:=omega) only [zI])
     repeat first | intro _ | refine ⟨by omega,?_⟩ | refine ⟨⟨by omega,by omega⟩,?_⟩
     refine hK _ ?_
     clear hK K
     refine zw (zk [4]) ?_
     simp only [go_sem]
     refine ze ?_
     simp only [go_sem]
   · rw [ecast] at hf'
     repeat refine zq ?_
     refine awp_dreg2 [(0,some 1000),(3,none),(5,none)] follows (by decide +kernel) (by kernel_rfl) (by simp only [keysOk,List.mem_cons,List.not_mem_nil,forall_eq_or_imp,Oc.keyOf,go_sem]; simp) fun K hK=>?_
     simp only [go_sem,hf',Bool.and_self,eq_self,true_and]
     (try simp (disch:=omega) only [zI])
     repeat first | intro _ | refine ⟨by omega,?_⟩ | refine ⟨⟨by omega,by omega⟩,?_⟩
     refine hK _ ?_
     clear hK K
     refine zw (sub_shutM (memoV r most T k st) 1001 (by rfl) (by have h:=memo_set (n:=n + 1) (left:=left) hm' j; rw [ecast] at h; exact h)) ?_
     refine zw (zk [5]) ?_
     simp only [go_sem]
     repeat refine zq ?_
     refine zb (by kernel_rfl) fun K hK=>?_
     simp only [go_sem]
     (try simp (disch:=omega) only [zI])
     repeat first | intro _ | refine ⟨by omega,?_⟩ | refine ⟨⟨by omega,by omega⟩,?_⟩
     refine hK _ ?_
     clear hK K
     refine zw (zk [4]) ?_
     simp only [go_sem]
     refine ze ?_
     simp only [go_sem]
 · rw [ecast] at hf
   repeat refine zq ?_
   refine zg follows (by decide +kernel) (by kernel_rfl) fun K hK=>?_
   simp only [go_sem,hf,Bool.and_self,eq_self,true_and]
   (try simp (disch:=omega) only [zI])
   repeat first | intro _ | refine ⟨by omega,?_⟩ | refine ⟨⟨by omega,by omega⟩,?_⟩
   refine hK _ ?_
   clear hK K
   refine zw (sub_shutM (memoV r most T k st) 1001 (by rfl) hm) ?_
   refine zw (zk [0,3,5,6]) ?_
   simp only [go_sem]
   repeat refine zq ?_
   refine zb (by kernel_rfl) fun K hK=>?_
   simp only [go_sem]
   (try simp (disch:=omega) only [zI])
   repeat first | intro _ | refine ⟨by omega,?_⟩ | refine ⟨⟨by omega,by omega⟩,?_⟩
   refine hK _ ?_
   clear hK K
   refine zw (zk [0,3,5,17]) ?_
   simp only [go_sem]
   repeat refine zq ?_
   refine zc rfl (fun hc=>?_) (fun hc=>?_) <;> (try simp only [go_sem] at hc)
   refine zx ?_
   try simp only [go_sem]
   repeat refine zq ?_
   refine zb (by kernel_rfl) fun K hK=>?_
   simp only [go_sem]
   (try simp (disch:=omega) only [zI])
   repeat first | intro _ | refine ⟨by omega,?_⟩ | refine ⟨⟨by omega,by omega⟩,?_⟩
   refine hK _ ?_
   clear hK K
   refine zw (zk [4]) ?_
   simp only [go_sem]
   refine ze ?_
   simp only [go_sem]
end Go.Proofs.Ytlbfkhikmigpbaa

namespace Go.Proofs.Ytlbfkhikmigpbaa
open Go Go.Oc
set_option linter.unusedSimpArgs false
set_option linter.unusedVariables false
set_option maxRecDepth 8000
theorem means_ok (r : Ru) (most : Bool) (T : List (List Int)) (k st n left : Nat) (f : Int → Int) (hn : n ≤ 100) (hl : left ≤ 40) (hle : r.aims.length ≤ 1000)
 (hch : ∀ a ∈ r.aims,ChG r.d (chW f a.beds)) (hbd : ∀ a ∈ r.aims,∀ c ∈ a.beds,0 ≤ c.b ∧ c.b ≤ 499)
 (hnx : ∀ b,0 ≤ b → b ≤ 499 → MCalls Try.prog 74 (visL r most T k st) (visL r most T k st) [.pt 1000 0 0,.r (.ag [i64 (left : Int),i64 ((n : Int) + 1)]),.r (i64 b)] (.r (i64 (f b)))) :
 MCalls Try.prog 49 (visL r most T k st) (visL r most T k st) [.pt 1000 0 0,.r (.ag [i64 (left : Int),i64 ((n : Int) + 1)])] (.r (ints (meansV r most f))):=by
 refine mcalls_st (n:=55) (rs:=[.r (ints (meansV r most f))]) _ _ [.tmp 4] Try.func49 rfl (by kernel_rfl) Try.ntmps49 rfl (by simp) rfl rfl fun C=>?_
 repeat refine zq ?_
 refine zb (by kernel_rfl) fun K hK=>?_
 simp only [go_sem]
 (try simp (disch:=omega) only [zI])
 repeat first | intro _ | refine ⟨by omega,?_⟩ | refine ⟨⟨by omega,by omega⟩,?_⟩
 refine hK _ ?_
 clear hK K
 refine zw (sub_frzP 3 3 [i64 (left : Int),i64 ((n : Int) + 1)] (by omega) rfl rfl) ?_
 refine zw (zk [0,3,4]) ?_
 simp only [go_sem]
 repeat refine zq ?_
 refine zb (by kernel_rfl) fun K hK=>?_
 simp only [go_sem]
 (try simp (disch:=omega) only [zI])
 repeat first | intro _ | refine ⟨by omega,?_⟩ | refine ⟨⟨by omega,by omega⟩,?_⟩
 refine hK _ ?_
 clear hK K
 refine zw (zk [0,3,4,19,20,21]) ?_
 simp only [go_sem]
 refine zw (sub_own 4 52 3 1 (by omega) rfl) ?_
 try simp only [go_sem]
 repeat refine zq ?_
 refine zd ?_
 refine awp_upto0 (n:=55) r.aims.length (fun i vs=>[(0,.pt 1000 0 0),(3,.r (.rp [i64 (left : Int),i64 ((n : Int) + 1)])),(4,.os 52 (vs 52) 1 0 i),(19,.r (aimsR r.aims)),(20,.r (i64 r.aims.length)),(21,.r (i64 i))])
  (fun i=>[(52,.arr 3 1 (((meansV r most f).take i).map fun x=>[i64 x])),(1000,.box (visC r most T (k : Int) (st : Int) 1001 0)),(1001,.mem (memoV r most T k st))]) (fun _=>True) 0 (fit0_of [] (by repeat (first | exact lent_zero | refine lent_upd (by omega) ?_)) ?_ ?_) (by omega) trivial ?_
 · try simp only [go_sem]
 · try simp only [go_sem]
 · intro i vs hv hi _
   have hv0:=hv 1000 (by omega)
   have hv1:=hv 1001 (by omega)
   repeat refine zq ?_
   refine zb (by kernel_rfl) fun K hK=>?_
   simp only [go_sem]
   (try simp (disch:=omega) only [zI])
   repeat first | intro _ | refine ⟨by omega,?_⟩ | refine ⟨⟨by omega,by omega⟩,?_⟩
   refine hK _ ?_
   clear hK K
   refine zw (zk [0,3,4,19,20,21,22]) ?_
   simp only [go_sem]
   repeat refine zq ?_
   refine zc rfl (fun hc=>?_) (fun hc=>?_) <;> (try simp only [go_sem] at hc)
   · have hci:=hc
     obtain ⟨a,ha⟩:=opt_of_lt hc
     have haM:=mem_of_opt ha
     have hca:=hch a haM
     have hl19:=hca.len
     have hlen : (chW f a.beds).length = a.beds.length:=by simp [chW]
     rw [hlen] at hl19
     refine zx ?_
     try simp only [go_sem]
     repeat refine zq ?_
     refine zd ?_
     repeat refine zq ?_
     refine zb (by kernel_rfl) fun K hK=>?_
     simp only [go_sem,ha,hci,aimR]
     (try simp (disch:=omega) only [zI])
     repeat first | intro _ | refine ⟨by omega,?_⟩ | refine ⟨⟨by omega,by omega⟩,?_⟩
     refine hK _ ?_
     clear hK K
     refine zw (sub_frzP 6 6 [i64 a.at_,bedsR a.beds] (by omega) (by try simp only [go_sem]) (by try simp only [go_sem])) ?_
     refine zw (zk [0,3,4,6,19,20,21]) ?_
     simp only [go_sem]
     repeat refine zq ?_
     refine zb (by kernel_rfl) fun K hK=>?_
     simp only [go_sem]
     (try simp (disch:=omega) only [zI])
     repeat first | intro _ | refine ⟨by omega,?_⟩ | refine ⟨⟨by omega,by omega⟩,?_⟩
     refine hK _ ?_
     clear hK K
     refine zw (zk [0,3,4,6,7,19,20,21]) ?_
     simp only [go_sem]
     refine zw (sub_own 7 42 149 3 (by omega) rfl) ?_
     try simp only [go_sem]
     repeat refine zq ?_
     refine zb (by kernel_rfl) fun K hK=>?_
     simp only [go_sem]
     (try simp (disch:=omega) only [zI])
     repeat first | intro _ | refine ⟨by omega,?_⟩ | refine ⟨⟨by omega,by omega⟩,?_⟩
     refine hK _ ?_
     clear hK K
     refine zw (zk [0,3,4,7,19,20,21,26,27,28]) ?_
     simp only [go_sem]
     repeat refine zq ?_
     refine zd ?_
     refine awp_upto0 (n:=55) a.beds.length (fun j vs=>[(0,.pt 1000 0 0),(3,.r (.rp [i64 (left : Int),i64 ((n : Int) + 1)])),(4,.os 52 (vs 52) 1 0 i),(7,.os 42 (vs 42) 3 0 j),(19,.r (aimsR r.aims)),(20,.r (i64 r.aims.length)),(21,.r (i64 i)),(26,.r (bedsR a.beds)),(27,.r (i64 a.beds.length)),(28,.r (i64 j))])
      (fun j=>[(42,.arr 149 3 (idx ((chW f a.beds).take j))),(52,.arr 3 1 (((meansV r most f).take i).map fun x=>[i64 x])),(1000,.box (visC r most T (k : Int) (st : Int) 1001 0)),(1001,.mem (memoV r most T k st))]) (fun _=>True) 0 (fit0_of [] (by repeat (first | exact hv | exact lent_zero | refine lent_upd (by omega) ?_)) ?_ ?_) (by omega) trivial ?_
     · try simp only [go_sem]
     · try simp only [go_sem]
     · intro j vs2 hv2 hj _
       have hv0:=hv2 1000 (by omega)
       have hv1:=hv2 1001 (by omega)
       repeat refine zq ?_
       refine zb (by kernel_rfl) fun K hK=>?_
       simp only [go_sem]
       (try simp (disch:=omega) only [zI])
       repeat first | intro _ | refine ⟨by omega,?_⟩ | refine ⟨⟨by omega,by omega⟩,?_⟩
       refine hK _ ?_
       clear hK K
       refine zw (zk [0,3,4,7,19,20,21,26,27,28,29]) ?_
       simp only [go_sem]
       repeat refine zq ?_
       refine zc rfl (fun hc=>?_) (fun hc=>?_) <;> (try simp only [go_sem] at hc)
       · have hcj:=hc
         obtain ⟨c,hc1⟩:=opt_of_lt hc
         have hbc:=hbd a haM c (mem_of_opt hc1)
         have hnc:=hnx c.b hbc.1 hbc.2
         have htk : (chW f a.beds).take (j + 1) = (chW f a.beds).take j ++ [⟨f c.b,c.lo,c.hi⟩]:=take_of_opt (by simp [chW,hc1])
         have hlj : ((chW f a.beds).take j).length = j:=by rw [List.length_take,hlen]; omega
         refine zx ?_
         try simp only [go_sem]
         repeat refine zq ?_
         refine zd ?_
         repeat refine zq ?_
         refine zb (by kernel_rfl) fun K hK=>?_
         simp only [go_sem,hc1,hcj,bedR]
         (try simp (disch:=omega) only [zI])
         repeat first | intro _ | refine ⟨by omega,?_⟩ | refine ⟨⟨by omega,by omega⟩,?_⟩
         refine hK _ ?_
         clear hK K
         refine zw (sub_frzP 9 9 [i64 c.b,i64 c.lo,i64 c.hi] (by omega) (by try simp only [go_sem]) (by try simp only [go_sem])) ?_
         simp only [go_sem,bedR]
         refine zw (zk [0,3,4,7,9,19,20,21,26,27,28]) ?_
         simp only [go_sem]
         repeat refine zq ?_
         refine zg follows (by decide +kernel) (by kernel_rfl) fun K hK=>?_
         simp only [go_sem,hlj]
         (try simp (disch:=omega) only [zI])
         refine xcall_keep hnc [(1000,1000),(1001,1001)] rfl (by simp only [go_sem,i64,ints,hv0,hv1]) (by simp only [go_sem,i64,ints,hv0,hv1]) (by rfl) (by rfl) ?_ ?_ ?_
         · intro x hx
           simp only [List.mem_cons,List.not_mem_nil,or_false] at hx
           rcases hx with rfl | rfl
           · try simp only [go_sem]
             simp [hv0,hv1]
           · try simp only [go_sem]
         · intro x hx
           simp only [List.mem_cons,List.not_mem_nil,or_false] at hx
           rcases hx with rfl | rfl
           · left
             simp [AV.nrL,AV.nr,AS.ver,Oc.st,hv0,upd]
           · right
             refine ⟨(1000,1000),by simp,visC r most T (k : Int) (st : Int) 1001 0,?_,by try simp only [go_sem],?_⟩
             · simp [AV.nrL,AV.nr,AS.ver,Oc.st,hv0,upd]
             · simp [AV.nrL,AV.nr,AS.ver,Oc.st,hv1,upd]
         simp only [go_sem,hlj]
         repeat first | intro _ | refine ⟨by omega,?_⟩ | refine ⟨⟨by omega,by omega⟩,?_⟩
         refine hK _ ?_
         clear hK K
         refine zw (zk [0,3,4,7,19,20,21,26,27,28]) ?_
         simp only [go_sem]
         repeat refine zq ?_
         refine zb (by kernel_rfl) fun K hK=>?_
         simp only [go_sem]
         (try simp (disch:=omega) only [zI])
         repeat first | intro _ | refine ⟨by omega,?_⟩ | refine ⟨⟨by omega,by omega⟩,?_⟩
         refine hK _ ?_
         clear hK K
         try simp only [go_sem]
         refine ⟨by omega,fit0_of [] (by repeat (first | exact hv2 | refine lent_upd (by omega) ?_)) ?_ ?_⟩
         · try simp only [go_sem]
         · try simp only [go_sem]
           rw [htk]
           simp [bedR]
       · have hjl : j = a.beds.length:=by omega
         subst hjl
         have e1 : (chW f a.beds).take a.beds.length = chW f a.beds:=by rw [← hlen,List.take_length]
         rw [e1]
         have hmn:=mean_ok r most T (chW f a.beds) hca
         rw [hlen] at hmn
         have htm : (meansV r most f).take (i + 1) = (meansV r most f).take i ++ [meanD most r.d (chW f a.beds)]:=take_of_opt (by simp [meansV,ha])
         have hli : ((meansV r most f).take i).length = i:=by rw [List.length_take]; simp [meansV]; omega
         refine zf ?_
         simp only [go_sem]
         repeat refine zq ?_
         refine zb (by kernel_rfl) fun K hK=>?_
         simp only [go_sem,hli,hlen]
         (try simp (disch:=omega) only [zI])
         refine ⟨hv0.symm,hv0.symm,hv0.symm,?_⟩
         refine xcall_mut (hmn) [(1000,42)] rfl (by simp only [go_sem,i64,ints,hli,hlen]) (by simp only [go_sem,i64,ints,hli,hlen]) (by rfl) (by rfl) ?_
         (try simp only [go_sem,hli,hlen])
         (try simp (disch:=omega) only [zI])
         repeat first | intro _ | refine ⟨by omega,?_⟩ | refine ⟨⟨by omega,by omega⟩,?_⟩
         refine hK _ ?_
         clear hK K
         refine zw (zk [0,3,4,19,20,21]) ?_
         simp only [go_sem]
         repeat refine zq ?_
         refine zb (by kernel_rfl) fun K hK=>?_
         simp only [go_sem]
         (try simp (disch:=omega) only [zI])
         repeat first | intro _ | refine ⟨by omega,?_⟩ | refine ⟨⟨by omega,by omega⟩,?_⟩
         refine hK _ ?_
         clear hK K
         try simp only [go_sem]
         refine ⟨by omega,fit0_of [42] (by repeat (first | exact hv2 | refine lent_upd (by omega) ?_)) ?_ ?_⟩
         · try simp only [go_sem]
         · try simp only [go_sem]
           rw [htm]
           simp
   · have hil : i = r.aims.length:=by omega
     have e1 : (meansV r most f).take i = meansV r most f:=List.take_of_length_le (by simp [meansV]; omega)
     rw [e1]
     have hml : (meansV r most f).length = i:=by simp [meansV,hil]
     refine zf ?_
     simp only [go_sem]
     repeat refine zq ?_
     refine zb (by kernel_rfl) fun K hK=>?_
     simp only [go_sem]
     (try simp (disch:=omega) only [zI])
     repeat first | intro _ | refine ⟨by omega,?_⟩ | refine ⟨⟨by omega,by omega⟩,?_⟩
     refine hK _ ?_
     clear hK K
     refine zw (zk [4]) ?_
     simp only [go_sem]
     refine zw (sub_frz (ty:=3) (sz:=1) (off:=0) (m:=i) (es:=(meansV r most f).map fun x=>[i64 x]) 4 52 (by omega) (by try simp only [go_sem]) (by try simp only [go_sem]) (by simp [hml])) ?_
     have e2 : (((meansV r most f).map fun x=>[i64 x]).drop 0).take i = (meansV r most f).map fun x=>[i64 x]:=by
      rw [List.drop_zero,List.take_of_length_le (by simp [hml])]
     rw [e2]
     refine zw (zk [4]) ?_
     simp only [go_sem]
     refine ze ?_
     simp only [go_sem]
end Go.Proofs.Ytlbfkhikmigpbaa

namespace Go.Proofs.Ytlbfkhikmigpbaa
open Go Go.Oc
set_option linter.unusedSimpArgs false
set_option linter.unusedVariables false
set_option maxRecDepth 8000
structure AimsG (r : Ru) : Prop where
 ne : r.aims ≠ []
 len : r.aims.length ≤ 1000
 den0 : 1 ≤ r.d
 den1 : r.d ≤ 3000
 beds : ∀ a ∈ r.aims,a.beds.length ≤ 19 ∧ loS a.beds ≤ r.d ∧ ∀ c ∈ a.beds,(0 ≤ c.b ∧ c.b ≤ 499) ∧ 0 ≤ c.lo ∧ c.lo ≤ c.hi ∧ c.hi ≤ 3000
theorem loS_chW (f : Int → Int) (l : List Bd) : loS (chW f l) = loS l:=by simp [loS,chW,Function.comp_def]
theorem AimsG.ch {r : Ru} (h : AimsG r) {f : Int → Int} (hf : ∀ b,0 ≤ b → b ≤ 499 → 0 ≤ f b ∧ f b ≤ 1000000) : ∀ a ∈ r.aims,ChG r.d (chW f a.beds):=fun a ha=>by
 obtain ⟨h1,h2,h3⟩:=h.beds a ha
 refine ⟨by simpa [chW] using h1,h.den0,h.den1,by rw [loS_chW]; exact h2,fun c hc=>?_⟩
 obtain ⟨x,hx,rfl⟩:=List.mem_map.1 hc
 obtain ⟨g1,g2⟩:=h3 x hx
 exact ⟨hf _ g1.1 g1.2,g2⟩
theorem fillG_le {den : Int} : ∀ (l : List Bd) (x : Int × Int),(∀ c ∈ l,(0 ≤ c.b ∧ c.b ≤ 1000000) ∧ c.lo ≤ c.hi) → 0 ≤ x.1 → 0 ≤ x.2 → x.2 ≤ 1000000 * (den - x.1) → 0 ≤ (fillG l x).2 ∧ (fillG l x).2 ≤ 1000000 * den
 | [],x,_,h1,h2,h3=>by simp only [fillG]; omega
 | c :: l, x, h, h1, h2, h3 => by
   obtain ⟨⟨b0,b1⟩,g⟩:=h c (by simp)
   simp only [fillG]
   generalize hm : min x.1 (c.hi - c.lo) = m
   have m0 : 0 ≤ m:=by omega
   have m1 : m ≤ x.1:=by omega
   have p0:=Int.mul_nonneg m0 b0
   have p1 : m * c.b ≤ m * 1000000:=Int.mul_le_mul_of_nonneg_left b1 m0
   exact fillG_le l _ (fun y hy=>h y (by simp [hy])) (by simp only; omega) (by simp only; omega) (by simp only; omega)
theorem loV_lo {l : List Bd} (h : ∀ c ∈ l,(0 ≤ c.b ∧ c.b ≤ 1000000) ∧ 0 ≤ c.lo) : 0 ≤ loV l ∧ loV l ≤ 1000000 * loS l:=by
 induction l with
 | nil=>simp [loV,loS]
 | cons c l ih =>
   obtain ⟨h1,h2⟩:=ih fun x hx=>h x (by simp [hx])
   obtain ⟨⟨b0,b1⟩,g0⟩:=h c (by simp)
   have m0:=Int.mul_nonneg g0 b0
   have m1 : c.lo * c.b ≤ c.lo * 1000000:=Int.mul_le_mul_of_nonneg_left b1 g0
   simp only [loV,loS,List.map_cons,List.sum_cons] at h1 h2 ⊢
   omega
theorem meanD_le {most : Bool} {den : Int} {l : List Bd} (h : ChG den l) : 0 ≤ meanD most den l ∧ meanD most den l ≤ 1000000:=by
 have hp:=sortN_perm (ltD most) l
 have hS : ∀ c ∈ sortN (ltD most) l,(0 ≤ c.b ∧ c.b ≤ 1000000) ∧ 0 ≤ c.lo ∧ c.lo ≤ c.hi ∧ c.hi ≤ 3000:=fun c hc=>h.each c (hp.mem_iff.1 hc)
 have hlo : loS (sortN (ltD most) l) = loS l:=perm_sum hp
 have hlow:=h.low
 obtain ⟨v0,v1⟩:=loV_lo (l:=sortN (ltD most) l) fun c hc=>⟨(hS c hc).1,(hS c hc).2.1⟩
 unfold meanD
 obtain ⟨f0,f1⟩:=fillG_le (den:=den) (sortN (ltD most) l) (den - loS (sortN (ltD most) l),loV (sortN (ltD most) l)) (fun c hc=>⟨(hS c hc).1,(hS c hc).2.2.1⟩) (by simp only; omega) (by simp only; omega) (by simp only; omega)
 exact overD_le f0 h.den0 f1
theorem foldl_max_le {l : List Int} {m : Int} : ∀ {x : Int},(0 ≤ x ∧ x ≤ m) → (∀ y ∈ l,0 ≤ y ∧ y ≤ m) → 0 ≤ l.foldl max x ∧ l.foldl max x ≤ m:=by
 induction l with
 | nil=>intro x h _; exact h
 | cons y l ih =>
   intro x h hl
   have:=hl y (by simp)
   exact ih (x:=max x y) (by omega) fun z hz=>hl z (by simp [hz])
theorem maxL_le {l : List Int} {m : Int} (h : l ≠ []) (hl : ∀ y ∈ l,0 ≤ y ∧ y ≤ m) : 0 ≤ maxL l ∧ maxL l ≤ m:=by
 unfold maxL
 refine foldl_max_le ?_ hl
 cases l with
 | nil=>exact absurd rfl h
 | cons x l=>exact hl x (by simp)
theorem after_le {r : Ru} {T : List (List Int)} {k st : Nat} (h : VisG r T k st) (most : Bool) {left : Nat} (hl : (left : Int) ≤ r.start) : 0 ≤ afterD r most T k left ∧ afterD r most T k left ≤ 1000000:=by
 unfold afterD
 split
 · omega
 · rename_i hk
   obtain ⟨row,v,hv⟩:=h.tab left hl
   obtain ⟨t1,t2,t3,t4⟩:=hv (by have:=h.kk; omega)
   obtain ⟨e,hek⟩:=opt_of_lt h.kk
   obtain ⟨g1,g2,g3⟩:=endOk_le (h.ends e (mem_of_opt hek))
   have e1 : ((T.getD (k + 1) []).getD left 0) = v:=by simp [List.getD_eq_getElem?_getD,t1,t2]
   have e2 : r.ends.getD k (0,0) = e:=by simp [List.getD_eq_getElem?_getD,hek]
   rw [e1,e2]
   have q : 0 ≤ endsD most e ∧ endsD most e ≤ 1000000:=by unfold endsD; split <;> omega
   exact overD_le (Int.mul_nonneg t3 (by omega)) (by omega) (Int.mul_le_mul t4 (by omega) (by omega) (by omega))
theorem nextV_le {r : Ru} {most : Bool} {T : List (List Int)} {k st left : Nat} {val : Nat → Int} {last : Bool} {b : Int} (h : VisG r T k st) (hl : (left : Int) ≤ r.start) (b0 : 0 ≤ b) (b1 : b ≤ 499) (hv : last = false → ∀ x : Nat,(x : Int) ≤ r.start → 0 ≤ val x ∧ val x ≤ 1000000) :
 0 ≤ nextV r most T k st val last left b ∧ nextV r most T k st val last left b ≤ 1000000:=by
 obtain ⟨s0,s1⟩:=score_le b0 b1
 unfold nextV
 split
 · omega
 · split
   · exact after_le h most h.st40
   · split
     · exact after_le h most (by omega)
     · rename_i hn
       exact hv (by simpa using hn) _ (by omega)
theorem valV_le {r : Ru} {most : Bool} {T : List (List Int)} {k st : Nat} (h : VisG r T k st) (ha : AimsG r) : ∀ n left : Nat,(left : Int) ≤ r.start → 0 ≤ valV r most T k st n left ∧ valV r most T k st n left ≤ 1000000
 | 0,_,_=>by simp only [valV]; omega
 | n + 1, left, hl => by
   simp only [valV]
   refine maxL_le (by simpa [meansV] using ha.ne) fun y hy=>?_
   obtain ⟨a,haM,rfl⟩:=List.mem_map.1 hy
   exact meanD_le (ha.ch (fun b b0 b1=>nextV_le h hl b0 b1 fun _ x hx=>valV_le h ha n x hx) a haM)
theorem vis_ok {r : Ru} (most : Bool) {T : List (List Int)} {k st : Nat} (h : VisG r T k st) (ha : AimsG r) : ∀ n left : Nat,n ≤ 100 → 1 ≤ left → (left : Int) ≤ r.start →
 MCalls Try.prog 79 (visL r most T k st) (visL r most T k st) [.pt 1000 0 0,.r (.ag [i64 (left : Int),i64 ((n + 1 : Nat) : Int)])] (.r (i64 (valV r most T k st (n + 1) left)))
 | n, left, hn, hl1, hl => by
   have h40:=h.s40
   have hl40 : left ≤ 40:=by omega
   refine value_ok r most T k st n left hn hl40 ha.ne ha.len ?_
   have e : (((n + 1 : Nat)) : Int) = (n : Int) + 1:=by omega
   rw [e]
   refine means_ok r most T k st n left _ hn hl40 ha.len (ha.ch fun b b0 b1=>nextV_le h hl b0 b1 fun _ x hx=>valV_le h ha n x hx) (fun a haM c hc=>((ha.beds a haM).2.2 c hc).1) fun b b0 b1=>?_
   refine next_ok r most T k st n left b h hl1 hl hn b0 b1 fun hn0 left' h1 h2=>?_
   match n,hn0 with
   | m + 1,_=>exact vis_ok most h ha m left' (by omega) h1 h2
end Go.Proofs.Ytlbfkhikmigpbaa

namespace Go.Proofs.Ytlbfkhikmigpbaa
open Go Go.Oc
set_option linter.unusedSimpArgs false
set_option linter.unusedVariables false
set_option maxRecDepth 8000
theorem relV_of_map {w : World} {p : Plan} {ver : Nat → Nat} : ∀ {xs : List RV} {vs : List Value},AV.relV w p ver (xs.map .r) vs → RV.relV w p.R xs vs
 | [],_,h=>by simp only [List.map_nil,AV.relV] at h; simp only [RV.relV]; exact h
 | x :: xs, _, h => by
   simp only [List.map_cons,AV.relV,AV.rel] at h
   obtain ⟨u,us,e,h1,h2⟩:=h
   simp only [RV.relV]
   exact ⟨u,us,e,h1,relV_of_map h2⟩
theorem mcalls_ag {P : Program} {f : FuncId} {L L' : List (Nat × RowC)} {a : AV} {xs : List RV} {r : AV} (h : MCalls P f L L' [a,.r (.ag xs)] r) : MCalls P f L L' [a,.ag (xs.map .r)] r :=
 ⟨h.1,fun w p vs hp h1 h2 h3 h4 h5 h6=>h.2 w p vs hp h1 h2 h3 h4 h5 (by
  simp only [AV.relV] at h6 ⊢
  obtain ⟨u,us,e,g1,u2,us2,e2,g2,g3⟩:=h6
  refine ⟨u,us,e,g1,u2,us2,e2,?_,g3⟩
  simp only [AV.rel] at g2
  simp only [AV.rel,RV.rel]
  obtain ⟨vs,q1,q2,q3⟩:=g2
  exact ⟨vs,q1,q2,relV_of_map q3⟩)⟩
theorem whole_ok {r : Ru} (most : Bool) {T : List (List Int)} {k st : Nat} (h : VisG r T k st) (ha : AimsG r) (h1 : 1 ≤ st) : ACalls Try.prog 55 [sideP r most T,i64 (k : Int),i64 (st : Int)] (i64 (valV r most T k st 3 st)):=by
 have hnew:=newVisit_ok r most T (k : Int) (st : Int)
 have hval:=vis_ok most h ha 2 st (by omega) h1 h.st40
 refine acalls_st (rs:=[i64 (valV r most T k st 3 st)]) [.tmp 6] Try.func55 rfl (by kernel_rfl) Try.ntmps55 rfl (by simp) rfl fun C vs=>?_
 repeat refine zq ?_
 refine zb (by kernel_rfl) fun K hK=>?_
 simp only [go_sem]
 (try simp (disch:=omega) only [zI])
 repeat first | intro _ | refine ⟨by omega,?_⟩ | refine ⟨⟨by omega,by omega⟩,?_⟩
 refine hK _ ?_
 clear hK K
 refine zw (zk [0,1,2]) ?_
 simp only [go_sem]
 repeat refine zq ?_
 refine awp_long ?_
 refine sops_take 4 (by kernel_rfl) fun K hK=>?_
 simp only [go_sem,List.take_succ_cons,List.take_zero,List.drop_succ_cons,List.drop_zero,List.append_eq,List.cons_append,List.nil_append]
 (try simp (disch:=omega) only [zI])
 refine xcall_new hnew [(12,30),(10,31)] rfl (by rfl) (by rfl) (by rfl) (by rfl) (by rfl) ?_
 simp only [go_sem,idK,backA,backC,backL,pinOf,lendKey]
 repeat first | intro _ | refine ⟨by omega,?_⟩ | refine ⟨⟨by omega,by omega⟩,?_⟩
 refine hK _ rfl ?_
 clear hK K
 refine sops_sub (sub_shutM (memoV r most T k st) 31 (by rfl) (fun e he=>by cases he)) ?_
 try simp only [go_sem]
 refine sops_end (by kernel_rfl) fun K hK=>?_
 simp only [go_sem,List.drop_succ_cons,List.drop_zero,List.append_eq,List.cons_append,List.nil_append]
 (try simp (disch:=omega) only [zI])
 refine xcall_mut (mcalls_ag hval) [(1000,30),(1001,31)] rfl (by simp only [go_sem,i64,ints]) (by simp only [go_sem,i64,ints]) (by rfl) (by rfl) ?_
 (try simp only [go_sem])
 (try simp (disch:=omega) only [zI])
 repeat first | intro _ | refine ⟨by omega,?_⟩ | refine ⟨⟨by omega,by omega⟩,?_⟩
 refine hK _ ?_
 clear hK K
 refine zw (zk [6]) ?_
 simp only [go_sem]
 refine ze ?_
 simp only [go_sem]
end Go.Proofs.Ytlbfkhikmigpbaa

namespace Go.Proofs.Ytlbfkhikmigpbaa
open Go Go.Oc
set_option linter.unusedSimpArgs false
set_option linter.unusedVariables false
set_option maxRecDepth 8000
def rowV (r : Ru) (most : Bool) (T : List (List Int)) (k : Nat) : List Int:=(List.range (r.start.toNat + 1)).map fun x : Nat=>if (x : Int) < lowestR r then 0 else valV r most T k x 3 x
def tabI (r : Ru) (most : Bool) : Nat → List (List Int)
 | 0=>List.replicate r.ends.length []
 | i + 1=>(tabI r most i).set (r.ends.length - 1 - i) (rowV r most (tabI r most i) (r.ends.length - 1 - i))
theorem tabI_len (r : Ru) (most : Bool) : ∀ i,(tabI r most i).length = r.ends.length
 | 0=>by simp [tabI]
 | i + 1=>by simp only [tabI,List.length_set]; exact tabI_len r most i
structure RuG (r : Ru) : Prop where
 aims : AimsG r
 e1 : 1 ≤ r.ends.length
 h10 : r.ends.length ≤ 10
 ends : ∀ x ∈ r.ends,endOk x = true
 s2 : 2 ≤ r.start
 s40 : r.start ≤ 40
theorem rowV_get (r : Ru) (most : Bool) (T : List (List Int)) (k left : Nat) (h : (left : Int) ≤ r.start) : (rowV r most T k)[left]? = some (if (left : Int) < lowestR r then 0 else valV r most T k left 3 left):=by
 unfold rowV
 rw [List.getElem?_map,List.getElem?_range (by omega)]
 rfl
theorem vis_at {r : Ru} (h : RuG r) (most : Bool) : ∀ i,i < r.ends.length → ∀ st : Nat,(st : Int) ≤ r.start → VisG r (tabI r most i) (r.ends.length - 1 - i) st
 | i, hi, st, hst => by
   refine ⟨by omega,h.h10,h.ends,hst,h.s40,fun left hl=>?_⟩
   cases i with
   | zero=>exact ⟨[],0,fun hk=>by omega⟩
   | succ i =>
     refine ⟨rowV r most (tabI r most i) (r.ends.length - 1 - i),_,fun hk=>⟨?_,rowV_get _ _ _ _ _ hl,?_⟩⟩
     · rw [show r.ends.length - 1 - (i + 1) + 1 = r.ends.length - 1 - i by omega]
       simp only [tabI]
       rw [List.getElem?_set_self (by rw [tabI_len]; omega)]
     · split
       · omega
       · have:=valV_le (most:=most) (vis_at h most i (by omega) left hl) h.aims 3 left hl
         exact this
theorem rowV_ne (r : Ru) (most : Bool) (T : List (List Int)) (k : Nat) : rowV r most T k ≠ []:=by simp [rowV]
theorem tabI_get (r : Ru) (most : Bool) : ∀ i,i ≤ r.ends.length → ∀ j,r.ends.length - i ≤ j → j < r.ends.length → (tabI r most i)[j]? = some (rowV r most (tabI r most (r.ends.length - 1 - j)) j)
 | 0,_,j,h1,h2=>by omega
 | i + 1, hi, j, h1, h2 => by
   simp only [tabI]
   by_cases e : j = r.ends.length - 1 - i
   · subst e
     rw [List.getElem?_set_self (by rw [tabI_len]; omega),show r.ends.length - 1 - (r.ends.length - 1 - i) = i by omega]
   · rw [List.getElem?_set_ne (by omega)]
     exact tabI_get r most i (by omega) j (by omega) h2
theorem tab_ne (r : Ru) (most : Bool) : ∀ row ∈ tabI r most r.ends.length,row ≠ []:=fun row hr=>by
 obtain ⟨j,hj⟩:=List.getElem?_of_mem hr
 have hl:=(List.getElem?_eq_some_iff.1 hj).1
 rw [tabI_len] at hl
 rw [tabI_get r most _ (Nat.le_refl _) j (by omega) hl] at hj
 injection hj with hj
 rw [← hj]
 exact rowV_ne _ _ _ _
end Go.Proofs.Ytlbfkhikmigpbaa

namespace Go.Proofs.Ytlbfkhikmigpbaa
open Go Go.Oc
set_option linter.unusedSimpArgs false
set_option linter.unusedVariables false
set_option maxRecDepth 8000
abbrev sideA (r : Ru) (most : Bool) (t : AV) : List AV:=[.r (i64 r.d),.r (aimsR r.aims),.r (i64 r.start),.r (i64 r.out),.r (spansR r.ends),.r (.bo most),t]
def cellT (l : List Int) : RV:=if l = [] then .ns else ints l
theorem acalls_weak {P : Program} {f : FuncId} {xs ys : List RV} {r : RV} (h : ACalls P f ys r) (hs : ∀ (w : World) (R : Nat → Prop) vs,RV.relV w R xs vs → RV.relV w R ys vs) : ACalls P f xs r :=
 ⟨h.1,fun w R vs h1 h2=>h.2 w R vs h1 (hs w R _ h2)⟩
theorem cellT_rel {w : World} {R : Nat → Prop} {l : List Int} {v : Value} (h : (cellT l).rel w R v) : (ints l).rel w R v:=by
 unfold cellT at h
 split at h
 · rename_i e
   subst e
   simp only [RV.rel] at h ⊢
   obtain ⟨A,e⟩:=h
   exact ⟨A,0,e,by simp,Nat.zero_le _,fun hn=>absurd rfl hn⟩
 · exact h
theorem cellsT_rel {w : World} {R : Nat → Prop} : ∀ (T : List (List Int)) (ad : Addr) (j : Nat),RV.relE w R 1 (T.map fun row=>[cellT row]) ad j → RV.relE w R 1 (T.map fun row=>[ints row]) ad j
 | [],_,_,h=>h
 | l :: T, ad, j, h => by
   simp only [List.map_cons,RV.relE,RV.relC] at h ⊢
   obtain ⟨_,⟨⟨u,h1,h2,h3⟩,_⟩,h4⟩:=h
   exact ⟨rfl,⟨⟨u,h1,h2,cellT_rel h3⟩,trivial⟩,cellsT_rel T ad (j + 1) h4⟩
theorem tabT_rel {w : World} {R : Nat → Prop} {T : List (List Int)} {v : Value} (h : (RV.sl 1 (T.map fun row=>[cellT row])).rel w R v) : (tabR T).rel w R v:=by
 simp only [RV.rel,List.length_map] at h ⊢
 obtain ⟨A,c,h1,h2,h3,h4⟩:=h
 refine ⟨A,c,h1,h2,h3,fun hn=>?_⟩
 obtain ⟨ad,g1,g2,g3⟩:=h4 (by cases T <;> simp_all)
 exact ⟨ad,g1,g2,cellsT_rel _ _ _ g3⟩
theorem whole_ns {r : Ru} {most : Bool} {T : List (List Int)} {x y v : RV} (h : ACalls Try.prog 55 [sideP r most T,x,y] v) :
 ACalls Try.prog 55 [.rp [i64 r.d,aimsR r.aims,i64 r.start,i64 r.out,spansR r.ends,.bo most,.sl 1 (T.map fun row=>[cellT row])],x,y] v:=acalls_weak h fun w R vs hv=>by
 simp only [RV.relV] at hv ⊢
 obtain ⟨u,us,e1,hu,h3⟩:=hv
 refine ⟨u,us,e1,?_,h3⟩
 simp only [RV.rel] at hu ⊢
 obtain ⟨ad,e2,h1,h2⟩:=hu
 refine ⟨ad,e2,h1,?_⟩
 simp only [RV.relC] at h2 ⊢
 obtain ⟨c1,c2,c3,c4,c5,c6,⟨u7,c7,c8,c9⟩,_⟩:=h2
 exact ⟨c1,c2,c3,c4,c5,c6,⟨u7,c7,c8,tabT_rel c9⟩,trivial⟩
def rowP (r : Ru) (most : Bool) (T : List (List Int)) (k j : Nat) : List Int:=(List.range (r.start.toNat + 1)).map fun x : Nat=>if (x : Int) < lowestR r then 0 else if x < j then valV r most T k x 3 x else 0
theorem rowP_zero (r : Ru) (most : Bool) (T : List (List Int)) (k : Nat) : rowP r most T k (lowestR r).toNat = List.replicate (r.start.toNat + 1) 0:=by
 refine List.ext_getElem (by simp [rowP]) fun x h1 h2=>?_
 simp only [rowP,List.getElem_map,List.getElem_range,List.getElem_replicate]
 split
 · rfl
 · rw [if_neg (by omega)]
theorem rowP_end (r : Ru) (most : Bool) (T : List (List Int)) (k : Nat) : rowP r most T k (r.start.toNat + 1) = rowV r most T k:=by
 refine List.ext_getElem (by simp [rowP,rowV]) fun x h1 h2=>?_
 simp only [rowP,rowV,List.getElem_map,List.getElem_range]
 simp only [rowP,List.length_map,List.length_range] at h1
 rw [if_pos h1]
theorem rowP_set (r : Ru) (most : Bool) (T : List (List Int)) (k j : Nat) (hj : lowestR r ≤ j) (hs : (j : Int) ≤ r.start) : (rowP r most T k j).set j (valV r most T k j 3 j) = rowP r most T k (j + 1):=by
 refine List.ext_getElem (by simp [rowP]) fun x h1 h2=>?_
 simp only [rowP,List.getElem_set,List.getElem_map,List.getElem_range]
 by_cases e : j = x
 · subst e
   rw [if_pos rfl,if_neg (by omega),if_pos (by omega)]
 · rw [if_neg e]
   split
   · rfl
   · by_cases e2 : x < j
     · rw [if_pos e2,if_pos (by omega)]
     · rw [if_neg e2,if_neg (by omega)]
theorem rowP_len (r : Ru) (most : Bool) (T : List (List Int)) (k j : Nat) : (rowP r most T k j).length = r.start.toNat + 1:=by simp [rowP]
theorem fill_ok {r : Ru} (h : RuG r) (most : Bool) :
 MCalls Try.prog 71 [(1000,.box (sideA r most (.r .ns)))] [(1000,.box (sideA r most (.r (tabR (tabI r most r.ends.length)))))] [.pt 1000 0 0] (.tu []):=by
 have h10:=h.h10
 refine mcalls_st (n:=72) (rs:=[]) _ _ [] Try.func71 rfl (by kernel_rfl) Try.ntmps71 rfl (by simp) rfl rfl fun C=>?_
 repeat refine zq ?_
 refine zb (by kernel_rfl) fun K hK=>?_
 simp only [go_sem]
 (try simp (disch:=omega) only [zI])
 repeat first | intro _ | refine ⟨by omega,?_⟩ | refine ⟨⟨by omega,by omega⟩,?_⟩
 repeat first | intro _ | refine ⟨by omega,?_⟩ | refine ⟨⟨by omega,by omega⟩,?_⟩
 refine hK _ ?_
 clear hK K
 refine zw (zk [0]) ?_
 simp only [go_sem]
 repeat refine zq ?_
 refine zb (by kernel_rfl) fun K hK=>?_
 simp only [go_sem]
 (try simp (disch:=omega) only [zI])
 repeat first | intro _ | refine ⟨by omega,?_⟩ | refine ⟨⟨by omega,by omega⟩,?_⟩
 refine hK _ ?_
 clear hK K
 refine zw (zk [0,23,24]) ?_
 simp only [go_sem]
 repeat refine zq ?_
 refine zd ?_
 refine awp_uptoV (n:=72) r.ends.length (fun i vs=>[(0,.pt 1000 (vs 1000) 0),(23,.r (i64 r.ends.length)),(24,.r (i64 i))])
  (fun i vs=>[(14,.arr 46 1 ((tabI r most i).map fun row=>[cellT row])),(1000,.box (sideA r most (.os 14 (vs 14) 1 0 r.ends.length)))]) (fun _=>True) 0 (zj [] ?_ ?_) (Nat.zero_le _) trivial ?_
 · try simp only [go_sem]
 · try simp only [go_sem]
   simp [tabI,cellT]
 · intro i vs hi _
   repeat refine zq ?_
   refine zb (by kernel_rfl) fun K hK=>?_
   simp only [go_sem]
   (try simp (disch:=omega) only [zI])
   repeat first | intro _ | refine ⟨by omega,?_⟩ | refine ⟨⟨by omega,by omega⟩,?_⟩
   refine hK _ ?_
   clear hK K
   refine zw (zk [0,23,24,25]) ?_
   simp only [go_sem]
   repeat refine zq ?_
   refine zc rfl (fun hc=>?_) (fun hc=>?_) <;> (try simp only [go_sem] at hc)
   · have hci:=hc
     have hla:=last_ok r (by omega)
     have hlo:=dlowest_ok r
     have hk : IntKind.i64.wrap ((r.ends.length : Int) - 1 - i) = ((r.ends.length - 1 - i : Nat) : Int):=by rw [zI] <;> omega
     refine zx ?_
     try simp only [go_sem]
     repeat refine zq ?_
     refine zd ?_
     repeat refine zq ?_
     refine zb (by kernel_rfl) fun K hK=>?_
     simp only [go_sem]
     (try simp (disch:=omega) only [zI])
     repeat first | intro _ | refine ⟨by omega,?_⟩ | refine ⟨⟨by omega,by omega⟩,?_⟩
     refine hK _ ?_
     clear hK K
     refine zw (zk [0,2,23,24]) ?_
     simp only [go_sem]
     repeat refine zq ?_
     refine zb (by kernel_rfl) fun K hK=>?_
     simp only [go_sem,hk]
     (try simp (disch:=omega) only [zI])
     refine zh (hla) rfl (by simp only [go_sem,i64,ints,hk]) (by simp only [go_sem,i64,ints,hk]) (by first | exact .inl rfl | exact .inr rfl) ?_
     (try simp only [go_sem,hk])
     (try simp (disch:=omega) only [zI])
     repeat first | intro _ | refine ⟨by omega,?_⟩ | refine ⟨⟨by omega,by omega⟩,?_⟩
     refine hK _ ?_
     clear hK K
     refine zw (zk [0,3,23,24]) ?_
     simp only [go_sem]
     have hs2:=h.s2
     have hs40:=h.s40
     have hw1 : IntKind.i64.wrap (r.start + 1) = r.start + 1:=by rw [zI] <;> omega
     repeat refine zq ?_
     refine zb (by kernel_rfl) fun K hK=>?_
     simp only [go_sem,hw1]
     (try simp (disch:=omega) only [zI])
     refine ⟨by omega,?_⟩
     repeat first | intro _ | refine ⟨by omega,?_⟩ | refine ⟨⟨by omega,by omega⟩,?_⟩
     refine hK _ ?_
     clear hK K
     refine zw (zk [0,3,4,23,24]) ?_
     simp only [go_sem]
     repeat refine zq ?_
     refine zb (by kernel_rfl) fun K hK=>?_
     simp only [go_sem]
     (try simp (disch:=omega) only [zI])
     refine zh (hlo) rfl (by simp only [go_sem,i64,ints]) (by simp only [go_sem,i64,ints]) (by first | exact .inl rfl | exact .inr rfl) ?_
     (try simp only [go_sem])
     (try simp (disch:=omega) only [zI])
     repeat first | intro _ | refine ⟨by omega,?_⟩ | refine ⟨⟨by omega,by omega⟩,?_⟩
     refine hK _ ?_
     clear hK K
     refine zw (zk [0,3,4,5,23,24]) ?_
     simp only [go_sem]
     repeat refine zq ?_
     refine zd ?_
     generalize hT : tabI r most i = T
     have hTl : T.length = r.ends.length:=by rw [← hT]; exact tabI_len r most i
     have hvis : ∀ st : Nat,(st : Int) ≤ r.start → VisG r T (r.ends.length - 1 - i) st:=fun st hst=>by rw [← hT]; exact vis_at h most i hci st hst
     generalize hkk : r.ends.length - 1 - i = k at *
     have hst1 : (r.start + 1).toNat = r.start.toNat + 1:=by omega
     have hlow : lowestR r = 1 ∨ lowestR r = 2:=by unfold lowestR; split <;> simp
     refine awp_uptoV (n:=72) (r.start.toNat + 1) (fun j vs=>[(0,.pt 1000 (vs 1000) 0),(3,.r (i64 (k : Int))),(4,.os 41 (vs 41) 1 0 (r.start.toNat + 1)),(5,.r (i64 (j : Int))),(23,.r (i64 r.ends.length)),(24,.r (i64 i))])
      (fun j vs=>[(14,.arr 46 1 (T.map fun row=>[cellT row])),(41,.arr 3 1 ((rowP r most T k j).map fun v=>[i64 v])),(1000,.box (sideA r most (.os 14 (vs 14) 1 0 r.ends.length)))]) (fun j=>lowestR r ≤ j) (lowestR r).toNat (zj [] ?_ ?_) (by omega) (by omega) ?_
     · simp only [go_sem,hk,hw1,hst1]
       omega
     · simp only [go_sem,hw1,hst1]
       rw [rowP_zero]
       simp only [List.map_replicate,List.replicate_succ,List.map_cons]
     · intro j vs hj hjl
       have hpl:=rowP_len r most T k j
       repeat refine zq ?_
       refine zb (by kernel_rfl) fun K hK=>?_
       simp only [go_sem]
       (try simp (disch:=omega) only [zI])
       repeat first | intro _ | refine ⟨by omega,?_⟩ | refine ⟨⟨by omega,by omega⟩,?_⟩
       refine hK _ ?_
       clear hK K
       refine zw (zk [0,3,4,5,23,24,54]) ?_
       simp only [go_sem]
       repeat refine zq ?_
       refine zc rfl (fun hc=>?_) (fun hc=>?_) <;> (try simp only [go_sem] at hc)
       · have hcj : (j : Int) ≤ r.start:=by omega
         obtain ⟨w0,hw0⟩:=opt_of_lt (show j < (rowP r most T k j).length by rw [hpl]; omega)
         have htk : List.take r.ends.length (T.map fun row=>[cellT row]) = T.map fun row=>[cellT row]:=List.take_of_length_le (by simp [hTl])
         have hw:=whole_ns (whole_ok most (hvis j hcj) h.aims (by omega))
         refine zx ?_
         try simp only [go_sem]
         repeat refine zq ?_
         refine zd ?_
         repeat refine zq ?_
         refine zb (by kernel_rfl) fun K hK=>?_
         simp only [go_sem,hTl,htk,hpl]
         (try simp (disch:=omega) only [zI])
         refine zh (hw) rfl (by simp only [go_sem,i64,ints,hTl,htk,hpl]) (by simp only [go_sem,i64,ints,hTl,htk,hpl]) (by first | exact .inl rfl | exact .inr rfl) ?_
         (try simp only [go_sem,hTl,htk,hpl])
         (try simp (disch:=omega) only [zI])
         repeat first | intro _ | refine ⟨by omega,?_⟩ | refine ⟨⟨by omega,by omega⟩,?_⟩
         refine hK _ ?_
         clear hK K
         refine zw (zk [0,3,4,5,23,24]) ?_
         simp only [go_sem]
         repeat refine zq ?_
         refine zb (by kernel_rfl) fun K hK=>?_
         simp only [go_sem]
         (try simp (disch:=omega) only [zI])
         repeat first | intro _ | refine ⟨by omega,?_⟩ | refine ⟨⟨by omega,by omega⟩,?_⟩
         refine hK _ ?_
         clear hK K
         try simp only [go_sem]
         refine ⟨by omega,by omega,zj [] ?_ ?_⟩
         · try simp only [go_sem]
         · simp only [go_sem,hw0]
           rw [← rowP_set r most T k j hjl hcj,List.map_set]
       · have hje : j = r.start.toNat + 1:=by omega
         subst hje
         rw [rowP_end] at hpl ⊢
         refine zf ?_
         simp only [go_sem]
         refine zw (sub_frz (ty:=3) (sz:=1) (off:=0) (m:=r.start.toNat + 1) (es:=(rowV r most T k).map fun v=>[i64 v]) 4 41 (by omega) (by try simp only [go_sem]) (by try simp only [go_sem]) (by simp [hpl])) ?_
         have e2 : (((rowV r most T k).map fun v=>[i64 v]).drop 0).take (r.start.toNat + 1) = (rowV r most T k).map fun v=>[i64 v]:=by
          rw [List.drop_zero,List.take_of_length_le (by simp [hpl])]
         rw [e2]
         refine zw (zk [0,3,4,23,24]) ?_
         simp only [go_sem]
         have hkT : k < T.length:=by omega
         have hkr : k < r.ends.length:=by omega
         obtain ⟨w0,hw0⟩:=opt_of_lt hkT
         repeat refine zq ?_
         refine zb (by kernel_rfl) fun K hK=>?_
         simp only [go_sem,hkT,hkr,hw0]
         (try simp (disch:=omega) only [zI])
         repeat first | intro _ | refine ⟨by omega,?_⟩ | refine ⟨⟨by omega,by omega⟩,?_⟩
         refine hK _ ?_
         clear hK K
         refine zw (zk [0,23,24]) ?_
         simp only [go_sem]
         repeat refine zq ?_
         refine zb (by kernel_rfl) fun K hK=>?_
         simp only [go_sem]
         (try simp (disch:=omega) only [zI])
         repeat first | intro _ | refine ⟨by omega,?_⟩ | refine ⟨⟨by omega,by omega⟩,?_⟩
         refine hK _ ?_
         clear hK K
         try simp only [go_sem]
         refine ⟨by omega,zj [] ?_ ?_⟩
         · try simp only [go_sem]
         · try simp only [go_sem]
           have e3 : tabI r most (i + 1) = T.set k (rowV r most T k):=by simp only [tabI,hT,hkk]
           rw [e3,List.map_set]
           simp only [cellT,if_neg (rowV_ne r most T k)]
           done
   · have hil : i = r.ends.length:=by omega
     subst hil
     refine zf ?_
     simp only [go_sem]
     try simp only [go_sem]
     refine ⟨by rw [tabI_len]; exact Nat.le_refl _,?_⟩
     rw [List.take_of_length_le (by rw [List.length_map,tabI_len]; exact Nat.le_refl _)]
     have : (tabI r most r.ends.length).map (fun row=>[cellT row]) = (tabI r most r.ends.length).map fun row=>[ints row] :=
      List.map_congr_left fun row hr=>by rw [cellT,if_neg (tab_ne r most row hr)]
     rw [this]
end Go.Proofs.Ytlbfkhikmigpbaa

namespace Go.Oc
open Go Go.RowKit
set_option linter.unusedVariables false
set_option linter.unusedSimpArgs false
def sLitBox (P : Program) (s : AS) (d : Nat) (t : TypeId) (len : Nat) (parts : List (Nat × AV)) : Res :=
 match tyq P t with
 | some ⟨.slice e esz _ ez, _, _, _⟩ =>
   if len = 0 then .bad else
   match lay s.ver (fun i=>some (i * esz,esz)) ((List.replicate len ez).flatten.map .r) parts with
   | some cs=>⟨0 < esz ∧ len * esz ≤ 16777216 ∧ d < 1000,True,⟨.os d ((s.rows d).ver + 1) esz 0 len,[(d,⟨(s.rows d).ver + 1,.ara e esz cs⟩)]⟩⟩
   | none=>.bad
 | _=>.bad
section
variable {P : Program} {C : Ctx} {p : Plan} {s : AS} {a : Act} {w : World} {o : Oper}
theorem relV_map_r {ver : Nat → Nat} : ∀ {xs : List RV} {vs : List Value},RV.relV w p.R xs vs → AV.relV w p ver (xs.map .r) vs
 | [],vs,h=>by simp only [RV.relV] at h; simp only [List.map_nil,AV.relV]; exact h
 | x :: xs, vs, h => by
   simp only [RV.relV] at h
   obtain ⟨u,us,e,h1,h2⟩:=h
   simp only [List.map_cons,AV.relV,AV.rel]
   exact ⟨u,us,e,h1,relV_map_r h2⟩
theorem lay_len {ver : Nat → Nat} {place : Nat → Option (Nat × Nat)} : ∀ (parts : List (Nat × AV)) (cs cs' : List AV),lay ver place cs parts = some cs' → cs'.length = cs.length
 | [],cs,cs',h=>by simp only [lay] at h; injection h with h; rw [h]
 | (i, x) :: parts, cs, cs', h => by
   simp only [lay] at h
   split at h
   · split at h
     · rename_i o sz xs _ _ hc
       rw [lay_len parts _ _ h]
       simp
       omega
     · cases h
   · cases h
theorem good_litBox {t : TypeId} {n : Nat} {ps : Array (Nat × Operand)} (h : SR C p s a w) (ho : o.op = .buildSlice t n ps) (hp : (sLitBox P s (o.dst.getD 0) t n (ps.toList.map fun (i,x)=>(i,s.ev x))).pre) :
 Done P C o s a w (sLitBox P s (o.dst.getD 0) t n (ps.toList.map fun (i,x)=>(i,s.ev x))):=by
 have hparts:=parts_rel h ps.toList
 unfold sLitBox at hp ⊢
 split at hp
 · rename_i e esz eb ez sz agg z e1
   obtain ⟨hu,hok,hsz,_,zv,hzv,hez⟩:=tyq_slice e1
   subst hsz
   obtain ⟨i,zval,hi,hzero,hcells,hz1,hzl⟩:=zeroOf_spec hzv
   split at hp
   · exact hp.elim
   · rename_i hn0
     rw [if_neg hn0]
     split at hp
     · rename_i cs hlay
       obtain ⟨hpos,hmax,hd⟩ : 0 < P.cellsOf e ∧ n * P.cellsOf e ≤ 16777216 ∧ o.dst.getD 0 < 1000:=hp
       have hzc : zval.cells.size = P.cellsOf e:=by rw [← hzl,← hcells]; simp
       obtain ⟨cells',hf,hr,hr1⟩:=lay_rel (p:=p) (w:=w) _ _ (ps.toList.map fun x=>(x.1,a.eval x.2)) _ _ (madeCells zval.cells (n * P.cellsOf e)) hlay
        (by
         rw [← hzc,madeCells_list,hcells,hez]
         refine relV_map_r ?_
         clear hlay hn0 ho hmax
         induction n with
         | zero=>simp [RV.relV]
         | succ n ih =>
           simp only [List.replicate_succ,List.flatten_cons]
           exact RV.relV_append (RV.relV_ofV1 w p.R zv) ih)
        (by
         rw [← hzc,madeCells_list,hcells]
         intro u hu
         obtain ⟨l,hl,hul⟩:=List.mem_flatten.1 hu
         rw [List.eq_of_mem_replicate hl] at hul
         exact hz1 u hul)
        hparts.1 hparts.2
       have hcl : cells'.size = n * P.cellsOf e:=by
        rw [← Array.length_toList,AV.relV_length hr,lay_len _ _ _ hlay,List.length_map]
        have : ∀ m,(List.replicate m ez).flatten.length = m * P.cellsOf e:=by
         intro m
         induction m with
         | zero=>simp
         | succ m ih=>rw [List.replicate_succ,List.flatten_cons,List.length_append,ih,hez,List.length_map,hzl,Nat.add_mul]; omega
        exact this n
       have hnm : n ≤ 16777216:=Nat.le_trans (Nat.le_mul_of_pos_right n hpos) hmax
       have hn:=h.newRow (o.dst.getD 0) hd (.ara e (P.cellsOf e) cs) rfl n (by simp only [maxLen]; omega) (.cells cells' e) (fun p' ver' hR hβ hγ hk=>by
        simp only [rowRel]
        rw [hγ]
        exact ⟨_,_,hβ,heap_alloc_new w _,hcl,cells'.toList,[],by simp,AV.relV_mono hk _ _ hr,hr1⟩)
       refine ⟨_,.slice (some ⟨w.heap.size,0,none⟩) n n,_,_,?_,.inl rfl,trivial,by rw [rows_one]; exact hn,?_⟩
       · have hmap : (ps.map fun (x : Nat × Operand)=>(x.1,a.eval x.2)).toList = ps.toList.map fun x=>(x.1,a.eval x.2):=by simp
         have hne : ¬ (n * P.cellsOf e = 0):=by
          have:=Nat.mul_pos (show 0 < n by omega) hpos
          omega
         have hz : (zeroValue e).run P w = .ok zval w:=by simp [zeroValue,typeInfo,hi,hzero]
         have hf':=hf
         simp only [madeCells] at hf'
         simp only [execOp,ho,Instr.buildSlice,Sem.run_bind,run_underlying hu,Result.andThen_ok,run_sizeOf_ok hok,if_neg (show ¬ (n * P.cellsOf e > 2 ^ 24) by omega),if_neg hne,hz,Sem.run_pure,hmap,hf']
         simp [newRow]
       · rw [rows_one]
         simp only [AV.rel,vers,upd_same]
         exact ⟨Nat.le_refl _,fun _=>.inr ⟨_,_,rfl,by simp; rfl,by omega,fun _=>by simp⟩⟩
     · exact hp.elim
 · exact hp.elim
variable {Q : Exit → AS → Prop} {ops : Array Oper}
theorem sops_litB {l : List Oper} {t : TypeId} {n : Nat} {ps : List (Nat × Operand)} {d : Nat} {ty : TypeId} {pos : String} {af : Array Edge} (hdn : d < s.n)
 (h : aR s (some d) (sLitBox P s d t n (evp s ps)) (fun s'=>sops P C ops l Q s')) : sops P C ops (⟨some d,.buildSlice t n ps.toArray,ty,pos,af,none⟩ :: l) Q s:=fun a w ⟨p,hs⟩=>by
 rw [← evp_eq] at h
 unfold wpListIn
 rw [if_pos (wantA_sound hs (by simp [wantA]))]
 refine wpIn_of_wp (by intro c h; cases h) ?_
 obtain ⟨nx,v,w',p',hrun,hnx,hass,hSR,hrel⟩:=good_litBox (o:=⟨some d,.buildSlice t n ps.toArray,ty,pos,af,none⟩) hs rfl h.1
 unfold Oper.wp
 rw [hrun]
 have hput:=hSR.put' (d:=some d) hrel (fun t ht=>by injection ht with ht; subst ht; exact hdn)
 rcases hnx with rfl | ⟨rfl,rfl⟩
 · exact h.2 hass _ _ ⟨p',hput⟩
 · exact h.2 hass _ _ ⟨p',hput⟩
end
theorem relV_of_r {w : World} {p : Plan} {ver : Nat → Nat} : ∀ {xs : List RV} {vs : List Value},AV.relV w p ver (xs.map .r) vs → RV.relV w p.R xs vs
 | [],vs,h=>by simp only [List.map_nil,AV.relV] at h; simp only [RV.relV]; exact h
 | x :: xs, vs, h => by
   simp only [List.map_cons,AV.relV,AV.rel] at h
   obtain ⟨u,us,e,h1,h2⟩:=h
   simp only [RV.relV]
   exact ⟨u,us,e,h1,relV_of_r h2⟩
theorem sub_araR (s : AS) (k : Nat) {ty sz : Nat} {es : List (List RV)} (hc : (s.rows k).c = .arr ty sz es) (hne : es ≠ []) :
 Sub s { s with rows:=upd s.rows k ⟨(s.rows k).ver,.ara ty sz (es.flatten.map .r)⟩ }:=fun C a w ⟨p,hp⟩=>by
 have hr:=hp.rw k
 rw [hc] at hr
 simp only [rowRel] at hr
 rcases hr with ⟨_,h0,_⟩ | ⟨b,cells,hβ,hh,hsz,hle,hE⟩
 · exact absurd h0 hne
 · obtain ⟨hl,us,hlu,hget,hV,h1⟩:=relE_vals hE
   refine ⟨p,hp.setRow (w':=w) k (.ara ty sz (es.flatten.map .r)) (by rw [hc]; rfl) (fun _ _ _ _ h=>by cases h) hβ rfl rfl rfl rfl (fun i _=>rfl) (fun _=>by
    simp only [rowRel]
    have hpre : us <+: cells.toList:=by
     rw [List.prefix_iff_eq_take]
     refine List.ext_getElem? fun i=>?_
     rw [List.getElem?_take]
     split
     · rename_i hi
       obtain ⟨u,hu⟩ : ∃ u,us[i]? = some u:=⟨us[i],List.getElem?_eq_getElem hi⟩
       have:=hget i u hu
       rw [add_at,Nat.zero_add,Nat.zero_add,cell_of_row w b i cells ty (0,0) hh] at this
       rw [hu,Array.getElem?_toList,this]
     · rename_i hi
       rw [List.getElem?_eq_none (by omega)]
    obtain ⟨rest,hrest⟩:=hpre
    exact ⟨b,cells,hβ,hh,hsz,us,rest,hrest.symm,relV_map_r hV,h1⟩)⟩
theorem sub_arrR (s : AS) (k : Nat) {ty sz : Nat} {cs : List AV} (es : List (List RV)) (hc : (s.rows k).c = .ara ty sz cs) (he : cs = es.flatten.map .r) (hl : ∀ e ∈ es,e.length = sz) (hsz : 0 < sz) :
 Sub s { s with rows:=upd s.rows k ⟨(s.rows k).ver,.arr ty sz es⟩ }:=fun C a w ⟨p,hp⟩=>by
 have hr:=hp.rw k
 rw [hc,he] at hr
 simp only [rowRel] at hr
 obtain ⟨b,cells,hβ,hh,hs,l,rest,hlr,hV,h1⟩:=hr
 have hV:=relV_of_r hV
 refine ⟨p,hp.setRow (w':=w) k (.arr ty sz es) (by rw [hc]; rfl) (fun _ _ _ _ h=>by cases h) hβ rfl rfl rfl rfl (fun i _=>rfl) (fun _=>by
  simp only [rowRel]
  refine .inr ⟨b,cells,hβ,hh,hs,?_,relE_of_vals hl hV h1 (fun j u hj=>?_)⟩
  · have e1:=RV.relV_length hV
    rw [length_flatten hl] at e1
    have e2 : l.length + rest.length = p.γ k * sz:=by rw [← hs,← Array.length_toList,hlr,List.length_append]
    have : es.length * sz ≤ p.γ k * sz:=by omega
    exact Nat.le_of_mul_le_mul_right this hsz
  · rw [add_at,Nat.zero_add,Nat.zero_add,cell_of_row w b j cells ty (0,0) hh,← Array.getElem?_toList,hlr,List.getElem?_append_left (List.getElem?_eq_some_iff.1 hj).1]
    exact hj)⟩
theorem sub_freezeBA (s : AS) (kb i k v sz off m : Nat) {tb sb : Nat} {cells : List AV} (hk0 : k < 1000) (hne : kb ≠ k) (hbox : (s.rows kb).c = .ara tb sb cells) (hi : cells[i]? = some (.os k v sz off m)) (hv : v = s.ver k)
 (hc : match (s.rows k).c with | .arr _ sz' es=>sz = sz' ∧ off + m ≤ es.length | .arc _ sz' es _=>sz = sz' ∧ off + m ≤ es.length | _=>False) :
 Sub s { s with rows:=upd (upd s.rows k ⟨(s.rows k).ver + 1,.dead⟩) kb ⟨(s.rows kb).ver,.ara tb sb (cells.set i (.r (match (s.rows k).c with | .arr _ _ es=>RV.sl sz ((es.drop off).take m) | .arc _ _ es _=>RV.sl sz ((es.drop off).take m) | _=>.un)))⟩ }:=fun C a w ⟨p,hp⟩=>by
 have h1:=hp.reRow (w':=w) k hk0 .dead rfl none 1 (by simp [maxLen]) rfl rfl rfl (Nat.le_refl _) (fun _ _ _=>rfl) (fun _ h=>by cases h) (fun p' ver' _ hβ hγ _=>by simp only [rowRel]; exact ⟨hβ,hγ⟩)
 have hr:=hp.rw kb
 rw [hbox] at hr
 simp only [rowRel] at hr
 obtain ⟨b,cs,g1,g2,_,l0,rest0,g0,g3,g4⟩:=hr
 obtain ⟨u,hu,hval⟩:=AV.relV_get g3 hi
 have put : ∀ {p2 : Plan},SR C p2 { s with rows:=upd s.rows k ⟨(s.rows k).ver + 1,.dead⟩ } a w → p2.β kb = p.β kb → (∀ b,p.R b → p2.R b) → (∀ b,p.β k = some b → p2.R b) →
  SRel C { s with rows:=upd (upd s.rows k ⟨(s.rows k).ver + 1,.dead⟩) kb ⟨(s.rows kb).ver,.ara tb sb (cells.set i (.r (match (s.rows k).c with | .arr _ _ es=>RV.sl sz ((es.drop off).take m) | .arc _ _ es _=>RV.sl sz ((es.drop off).take m) | _=>.un)))⟩ } a w:=fun {p2} h2 hβ2 hR hR2=>by
  have hr2:=h2.rw kb
  rw [show (upd s.rows k ⟨(s.rows k).ver + 1,.dead⟩ kb).c = .ara tb sb cells by rw [upd_other _ _ hne]; exact hbox] at hr2
  simp only [rowRel] at hr2
  obtain ⟨b',cs',f1,f2,fs,l',rest',f0,f3,f4⟩:=hr2
  have eb : b' = b:=by rw [hβ2,g1] at f1; injection f1 with e; exact e.symm
  subst eb
  rw [g2] at f2
  injection f2 with e
  injection e with e1 e2 e3
  subst e1
  have hll : l' = l0:=by
   have h1:=AV.relV_length f3
   have h2:=AV.relV_length g3
   rw [g0] at f0
   exact (List.append_inj f0 (by omega)).1.symm
  subst hll
  have:=h2.setRow (w':=w) kb (.ara tb sb (cells.set i (.r (match (s.rows k).c with | .arr _ _ es=>RV.sl sz ((es.drop off).take m) | .arc _ _ es _=>RV.sl sz ((es.drop off).take m) | _=>.un))))
   (by rw [show (upd s.rows k ⟨(s.rows k).ver + 1,.dead⟩ kb).c = .ara tb sb cells by rw [upd_other _ _ hne]; exact hbox]; rfl) (fun _ _ _ _ h=>by cases h) f1 rfl rfl rfl rfl (fun _ _=>rfl) (fun _=>by
    simp only [rowRel]
    refine ⟨b',cs,f1,g2,fs,l',rest',f0,relV_set f3 (fun u' hu'=>?_),f4⟩
    rw [hu] at hu'
    injection hu' with e
    subst e
    simp only [AV.rel]
    exact snap_os hp hv hc hval hR hR2)
  rw [show (upd s.rows k ⟨(s.rows k).ver + 1,.dead⟩ kb).ver = (s.rows kb).ver by rw [upd_other _ _ hne]] at this
  exact ⟨p2,this⟩
 cases hβ : p.β k with
 | none=>exact put h1 (upd_other _ _ hne) (fun _ h=>h) (fun b hb=>by rw [hβ] at hb; cases hb)
 | some b =>
   obtain ⟨g1,_,g2⟩:=hp.bl k b hβ
   have h2:=h1.publish (b:=b) g1 (g2.imp id fun h=>h.resolve_left (fun h=>by omega)) (fun j hj=>by
    have hj' : upd p.β k none j = some b:=hj
    by_cases e : j = k
    · subst e; rw [upd_same] at hj'; cases hj'
    · rw [upd_other _ _ e] at hj'; exact e (hp.ij j k b hj' hβ)) (hp.ex.publish hβ)
   exact put h2 (upd_other _ _ hne) (fun _ h=>.inl h) (fun b' hb'=>by rw [hβ] at hb'; injection hb' with e; exact .inr e.symm)
theorem sub_freezePB (s : AS) (kb i k v : Nat) {cells : List AV} {rs : List RV} (hk0 : k < 1000) (hne : kb ≠ k) (hbox : (s.rows kb).c = .box cells) (hi : cells[i]? = some (.pt k v 0)) (hv : v = s.ver k)
 (hc : (s.rows k).c = .box (rs.map .r)) :
 Sub s { s with rows:=upd (upd s.rows k ⟨(s.rows k).ver + 1,.dead⟩) kb ⟨(s.rows kb).ver,.box (cells.set i (.r (.rp rs)))⟩ }:=fun C a w ⟨p,hp⟩=>by
 have h1:=hp.reRow (w':=w) k hk0 .dead rfl none 1 (by simp [maxLen]) rfl rfl rfl (Nat.le_refl _) (fun _ _ _=>rfl) (fun _ h=>by cases h) (fun p' ver' _ hβ hγ _=>by simp only [rowRel]; exact ⟨hβ,hγ⟩)
 have hr:=hp.rw kb
 rw [hbox] at hr
 simp only [rowRel] at hr
 obtain ⟨b,cs,t,g1,g2,g3,g4⟩:=hr
 obtain ⟨u,hu,hval⟩:=AV.relV_get g3 hi
 have hq:=hp.rw k
 rw [hc] at hq
 simp only [rowRel] at hq
 obtain ⟨bk,ck,tk,k1,k2,k3,k4⟩:=hq
 simp only [AV.rel] at hval
 obtain ⟨bk',e1,e2⟩:=hval.2 hv
 rw [k1] at e1
 injection e1 with e1
 subst e1
 obtain ⟨q1,_,q2⟩:=hp.bl k bk k1
 have h2:=h1.publish (b:=bk) q1 (q2.imp id fun h=>h.resolve_left (fun h=>by omega)) (fun j hj=>by
  have hj' : upd p.β k none j = some bk:=hj
  by_cases e : j = k
  · subst e; rw [upd_same] at hj'; cases hj'
  · rw [upd_other _ _ e] at hj'; exact e (hp.ij j k bk hj' k1)) (hp.ex.publish k1)
 have hr2:=h2.rw kb
 rw [show (upd s.rows k ⟨(s.rows k).ver + 1,.dead⟩ kb).c = .box cells by rw [upd_other _ _ hne]; exact hbox] at hr2
 simp only [rowRel] at hr2
 obtain ⟨b',cs',t',f1,f2,f3,f4⟩:=hr2
 have eb : b' = b:=by
  rw [show (upd p.β k none) kb = p.β kb from upd_other _ _ hne,g1] at f1
  injection f1 with e; exact e.symm
 subst eb
 rw [g2] at f2
 injection f2 with e
 injection e with e1 e2' e3
 subst e1
 have:=h2.setRow (w':=w) kb (.box (cells.set i (.r (.rp rs))))
  (by rw [show (upd s.rows k ⟨(s.rows k).ver + 1,.dead⟩ kb).c = .box cells by rw [upd_other _ _ hne]; exact hbox]; rfl) (fun _ _ _ _ h=>by cases h) f1 rfl rfl rfl rfl (fun _ _=>rfl) (fun _=>by
   simp only [rowRel]
   refine ⟨b',cs,t',f1,by rw [g2,e2'],relV_set f3 (fun u' hu'=>?_),f4⟩
   rw [hu] at hu'
   injection hu' with e
   subst e
   simp only [AV.rel,RV.rel]
   refine ⟨_,e2,.inr rfl,?_⟩
   exact relC_plain (fun _ h=>.inl h) k2 k4 _ _ _ (fun i u h=>by simpa using h) k3)
 rw [show (upd s.rows k ⟨(s.rows k).ver + 1,.dead⟩ kb).ver = (s.rows kb).ver by rw [upd_other _ _ hne]] at this
 exact ⟨_,this⟩
section
variable {n : Nat} {l : List (Nat × AV)} {vs : Nat → Nat} {cs : List (Nat × RowC)}
theorem sub_ara (k : Nat) {ty sz : Nat} {es : List (List RV)} (hc : lookc cs k = .arr ty sz es) (hne : es ≠ []) :
 Sub (st n l vs cs) (st n l vs (insc cs k (.ara ty sz (es.flatten.map .r)))):=by
 have:=sub_araR (st n l vs cs) k hc hne
 have e : ({ st n l vs cs with rows:=upd (st n l vs cs).rows k ⟨((st n l vs cs).rows k).ver,.ara ty sz (es.flatten.map .r)⟩ } : AS) = st n l vs (insc cs k (.ara ty sz (es.flatten.map .r))):=by
  simp only [st,AS.mk.injEq,true_and]
  funext j
  rw [lookc_insc]
  unfold upd
  split
  · rename_i e; subst e; rfl
  · rfl
 rwa [e] at this
theorem sub_arr (k : Nat) {ty sz : Nat} {aa : List AV} (es : List (List RV)) (hc : lookc cs k = .ara ty sz aa) (he : aa = es.flatten.map .r) (hl : ∀ e ∈ es,e.length = sz) (hsz : 0 < sz) :
 Sub (st n l vs cs) (st n l vs (insc cs k (.arr ty sz es))):=by
 have:=sub_arrR (st n l vs cs) k es hc he hl hsz
 have e : ({ st n l vs cs with rows:=upd (st n l vs cs).rows k ⟨((st n l vs cs).rows k).ver,.arr ty sz es⟩ } : AS) = st n l vs (insc cs k (.arr ty sz es)):=by
  simp only [st,AS.mk.injEq,true_and]
  funext j
  rw [lookc_insc]
  unfold upd
  split
  · rename_i e; subst e; rfl
  · rfl
 rwa [e] at this
theorem sub_frzBA (kb i k : Nat) {tb sb : Nat} {cells : List AV} {sz off m ty : Nat} {es : List (List RV)} (hk0 : k < 1000) (hne : kb ≠ k) (hb : lookc cs kb = .ara tb sb cells) (hi : cells[i]? = some (.os k (vs k) sz off m)) (hc : lookc cs k = .arr ty sz es) (hle : off + m ≤ es.length) :
 Sub (st n l vs cs) (st n l (upd vs k (vs k + 1)) (insc (delc cs k) kb (.ara tb sb (cells.set i (.r (.sl sz ((es.drop off).take m))))))):=by
 have:=sub_freezeBA (st n l vs cs) kb i k (vs k) sz off m hk0 hne hb hi rfl (by show match lookc cs k with | .arr _ sz' es=>sz = sz' ∧ off + m ≤ es.length | .arc _ sz' es _=>sz = sz' ∧ off + m ≤ es.length | _=>False; rw [hc]; exact ⟨rfl,hle⟩)
 have e : ({ st n l vs cs with rows:=upd (upd (st n l vs cs).rows k ⟨((st n l vs cs).rows k).ver + 1,.dead⟩) kb ⟨((st n l vs cs).rows kb).ver,.ara tb sb (cells.set i (.r (match ((st n l vs cs).rows k).c with | .arr _ _ es=>RV.sl sz ((es.drop off).take m) | .arc _ _ es _=>RV.sl sz ((es.drop off).take m) | _=>.un)))⟩ } : AS)
  = st n l (upd vs k (vs k + 1)) (insc (delc cs k) kb (.ara tb sb (cells.set i (.r (.sl sz ((es.drop off).take m)))))):=by
  simp only [st,AS.mk.injEq,true_and]
  funext j
  rw [lookc_insc,lookc_delc,hc]
  unfold upd
  split
  · rename_i e; subst e; rw [if_neg hne]
  · split <;> rfl
 rwa [e] at this
theorem sub_frzPB (kb i k : Nat) (rs : List RV) {cells : List AV} (hk0 : k < 1000) (hne : kb ≠ k) (hb : lookc cs kb = .box cells) (hi : cells[i]? = some (.pt k (vs k) 0)) (hc : lookc cs k = .box (rs.map .r)) :
 Sub (st n l vs cs) (st n l (upd vs k (vs k + 1)) (insc (delc cs k) kb (.box (cells.set i (.r (.rp rs)))))):=by
 have:=sub_freezePB (st n l vs cs) kb i k (vs k) hk0 hne hb hi rfl hc
 have e : ({ st n l vs cs with rows:=upd (upd (st n l vs cs).rows k ⟨((st n l vs cs).rows k).ver + 1,.dead⟩) kb ⟨((st n l vs cs).rows kb).ver,.box (cells.set i (.r (.rp rs)))⟩ } : AS)
  = st n l (upd vs k (vs k + 1)) (insc (delc cs k) kb (.box (cells.set i (.r (.rp rs))))):=by
  simp only [st,AS.mk.injEq,true_and]
  funext j
  rw [lookc_insc,lookc_delc]
  unfold upd
  split
  · rename_i e; subst e; rw [if_neg hne]
  · split <;> rfl
 rwa [e] at this
end
end Go.Oc

namespace Go.Proofs.Ytlbfkhikmigpbaa
open Go Go.Oc
set_option linter.unusedSimpArgs false
set_option linter.unusedVariables false
set_option maxRecDepth 8000
mutual
theorem rv_le : ∀ x : RV,RV.le x x
 | .sl _ _=>by simp only [RV.le]; exact .inl trivial
 | .ag xs=>by simp only [RV.le]; exact rv_leL xs
 | .fn _ xs=>by simp only [RV.le]; exact ⟨trivial,rv_leL xs⟩
 | .rp xs=>by simp only [RV.le]; exact rv_leL xs
 | .un | .bo _ | .it _ _ | .ns | .np | .nf | .tu _ | .st _ | .ud | .yl _ | .sx _ _ | .vl _=>by simp only [RV.le]
theorem rv_leL : ∀ xs : List RV,RV.leL xs xs
 | []=>by simp only [RV.leL]
 | x :: xs=>by simp only [RV.leL]; exact ⟨rv_le x,rv_leL xs⟩
end
theorem seq_beds : ∀ {p : Option Int} {l : List Bd},seqOk p l = true → ∀ x ∈ l,x.b = 0 ∨ bedOk x.b = true
 | _,[],_,x,hx=>by cases hx
 | p, y :: l, h, x, hx => by
   simp only [seqOk,Bool.and_eq_true,Bool.or_eq_true,decide_eq_true_eq] at h
   rcases List.mem_cons.1 hx with rfl | hx
   · exact h.1.1
   · exact seq_beds h.2 x hx
theorem bedOk_le {b : Int} (h : bedOk b = true) : 0 ≤ b ∧ b ≤ 499:=by
 simp only [bedOk,Bool.or_eq_true,Bool.and_eq_true,decide_eq_true_eq] at h
 omega
theorem ruG_of {r : Ru} (h : ruE r = 0) : RuG r ∧ 1 ≤ r.ends.length ∧ 0 ≤ r.out ∧ r.out ≤ 2:=by
 unfold ruE at h
 split at h
 · rename_i hc; exact absurd h hc
 · rename_i hc
   have hc : checkV r.d r.aims = 0:=by simpa using hc
   split at h
   · rename_i hb
     simp only [Bool.and_eq_true,decide_eq_true_eq] at hb
     obtain ⟨⟨⟨⟨⟨⟨⟨s2,s40⟩,o0⟩,o2⟩,e1⟩,e10⟩,he⟩,hl⟩:=hb
     unfold checkV at hc
     split at hc
     · cases hc
     · rename_i g1
       split at hc
       · cases hc
       · rename_i g2
         split at hc
         · rename_i g3
           simp only [Bool.or_eq_true,decide_eq_true_eq,List.any_eq_true,not_or,not_exists,not_and] at g1
           simp only [Bool.or_eq_true,Bool.not_eq_true',Bool.and_eq_false_iff,decide_eq_false_iff_not,not_or,Decidable.not_not,List.isEmpty_iff] at g2
           refine ⟨⟨⟨g2.1,by omega,by omega,by omega,fun a ha=>?_⟩,e1,e10,fun x hx=>List.all_eq_true.1 he x hx,s2,s40⟩,e1,o0,o2⟩
           have ha1:=List.all_eq_true.1 g3 a ha
           have ha2:=g1.2 a ha
           simp only [aimOk,Bool.and_eq_true,decide_eq_true_eq] at ha1
           obtain ⟨⟨⟨⟨q1,q2⟩,q3⟩,q4⟩,q5⟩:=ha1
           refine ⟨by omega,q4,fun c hc=>?_⟩
           have hb:=seq_beds q2 c hc
           have hch:=List.all_eq_true.1 q3 c hc
           simp only [Bool.and_eq_true,decide_eq_true_eq] at hch
           refine ⟨?_,hch.1.1,hch.1.2,by omega⟩
           rcases hb with hb | hb
           · omega
           · exact bedOk_le hb
         · cases hc
   · cases h
def tabF (r : Ru) (most : Bool) : List (List Int):=tabI r most r.ends.length
abbrev sidesV (r : Ru) : RV:=if ruE r = 0 then .ag [sideP r false (tabF r false),sideP r true (tabF r true)] else .ag [.np,.np]
theorem sides_ok (r : Ru) (hw : WfR r) : ACalls Try.prog 42 [ruV r] (.tu [sidesV r,i64 (ruE r)]):=by
 have hch:=dcheck_ok r hw
 refine acalls_st (rs:=[sidesV r,i64 (ruE r)]) [.cell 2 100,.tmp 3] Try.func42 rfl (by kernel_rfl) Try.ntmps42 rfl (by simp) rfl fun C vs=>?_
 repeat refine zq ?_
 refine zb (by kernel_rfl) fun K hK=>?_
 simp only [go_sem]
 (try simp (disch:=omega) only [zI])
 repeat first | intro _ | refine ⟨by omega,?_⟩ | refine ⟨⟨by omega,by omega⟩,?_⟩
 refine hK _ ?_
 clear hK K
 refine zw (sub_frzP 1 1 (ruC r) (by omega) rfl rfl) ?_
 refine zw (zk [1,2]) ?_
 simp only [go_sem]
 repeat refine zq ?_
 refine zb (by kernel_rfl) fun K hK=>?_
 simp only [go_sem]
 (try simp (disch:=omega) only [zI])
 refine zh (hch) rfl (by simp only [go_sem,i64,ints]) (by simp only [go_sem,i64,ints]) (by first | exact .inl rfl | exact .inr rfl) ?_
 (try simp only [go_sem])
 (try simp (disch:=omega) only [zI])
 repeat first | intro _ | refine ⟨by omega,?_⟩ | refine ⟨⟨by omega,by omega⟩,?_⟩
 refine hK _ ?_
 clear hK K
 refine zw (zk [1,2,4]) ?_
 simp only [go_sem]
 by_cases h0 : ruE r = 0
 rotate_left
 · have c : (ruE r != 0) = true:=by simpa using h0
   repeat refine zq ?_
   refine zb (by kernel_rfl) fun K hK=>?_
   simp only [go_sem,c]
   (try simp (disch:=omega) only [zI])
   repeat first | intro _ | refine ⟨by omega,?_⟩ | refine ⟨⟨by omega,by omega⟩,?_⟩
   refine hK _ ?_
   clear hK K
   refine zw (zk [1,2,4,9]) ?_
   simp only [go_sem]
   repeat refine zq ?_
   refine zc rfl (fun hc=>?_) (fun hc=>?_) <;> (try simp only [go_sem] at hc)
   repeat refine zq ?_
   refine zb (by kernel_rfl) fun K hK=>?_
   simp only [go_sem]
   (try simp (disch:=omega) only [zI])
   repeat first | intro _ | refine ⟨by omega,?_⟩ | refine ⟨⟨by omega,by omega⟩,?_⟩
   refine hK _ ?_
   clear hK K
   refine zw (zk [2,3]) ?_
   simp only [go_sem]
   refine ze ?_
   simp only [go_sem]
   simp only [sidesV,if_neg h0]
   exact rv_le _
 obtain ⟨hG,_⟩:=ruG_of h0
 rw [h0]
 repeat refine zq ?_
 refine zb (by kernel_rfl) fun K hK=>?_
 simp only [go_sem,bne_self_eq_false]
 (try simp (disch:=omega) only [zI])
 repeat first | intro _ | refine ⟨by omega,?_⟩ | refine ⟨⟨by omega,by omega⟩,?_⟩
 refine hK _ ?_
 clear hK K
 refine zw (zk [1,2,4,9]) ?_
 simp only [go_sem]
 repeat refine zq ?_
 refine zc rfl (fun hc=>?_) (fun hc=>?_) <;> (try simp only [go_sem] at hc)
 refine zx ?_
 try simp only [go_sem]
 repeat refine zq ?_
 refine zb (by kernel_rfl) fun K hK=>?_
 simp only [go_sem]
 (try simp (disch:=omega) only [zI])
 repeat first | intro _ | refine ⟨by omega,?_⟩ | refine ⟨⟨by omega,by omega⟩,?_⟩
 refine hK _ ?_
 clear hK K
 refine zw (zk [1,2,12]) ?_
 simp only [go_sem]
 repeat refine zq ?_
 refine zd ?_
 refine awp_uptoV (n:=29) 2 (fun i vs=>[(1,.r (.rp (ruC r))),(2,.pt 2 (vs 2) 0),(12,.r (i64 (i : Int)))])
  (fun i vs=>[(2,.box [if 0 < i then .r (sideP r false (tabF r false)) else .r .np,if 1 < i then .r (sideP r true (tabF r true)) else .r .np])]) (fun _=>True) 0 (zj [] ?_ ?_) (Nat.zero_le _) trivial ?_
 · try simp only [go_sem]
 · try simp only [go_sem]
 · intro i vs hi _
   have hf0:=fill_ok hG false
   have hf1:=fill_ok hG true
   have e01 : ((0 : Int) == 1) = false:=rfl
   have e11 : ((1 : Int) == 1) = true:=rfl
   have h012 : i = 0 ∨ i = 1 ∨ i = 2:=by omega
   rcases h012 with rfl | rfl | rfl
   · repeat refine zq ?_
     refine zb (by kernel_rfl) fun K hK=>?_
     simp only [go_sem]
     (try simp (disch:=omega) only [zI])
     repeat first | intro _ | refine ⟨by omega,?_⟩ | refine ⟨⟨by omega,by omega⟩,?_⟩
     refine hK _ ?_
     clear hK K
     refine zw (zk [1,2,12,13]) ?_
     simp only [go_sem]
     repeat refine zq ?_
     refine zc rfl (fun hc=>?_) (fun hc=>?_) <;> (try simp only [go_sem] at hc)
     refine zx ?_
     try simp only [go_sem]
     repeat refine zq ?_
     refine zd ?_
     repeat refine zq ?_
     refine zb (by kernel_rfl) fun K hK=>?_
     simp only [go_sem]
     (try simp (disch:=omega) only [zI])
     repeat first | intro _ | refine ⟨by omega,?_⟩ | refine ⟨⟨by omega,by omega⟩,?_⟩
     refine hK _ ?_
     clear hK K
     refine zw (zk [1,2,5,12]) ?_
     simp only [go_sem]
     repeat refine zq ?_
     refine zb (by kernel_rfl) fun K hK=>?_
     simp only [go_sem,e01,e11]
     (try simp (disch:=omega) only [zI])
     repeat first | intro _ | refine ⟨by omega,?_⟩ | refine ⟨⟨by omega,by omega⟩,?_⟩
     refine hK _ ?_
     clear hK K
     refine zw (zk [1,2,5,12]) ?_
     simp only [go_sem]
     repeat refine zq ?_
     refine zb (by kernel_rfl) fun K hK=>?_
     simp only [go_sem]
     (try simp (disch:=omega) only [zI])
     refine xcall_mut (hf0) [(1000,21)] rfl (by simp only [go_sem,i64,ints]) (by simp only [go_sem,i64,ints]) (by rfl) (by rfl) ?_
     (try simp only [go_sem])
     (try simp (disch:=omega) only [zI])
     repeat first | intro _ | refine ⟨by omega,?_⟩ | refine ⟨⟨by omega,by omega⟩,?_⟩
     refine hK _ ?_
     clear hK K
     refine zw (sub_frzPB 2 0 21 (sideC r false (tabF r false)) (by omega) (by omega) rfl rfl rfl) ?_
     refine zw (zk [1,2,12]) ?_
     simp only [go_sem]
     repeat refine zq ?_
     refine zb (by kernel_rfl) fun K hK=>?_
     simp only [go_sem]
     (try simp (disch:=omega) only [zI])
     repeat first | intro _ | refine ⟨by omega,?_⟩ | refine ⟨⟨by omega,by omega⟩,?_⟩
     refine hK _ ?_
     clear hK K
     try simp only [go_sem]
     refine zj [] ?_ ?_
     · try simp only [go_sem]
     · try simp only [go_sem]
   · repeat refine zq ?_
     refine zb (by kernel_rfl) fun K hK=>?_
     simp only [go_sem]
     (try simp (disch:=omega) only [zI])
     repeat first | intro _ | refine ⟨by omega,?_⟩ | refine ⟨⟨by omega,by omega⟩,?_⟩
     refine hK _ ?_
     clear hK K
     refine zw (zk [1,2,12,13]) ?_
     simp only [go_sem]
     repeat refine zq ?_
     refine zc rfl (fun hc=>?_) (fun hc=>?_) <;> (try simp only [go_sem] at hc)
     refine zx ?_
     try simp only [go_sem]
     repeat refine zq ?_
     refine zd ?_
     repeat refine zq ?_
     refine zb (by kernel_rfl) fun K hK=>?_
     simp only [go_sem]
     (try simp (disch:=omega) only [zI])
     repeat first | intro _ | refine ⟨by omega,?_⟩ | refine ⟨⟨by omega,by omega⟩,?_⟩
     refine hK _ ?_
     clear hK K
     refine zw (zk [1,2,5,12]) ?_
     simp only [go_sem]
     repeat refine zq ?_
     refine zb (by kernel_rfl) fun K hK=>?_
     simp only [go_sem,e01,e11]
     (try simp (disch:=omega) only [zI])
     repeat first | intro _ | refine ⟨by omega,?_⟩ | refine ⟨⟨by omega,by omega⟩,?_⟩
     refine hK _ ?_
     clear hK K
     refine zw (zk [1,2,5,12]) ?_
     simp only [go_sem]
     repeat refine zq ?_
     refine zb (by kernel_rfl) fun K hK=>?_
     simp only [go_sem]
     (try simp (disch:=omega) only [zI])
     refine xcall_mut (hf1) [(1000,21)] rfl (by simp only [go_sem,i64,ints]) (by simp only [go_sem,i64,ints]) (by rfl) (by rfl) ?_
     (try simp only [go_sem])
     (try simp (disch:=omega) only [zI])
     repeat first | intro _ | refine ⟨by omega,?_⟩ | refine ⟨⟨by omega,by omega⟩,?_⟩
     refine hK _ ?_
     clear hK K
     refine zw (sub_frzPB 2 1 21 (sideC r true (tabF r true)) (by omega) (by omega) rfl rfl rfl) ?_
     refine zw (zk [1,2,12]) ?_
     simp only [go_sem]
     repeat refine zq ?_
     refine zb (by kernel_rfl) fun K hK=>?_
     simp only [go_sem]
     (try simp (disch:=omega) only [zI])
     repeat first | intro _ | refine ⟨by omega,?_⟩ | refine ⟨⟨by omega,by omega⟩,?_⟩
     refine hK _ ?_
     clear hK K
     try simp only [go_sem]
     refine zj [] ?_ ?_
     · try simp only [go_sem]
     · try simp only [go_sem]
   · repeat refine zq ?_
     refine zb (by kernel_rfl) fun K hK=>?_
     simp only [go_sem]
     (try simp (disch:=omega) only [zI])
     repeat first | intro _ | refine ⟨by omega,?_⟩ | refine ⟨⟨by omega,by omega⟩,?_⟩
     refine hK _ ?_
     clear hK K
     refine zw (zk [1,2,12,13]) ?_
     simp only [go_sem]
     repeat refine zq ?_
     refine zc rfl (fun hc=>?_) (fun hc=>?_) <;> (try simp only [go_sem] at hc)
     refine zf ?_
     simp only [go_sem]
     repeat refine zq ?_
     refine zb (by kernel_rfl) fun K hK=>?_
     simp only [go_sem]
     (try simp (disch:=omega) only [zI])
     repeat first | intro _ | refine ⟨by omega,?_⟩ | refine ⟨⟨by omega,by omega⟩,?_⟩
     refine hK _ ?_
     clear hK K
     refine zw (zk [2,3]) ?_
     simp only [go_sem]
     refine ze ?_
     simp only [go_sem]
     simp only [sidesV,if_pos h0]
     exact rv_le _
abbrev tabsV (r : Ru) (most : Bool) : RV:=if ruE r = 0 then tabR (tabF r most) else .ns
theorem table_ok (r : Ru) (hw : WfR r) : ACalls Try.prog 16 [ruV r] (.tu [tabsV r false,tabsV r true,i64 (ruE r)]):=by
 have hs:=sides_ok r hw
 refine acalls_st (rs:=[tabsV r false,tabsV r true,i64 (ruE r)]) [.tmp 2,.tmp 3,.tmp 4] Try.func16 rfl (by kernel_rfl) Try.ntmps16 rfl (by simp) rfl fun C vs=>?_
 repeat refine zq ?_
 refine zb (by kernel_rfl) fun K hK=>?_
 simp only [go_sem]
 (try simp (disch:=omega) only [zI])
 repeat first | intro _ | refine ⟨by omega,?_⟩ | refine ⟨⟨by omega,by omega⟩,?_⟩
 refine hK _ ?_
 clear hK K
 refine zw (sub_frzP 1 1 (ruC r) (by omega) rfl rfl) ?_
 refine zw (zk [1]) ?_
 simp only [go_sem]
 by_cases h0 : ruE r = 0
 · have e1 : sidesV r = .ag [sideP r false (tabF r false),sideP r true (tabF r true)]:=if_pos h0
   rw [e1,h0] at hs
   repeat refine zq ?_
   refine zb (by kernel_rfl) fun K hK=>?_
   simp only [go_sem]
   (try simp (disch:=omega) only [zI])
   refine zh (hs) rfl (by simp only [go_sem,i64,ints]) (by simp only [go_sem,i64,ints]) (by first | exact .inl rfl | exact .inr rfl) ?_
   (try simp only [go_sem])
   (try simp (disch:=omega) only [zI])
   repeat first | intro _ | refine ⟨by omega,?_⟩ | refine ⟨⟨by omega,by omega⟩,?_⟩
   refine hK _ ?_
   clear hK K
   refine zw (zk [4,5]) ?_
   simp only [go_sem]
   repeat refine zq ?_
   refine zb (by kernel_rfl) fun K hK=>?_
   simp only [go_sem,bne_self_eq_false]
   (try simp (disch:=omega) only [zI])
   repeat first | intro _ | refine ⟨by omega,?_⟩ | refine ⟨⟨by omega,by omega⟩,?_⟩
   refine hK _ ?_
   clear hK K
   refine zw (zk [4,5,12]) ?_
   simp only [go_sem]
   repeat refine zq ?_
   refine zc rfl (fun hc=>?_) (fun hc=>?_) <;> (try simp only [go_sem] at hc)
   refine zx ?_
   try simp only [go_sem]
   repeat refine zq ?_
   refine zg follows (by decide +kernel) (by kernel_rfl) fun K hK=>?_
   simp only [go_sem]
   (try simp (disch:=omega) only [zI])
   repeat first | intro _ | refine ⟨by omega,?_⟩ | refine ⟨⟨by omega,by omega⟩,?_⟩
   refine hK _ ?_
   clear hK K
   refine zw (zk [2,3,4]) ?_
   simp only [go_sem]
   refine ze ?_
   simp only [go_sem]
   simp only [tabsV,if_pos h0]
   exact ⟨rv_le _,rv_le _,h0.symm⟩
 · have e1 : sidesV r = .ag [.np,.np]:=if_neg h0
   have c : (ruE r != 0) = true:=by simpa using h0
   rw [e1] at hs
   repeat refine zq ?_
   refine zb (by kernel_rfl) fun K hK=>?_
   simp only [go_sem]
   (try simp (disch:=omega) only [zI])
   refine zh (hs) rfl (by simp only [go_sem,i64,ints]) (by simp only [go_sem,i64,ints]) (by first | exact .inl rfl | exact .inr rfl) ?_
   (try simp only [go_sem])
   (try simp (disch:=omega) only [zI])
   repeat first | intro _ | refine ⟨by omega,?_⟩ | refine ⟨⟨by omega,by omega⟩,?_⟩
   refine hK _ ?_
   clear hK K
   refine zw (zk [4,5]) ?_
   simp only [go_sem]
   repeat refine zq ?_
   refine zb (by kernel_rfl) fun K hK=>?_
   simp only [go_sem,c]
   (try simp (disch:=omega) only [zI])
   repeat first | intro _ | refine ⟨by omega,?_⟩ | refine ⟨⟨by omega,by omega⟩,?_⟩
   refine hK _ ?_
   clear hK K
   refine zw (zk [4,5,12]) ?_
   simp only [go_sem]
   repeat refine zq ?_
   refine zc rfl (fun hc=>?_) (fun hc=>?_) <;> (try simp only [go_sem] at hc)
   repeat refine zq ?_
   refine zb (by kernel_rfl) fun K hK=>?_
   simp only [go_sem]
   (try simp (disch:=omega) only [zI])
   repeat first | intro _ | refine ⟨by omega,?_⟩ | refine ⟨⟨by omega,by omega⟩,?_⟩
   refine hK _ ?_
   clear hK K
   refine zw (zk [2,3,4]) ?_
   simp only [go_sem]
   refine ze ?_
   simp only [go_sem]
   simp only [tabsV,if_neg h0]
   exact ⟨rv_le _,rv_le _⟩
end Go.Proofs.Ytlbfkhikmigpbaa

namespace Go.Proofs.Ytlbfkhikmigpbaa
open Go Go.Oc
set_option linter.unusedSimpArgs false
set_option linter.unusedVariables false
set_option maxRecDepth 8000
structure RefH (r : Ru) : Prop where
 out : r.out = 0 ∨ r.out = 1 ∨ r.out = 2
 beds : ∀ a ∈ r.aims,∀ c ∈ a.beds,c.b = 0 ∨ 0 < scoreOf c.b
 hi : ∀ a ∈ r.aims,r.d ≤ hiS a.beds
theorem bedOk_pos {b : Int} (h : bedOk b = true) : 0 < scoreOf b:=by
 simp only [bedOk,Bool.or_eq_true,Bool.and_eq_true,decide_eq_true_eq] at h
 unfold scoreOf
 refine Int.mul_pos (by omega) (by omega)
theorem refH_of {r : Ru} (h : ruE r = 0) : RefH r:=by
 have h0:=h
 unfold ruE at h
 split at h
 · rename_i hc; exact absurd h hc
 · rename_i hc
   have hc : checkV r.d r.aims = 0:=by simpa using hc
   obtain ⟨_,_,o0,o2⟩:=ruG_of h0
   unfold checkV at hc
   split at hc
   · cases hc
   · split at hc
     · cases hc
     · split at hc
       · rename_i g3
         refine ⟨by omega,fun a ha c hc=>?_,fun a ha=>?_⟩
         · have ha1:=List.all_eq_true.1 g3 a ha
           simp only [aimOk,Bool.and_eq_true,decide_eq_true_eq] at ha1
           obtain ⟨⟨⟨⟨q1,q2⟩,q3⟩,q4⟩,q5⟩:=ha1
           rcases seq_beds q2 c hc with hb | hb
           · exact .inl hb
           · exact .inr (bedOk_pos hb)
         · have ha1:=List.all_eq_true.1 g3 a ha
           simp only [aimOk,Bool.and_eq_true,decide_eq_true_eq] at ha1
           exact ha1.2
       · cases hc
theorem hiS_chW (f : Int → Int) (l : List Bd) : hiS (chW f l) = hiS l:=by simp [hiS,chW,Function.comp_def]
set_option maxHeartbeats 1000000
theorem refMeans_ok {r : Ru} (most : Bool) {T : List (List Int)} {k st n left : Nat} (row : List Int) (hG : VisG r T k st) (hA : AimsG r) (hH : RefH r) (hlo : lowestR r ≤ left) (hl : (left : Int) ≤ r.start)
 (hrow : ∀ y : Nat,lowestR r ≤ y → y ≤ left → row[y]? = some (rowF r most T k (valV r most T k st n) (decide (n = 0)) y)) :
 ACalls Try.prog 51 [ruV r,tabR T,ints row,i64 k,i64 st,i64 left,.bo most] (ints (meansV r most (nextV r most T k st (valV r most T k st n) (decide (n = 0)) left))):=by
 have hf : ∀ b,0 ≤ b → b ≤ 499 → 0 ≤ nextV r most T k st (valV r most T k st n) (decide (n = 0)) left b ∧ nextV r most T k st (valV r most T k st n) (decide (n = 0)) left b ≤ 1000000 :=
  fun b b0 b1=>nextV_le hG hl b0 b1 fun _ x hx=>valV_le hG hA n x hx
 have hnx : ∀ a ∈ r.aims,∀ c ∈ a.beds,ACalls Try.prog 76 [ruV r,tabR T,ints row,i64 k,i64 st,i64 left,i64 c.b,.bo most] (i64 (nextV r most T k st (valV r most T k st n) (decide (n = 0)) left c.b)) :=
  fun a ha c hc=>refNext_ok most _ _ row hG hlo hl ((hA.beds a ha).2.2 c hc).1.1 ((hA.beds a ha).2.2 c hc).1.2 (hH.beds a ha c hc) hH.out hrow
 have hch:=hA.ch hf
 have hal:=hA.len
 generalize nextV r most T k st (valV r most T k st n) (decide (n = 0)) left = f at hf hnx hch ⊢
 refine acalls_st (rs:=[ints (meansV r most f)]) [.tmp 14] Try.func51 rfl (by kernel_rfl) Try.ntmps51 rfl (by simp) rfl fun C vs=>?_
 repeat refine zq ?_
 refine zb (by kernel_rfl) fun K hK=>?_
 simp only [go_sem]
 (try simp (disch:=omega) only [zI])
 repeat first | intro _ | refine ⟨by omega,?_⟩ | refine ⟨⟨by omega,by omega⟩,?_⟩
 refine hK _ ?_
 clear hK K
 refine zw (sub_frzP 7 7 (ruC r) (by omega) rfl rfl) ?_
 refine zw (zk [1,2,3,4,5,6,7]) ?_
 simp only [go_sem]
 repeat refine zq ?_
 refine zb (by kernel_rfl) fun K hK=>?_
 simp only [go_sem]
 (try simp (disch:=omega) only [zI])
 repeat first | intro _ | refine ⟨by omega,?_⟩ | refine ⟨⟨by omega,by omega⟩,?_⟩
 refine hK _ ?_
 clear hK K
 refine zw (zk [1,2,3,4,5,6,7,15]) ?_
 simp only [go_sem]
 refine zw (sub_own 15 69 3 1 (by omega) rfl) ?_
 try simp only [go_sem]
 repeat refine zq ?_
 refine zb (by kernel_rfl) fun K hK=>?_
 simp only [go_sem]
 (try simp (disch:=omega) only [zI])
 repeat first | intro _ | refine ⟨by omega,?_⟩ | refine ⟨⟨by omega,by omega⟩,?_⟩
 refine hK _ ?_
 clear hK K
 refine zw (zk [1,2,3,4,5,6,7,15,16]) ?_
 simp only [go_sem]
 repeat refine zq ?_
 refine zd ?_
 refine awp_uptoV (n:=71) r.aims.length (fun i vs=>[(1,.r (tabR T)),(2,.r (ints row)),(3,.r (i64 k)),(4,.r (i64 st)),(5,.r (i64 left)),(6,.r (.bo most)),(7,.r (.rp (ruC r))),(15,.os 69 (vs 69) 1 0 i),(16,.r (i64 i))])
  (fun i vs=>[(69,.arr 3 1 (((meansV r most f).take i).map fun x=>[i64 x]))]) (fun _=>True) 0 (zj [] ?_ ?_) (Nat.zero_le _) trivial ?_
 · try simp only [go_sem]
 · try simp only [go_sem]
 · intro i vs hi _
   repeat refine zq ?_
   refine zb (by kernel_rfl) fun K hK=>?_
   simp only [go_sem]
   (try simp (disch:=omega) only [zI])
   repeat first | intro _ | refine ⟨by omega,?_⟩ | refine ⟨⟨by omega,by omega⟩,?_⟩
   refine hK _ ?_
   clear hK K
   refine zw (zk [1,2,3,4,5,6,7,15,16,26]) ?_
   simp only [go_sem]
   repeat refine zq ?_
   refine zc rfl (fun hc=>?_) (fun hc=>?_) <;> (try simp only [go_sem] at hc)
   · have hci : i < r.aims.length:=by omega
     obtain ⟨a,ha⟩:=opt_of_lt hci
     have haM:=mem_of_opt ha
     have hca:=hch a haM
     have hlen : (chW f a.beds).length = a.beds.length:=by simp [chW]
     have hl19:=hca.len
     rw [hlen] at hl19
     refine zx ?_
     try simp only [go_sem]
     repeat refine zq ?_
     refine zd ?_
     repeat refine zq ?_
     refine zb (by kernel_rfl) fun K hK=>?_
     simp only [go_sem,ha,hci,aimR]
     (try simp (disch:=omega) only [zI])
     repeat first | intro _ | refine ⟨by omega,?_⟩ | refine ⟨⟨by omega,by omega⟩,?_⟩
     refine hK _ ?_
     clear hK K
     refine zw (sub_frzP 17 17 [i64 a.at_,bedsR a.beds] (by omega) rfl rfl) ?_
     refine zw (zk [1,2,3,4,5,6,7,15,16,17,18]) ?_
     simp only [go_sem]
     refine zw (sub_own 18 59 3 1 (by omega) rfl) ?_
     try simp only [go_sem]
     repeat refine zq ?_
     refine zb (by kernel_rfl) fun K hK=>?_
     simp only [go_sem]
     (try simp (disch:=omega) only [zI])
     repeat first | intro _ | refine ⟨by omega,?_⟩ | refine ⟨⟨by omega,by omega⟩,?_⟩
     refine hK _ ?_
     clear hK K
     refine zw (zk [1,2,3,4,5,6,7,15,16,17,18,19]) ?_
     simp only [go_sem]
     repeat refine zq ?_
     refine zd ?_
     refine awp_uptoV (n:=71) a.beds.length (fun j vs=>[(1,.r (tabR T)),(2,.r (ints row)),(3,.r (i64 k)),(4,.r (i64 st)),(5,.r (i64 left)),(6,.r (.bo most)),(7,.r (.rp (ruC r))),(15,.os 69 (vs 69) 1 0 i),(16,.r (i64 i)),(17,.r (.rp [i64 a.at_,bedsR a.beds])),(18,.os 59 (vs 59) 1 0 j),(19,.r (i64 j))])
      (fun j vs=>[(59,.arr 3 1 (((a.beds.map fun c=>f c.b).take j).map fun x=>[i64 x])),(69,.arr 3 1 (((meansV r most f).take i).map fun x=>[i64 x]))]) (fun _=>True) 0 (zj [] ?_ ?_) (Nat.zero_le _) trivial ?_
     · try simp only [go_sem]
     · try simp only [go_sem]
     · intro j vs hj _
       repeat refine zq ?_
       refine zb (by kernel_rfl) fun K hK=>?_
       simp only [go_sem]
       (try simp (disch:=omega) only [zI])
       repeat first | intro _ | refine ⟨by omega,?_⟩ | refine ⟨⟨by omega,by omega⟩,?_⟩
       refine hK _ ?_
       clear hK K
       refine zw (zk [1,2,3,4,5,6,7,15,16,17,18,19,40]) ?_
       simp only [go_sem]
       repeat refine zq ?_
       refine zc rfl (fun hc=>?_) (fun hc=>?_) <;> (try simp only [go_sem] at hc)
       · have hcj : j < a.beds.length:=by omega
         obtain ⟨c,hc1⟩:=opt_of_lt hcj
         have hnc:=hnx a haM c (mem_of_opt hc1)
         have htk : (a.beds.map fun c=>f c.b).take (j + 1) = (a.beds.map fun c=>f c.b).take j ++ [f c.b]:=take_of_opt (by simp [hc1])
         have hlj : ((a.beds.map fun c=>f c.b).take j).length = j:=by rw [List.length_take]; simp; omega
         refine zx ?_
         try simp only [go_sem]
         repeat refine zq ?_
         refine zd ?_
         repeat refine zq ?_
         refine zg follows (by decide +kernel) (by kernel_rfl) fun K hK=>?_
         simp only [go_sem,hc1,hcj,bedR,hlj]
         (try simp (disch:=omega) only [zI])
         refine zh (hnc) rfl (by simp only [go_sem,i64,ints,hlj]) (by simp only [go_sem,i64,ints,hlj]) (by first | exact .inl rfl | exact .inr rfl) ?_
         (try simp only [go_sem,hlj])
         (try simp (disch:=omega) only [zI])
         repeat first | intro _ | refine ⟨by omega,?_⟩ | refine ⟨⟨by omega,by omega⟩,?_⟩
         refine hK _ ?_
         clear hK K
         refine zw (zk [1,2,3,4,5,6,7,15,16,17,18,19]) ?_
         simp only [go_sem]
         repeat refine zq ?_
         refine zb (by kernel_rfl) fun K hK=>?_
         simp only [go_sem]
         (try simp (disch:=omega) only [zI])
         repeat first | intro _ | refine ⟨by omega,?_⟩ | refine ⟨⟨by omega,by omega⟩,?_⟩
         refine hK _ ?_
         clear hK K
         try simp only [go_sem]
         refine ⟨by omega,zj [] ?_ ?_⟩
         · try simp only [go_sem]
         · try simp only [go_sem]
           rw [htk]
           simp
       · have hjl : j = a.beds.length:=by omega
         subst hjl
         have e1 : (a.beds.map fun c=>f c.b).take a.beds.length = a.beds.map fun c=>f c.b:=List.take_of_length_le (by simp)
         rw [e1]
         have hmn:=refMean_ok a f most r.d hca (by rw [hiS_chW]; exact hH.hi a haM)
         have htm : (meansV r most f).take (i + 1) = (meansV r most f).take i ++ [meanD most r.d (chW f a.beds)]:=take_of_opt (by simp [meansV,ha])
         have hli : ((meansV r most f).take i).length = i:=by rw [List.length_take]; simp [meansV]; omega
         refine zf ?_
         simp only [go_sem]
         refine zw (sub_frz (ty:=3) (sz:=1) (off:=0) (m:=a.beds.length) (es:=(a.beds.map fun c=>f c.b).map fun x=>[i64 x]) 18 59 (by omega) (by try simp only [go_sem]) (by try simp only [go_sem]) (by simp)) ?_
         have e2 : (((a.beds.map fun c=>f c.b).map fun x=>[i64 x]).drop 0).take a.beds.length = (a.beds.map fun c=>f c.b).map fun x=>[i64 x]:=by
          rw [List.drop_zero,List.take_of_length_le (by simp)]
         rw [e2]
         refine zw (zk [1,2,3,4,5,6,7,15,16,17,18]) ?_
         simp only [go_sem]
         repeat refine zq ?_
         refine zb (by kernel_rfl) fun K hK=>?_
         simp only [go_sem,hli]
         (try simp (disch:=omega) only [zI])
         refine zh (hmn) rfl (by simp only [go_sem,i64,ints,hli]) (by simp only [go_sem,i64,ints,hli]) (by first | exact .inl rfl | exact .inr rfl) ?_
         (try simp only [go_sem,hli])
         (try simp (disch:=omega) only [zI])
         repeat first | intro _ | refine ⟨by omega,?_⟩ | refine ⟨⟨by omega,by omega⟩,?_⟩
         refine hK _ ?_
         clear hK K
         refine zw (zk [1,2,3,4,5,6,7,15,16]) ?_
         simp only [go_sem]
         repeat refine zq ?_
         refine zb (by kernel_rfl) fun K hK=>?_
         simp only [go_sem]
         (try simp (disch:=omega) only [zI])
         repeat first | intro _ | refine ⟨by omega,?_⟩ | refine ⟨⟨by omega,by omega⟩,?_⟩
         refine hK _ ?_
         clear hK K
         try simp only [go_sem]
         refine ⟨by omega,zj [] ?_ ?_⟩
         · try simp only [go_sem]
         · try simp only [go_sem]
           rw [htm]
           simp
   · have hil : i = r.aims.length:=by omega
     have e1 : (meansV r most f).take i = meansV r most f:=List.take_of_length_le (by simp [meansV]; omega)
     rw [e1]
     have hml : (meansV r most f).length = i:=by simp [meansV,hil]
     refine zf ?_
     simp only [go_sem]
     refine zw (sub_frz (ty:=3) (sz:=1) (off:=0) (m:=i) (es:=(meansV r most f).map fun x=>[i64 x]) 15 69 (by omega) (by try simp only [go_sem]) (by try simp only [go_sem]) (by simp [hml])) ?_
     have e2 : (((meansV r most f).map fun x=>[i64 x]).drop 0).take i = (meansV r most f).map fun x=>[i64 x]:=by
      rw [List.drop_zero,List.take_of_length_le (by simp [hml])]
     rw [e2]
     refine zw (zk [15]) ?_
     simp only [go_sem]
     repeat refine zq ?_
     refine zb (by kernel_rfl) fun K hK=>?_
     simp only [go_sem]
     (try simp (disch:=omega) only [zI])
     repeat first | intro _ | refine ⟨by omega,?_⟩ | refine ⟨⟨by omega,by omega⟩,?_⟩
     refine hK _ ?_
     clear hK K
     refine zw (zk [14]) ?_
     simp only [go_sem]
     refine ze ?_
     simp only [go_sem]
end Go.Proofs.Ytlbfkhikmigpbaa

namespace Go.Proofs.Ytlbfkhikmigpbaa
open Go Go.Oc
set_option linter.unusedSimpArgs false
set_option linter.unusedVariables false
set_option maxRecDepth 8000
def rowG (g : Nat → Int) (lo : Int) (n j : Nat) : List Int:=(List.range n).map fun y : Nat=>if (y : Int) < lo then 0 else if y < j then g y else 0
theorem rowG_len (g : Nat → Int) (lo : Int) (n j : Nat) : (rowG g lo n j).length = n:=by simp [rowG]
theorem rowG_zero (g : Nat → Int) (lo : Int) (n : Nat) : rowG g lo n lo.toNat = List.replicate n 0:=by
 refine List.ext_getElem (by simp [rowG]) fun x h1 h2=>?_
 simp only [rowG,List.getElem_map,List.getElem_range,List.getElem_replicate]
 split
 · rfl
 · rw [if_neg (by omega)]
theorem rowG_set (g : Nat → Int) (lo : Int) (n j : Nat) (hj : lo ≤ j) : (rowG g lo n j).set j (g j) = rowG g lo n (j + 1):=by
 refine List.ext_getElem (by simp [rowG]) fun x h1 h2=>?_
 simp only [rowG,List.getElem_set,List.getElem_map,List.getElem_range]
 by_cases e : j = x
 · subst e
   rw [if_pos rfl,if_neg (by omega),if_pos (by omega)]
 · rw [if_neg e]
   split
   · rfl
   · by_cases e2 : x < j
     · rw [if_pos e2,if_pos (by omega)]
     · rw [if_neg e2,if_neg (by omega)]
theorem rowG_set0 (g : Nat → Int) (lo : Int) (n j : Nat) : (rowG g lo n j).set j 0 = rowG g lo n j:=by
 refine List.ext_getElem (by simp [rowG]) fun x h1 h2=>?_
 simp only [rowG,List.getElem_set,List.getElem_map,List.getElem_range]
 by_cases e : j = x
 · subst e
   rw [if_pos rfl]
   split
   · rfl
   · rw [if_neg (by omega)]
 · rw [if_neg e]
theorem rowG_get {g : Nat → Int} {lo : Int} {n j y : Nat} (hy : y < n) (hl : lo ≤ y) (hj : y < j) : (rowG g lo n j)[y]? = some (g y):=by
 unfold rowG
 rw [List.getElem?_map,List.getElem?_range hy]
 simp only [Option.map_some,Option.some.injEq]
 rw [if_neg (by omega),if_pos hj]
theorem maxL_zero {l : List Int} (h : l ≠ []) (h0 : ∀ x ∈ l,0 ≤ x) : maxL l = l.foldl max 0:=by
 cases l with
 | nil=>exact absurd rfl h
 | cons x l =>
   have:=h0 x (by simp)
   simp only [maxL,List.headD_cons,List.foldl_cons]
   congr 1
   omega
theorem fold_take {l : List Int} {i : Nat} {x : Int} (h : l[i]? = some x) : (l.take (i + 1)).foldl max 0 = max ((l.take i).foldl max 0) x:=by
 rw [List.take_add_one,h]; simp
def rowsF (r : Ru) (most : Bool) (T : List (List Int)) (k st d y : Nat) : Int:=rowF r most T k (valV r most T k st d) (decide (d = 0)) y
def rowsL (r : Ru) (most : Bool) (T : List (List Int)) (k st d : Nat) : List Int:=rowG (rowsF r most T k st d) (lowestR r) (st + 1) (st + 1)
def rowsV (r : Ru) (most : Bool) (T : List (List Int)) (k st n : Nat) : List (List RV):=(List.range n).map fun d=>[ints (rowsL r most T k st d)]
set_option maxHeartbeats 2000000
theorem refRows_ok {r : Ru} (most : Bool) {T : List (List Int)} {k st : Nat} (hG : VisG r T k st) (hA : AimsG r) (hH : RefH r) (hlo : lowestR r ≤ st) :
 ACalls Try.prog 52 [ruV r,tabR T,i64 k,i64 st,.bo most] (.sl 1 (rowsV r most T k st 4)):=by
 have h40:=hG.s40
 have hst:=hG.st40
 have hlow : lowestR r = 1 ∨ lowestR r = 2:=by unfold lowestR; split <;> simp
 have hlw:=refLowest_ok r
 have hw1 : IntKind.i64.wrap ((st : Int) + 1) = (st : Int) + 1:=by rw [zI] <;> omega
 have hst1 : ((st : Int) + 1).toNat = st + 1:=by omega
 refine acalls_st (rs:=[.sl 1 (rowsV r most T k st 4)]) [.tmp 10] Try.func52 rfl (by kernel_rfl) Try.ntmps52 rfl (by simp) rfl fun C vs=>?_
 repeat refine zq ?_
 refine zb (by kernel_rfl) fun K hK=>?_
 simp only [go_sem]
 (try simp (disch:=omega) only [zI])
 repeat first | intro _ | refine ⟨by omega,?_⟩ | refine ⟨⟨by omega,by omega⟩,?_⟩
 refine hK _ ?_
 clear hK K
 refine zw (sub_frzP 5 5 (ruC r) (by omega) rfl rfl) ?_
 refine zw (zk [1,2,3,4,5]) ?_
 simp only [go_sem]
 repeat refine zq ?_
 refine awp_long ?_
 refine sops_take 3 (by kernel_rfl) fun K hK=>?_
 simp only [go_sem,List.take_succ_cons,List.take_zero,List.drop_succ_cons,List.drop_zero,List.append_eq,List.cons_append,List.nil_append,hw1,hst1]
 (try simp (disch:=omega) only [zI])
 repeat first | intro _ | refine ⟨by omega,?_⟩ | refine ⟨⟨by omega,by omega⟩,?_⟩
 refine hK _ rfl ?_
 clear hK K
 refine sops_litB (by simp [go_sem]) ?_
 simp only [go_sem,sLitBox,lay,List.replicate_succ,List.replicate_zero,List.flatten_cons,List.flatten_nil,List.map_cons,List.map_nil,List.cons_append,List.nil_append]
 repeat first | refine ⟨by omega,?_⟩ | refine ⟨⟨by omega,by omega⟩,?_⟩
 refine sops_end (by kernel_rfl) fun K hK=>?_
 simp only [go_sem,List.drop_succ_cons,List.drop_zero,List.append_eq,List.cons_append,List.nil_append]
 (try simp (disch:=omega) only [zI])
 repeat first | intro _ | refine ⟨by omega,?_⟩ | refine ⟨⟨by omega,by omega⟩,?_⟩
 refine hK _ ?_
 clear hK K
 refine zw (zk [1,2,3,4,5,11]) ?_
 simp only [go_sem]
 repeat refine zq ?_
 refine zb (by kernel_rfl) fun K hK=>?_
 simp only [go_sem]
 (try simp (disch:=omega) only [zI])
 refine zh (hlw) rfl (by simp only [go_sem,i64,ints]) (by simp only [go_sem,i64,ints]) (by first | exact .inl rfl | exact .inr rfl) ?_
 (try simp only [go_sem])
 (try simp (disch:=omega) only [zI])
 repeat first | intro _ | refine ⟨by omega,?_⟩ | refine ⟨⟨by omega,by omega⟩,?_⟩
 refine hK _ ?_
 clear hK K
 refine zw (zk [1,2,3,4,5,11,12]) ?_
 simp only [go_sem]
 repeat refine zq ?_
 refine zd ?_
 refine awp_uptoV (n:=89) (st + 1) (fun j vs=>[(1,.r (tabR T)),(2,.r (i64 k)),(3,.r (i64 st)),(4,.r (.bo most)),(5,.r (.rp (ruC r))),(11,.os 21 (vs 21) 1 0 1),(12,.r (i64 (j : Int)))])
  (fun j vs=>[(20,.arr 3 1 ((rowG (rowsF r most T k st 0) (lowestR r) (st + 1) j).map fun x=>[i64 x])),(21,.ara 46 1 [.os 20 (vs 20) 1 0 (st + 1)])]) (fun j=>lowestR r ≤ j) (lowestR r).toNat (zj [] ?_ ?_) (by omega) (by omega) ?_
 · try simp only [go_sem]
   omega
 · try simp only [go_sem]
   rw [rowG_zero]
   simp only [List.map_replicate,List.replicate_succ,List.map_cons]
 · intro j vs hj hjl
   have hrl:=rowG_len (rowsF r most T k st 0) (lowestR r) (st + 1) j
   repeat refine zq ?_
   refine zb (by kernel_rfl) fun K hK=>?_
   simp only [go_sem]
   (try simp (disch:=omega) only [zI])
   repeat first | intro _ | refine ⟨by omega,?_⟩ | refine ⟨⟨by omega,by omega⟩,?_⟩
   refine hK _ ?_
   clear hK K
   refine zw (zk [1,2,3,4,5,11,12,26]) ?_
   simp only [go_sem]
   repeat refine zq ?_
   refine zc rfl (fun hc=>?_) (fun hc=>?_) <;> (try simp only [go_sem] at hc)
   · have hcj : j < st + 1:=by omega
     have haf:=hG.refAfter most (left:=j) (by omega)
     obtain ⟨w0,hw0⟩:=opt_of_lt (show j < (rowG (rowsF r most T k st 0) (lowestR r) (st + 1) j).length by rw [hrl]; omega)
     refine zx ?_
     try simp only [go_sem]
     repeat refine zq ?_
     refine zd ?_
     repeat refine zq ?_
     refine zg follows (by decide +kernel) (by kernel_rfl) fun K hK=>?_
     simp only [go_sem,hrl,hw0]
     (try simp (disch:=omega) only [zI])
     refine zh (haf) rfl (by simp only [go_sem,i64,ints]) (by simp only [go_sem,i64,ints]) (by first | exact .inl rfl | exact .inr rfl) ?_
     (try simp only [go_sem])
     (try simp (disch:=omega) only [zI])
     repeat first | intro _ | refine ⟨by omega,?_⟩ | refine ⟨⟨by omega,by omega⟩,?_⟩
     refine hK _ ?_
     clear hK K
     refine zw (zk [1,2,3,4,5,11,12]) ?_
     simp only [go_sem]
     repeat refine zq ?_
     refine zb (by kernel_rfl) fun K hK=>?_
     simp only [go_sem]
     (try simp (disch:=omega) only [zI])
     repeat first | intro _ | refine ⟨by omega,?_⟩ | refine ⟨⟨by omega,by omega⟩,?_⟩
     refine hK _ ?_
     clear hK K
     try simp only [go_sem]
     refine ⟨by omega,by omega,zj [] ?_ ?_⟩
     · try simp only [go_sem]
     · simp only [go_sem,hw0]
       have hg : afterD r most T k j = rowsF r most T k st 0 j:=rfl
       rw [hg,← rowG_set _ _ _ j hjl,List.map_set]
   · have hje : j = st + 1:=by omega
     subst hje
     refine zf ?_
     simp only [go_sem]
     refine zw (sub_frzBA 21 0 20 (es:=(rowG (rowsF r most T k st 0) (lowestR r) (st + 1) (st + 1)).map fun x=>[i64 x]) (by omega) (by omega) rfl rfl rfl (by simp [hrl])) ?_
     have e0 : (((rowG (rowsF r most T k st 0) (lowestR r) (st + 1) (st + 1)).map fun x=>[i64 x]).drop 0).take (st + 1) = (rowsL r most T k st 0).map fun x=>[i64 x]:=by
      rw [List.drop_zero,List.take_of_length_le (by simp [hrl])]; rfl
     rw [e0]
     try simp only [go_sem]
     refine zw (sub_arr 21 (rowsV r most T k st 1) rfl (by rfl) (by simp [rowsV]) (by omega)) ?_
     refine zw (zk [1,2,3,4,5,11]) ?_
     simp only [go_sem]
     repeat refine zq ?_
     refine zb (by kernel_rfl) fun K hK=>?_
     simp only [go_sem]
     (try simp (disch:=omega) only [zI])
     repeat first | intro _ | refine ⟨by omega,?_⟩ | refine ⟨⟨by omega,by omega⟩,?_⟩
     refine hK _ ?_
     clear hK K
     refine zw (zk [1,2,3,4,5,11,13]) ?_
     simp only [go_sem]
     repeat refine zq ?_
     refine zd ?_
     refine awp_uptoV (n:=89) 4 (fun d vs=>[(1,.r (tabR T)),(2,.r (i64 k)),(3,.r (i64 st)),(4,.r (.bo most)),(5,.r (.rp (ruC r))),(11,.os 21 (vs 21) 1 0 d),(13,.r (i64 (d : Int)))])
      (fun d vs=>[(21,.arr 46 1 (rowsV r most T k st d))]) (fun d=>1 ≤ d) 1 (zj [] ?_ ?_) (by omega) (by omega) ?_
     · try simp only [go_sem]
     · try simp only [go_sem]
     · intro d vs hd hd1
       repeat refine zq ?_
       refine zb (by kernel_rfl) fun K hK=>?_
       simp only [go_sem]
       (try simp (disch:=omega) only [zI])
       repeat first | intro _ | refine ⟨by omega,?_⟩ | refine ⟨⟨by omega,by omega⟩,?_⟩
       refine hK _ ?_
       clear hK K
       refine zw (zk [1,2,3,4,5,11,13,41]) ?_
       simp only [go_sem]
       repeat refine zq ?_
       refine zc rfl (fun hc=>?_) (fun hc=>?_) <;> (try simp only [go_sem] at hc)
       · have hd4 : d < 4:=by omega
         obtain ⟨e,rfl⟩ : ∃ e,d = e + 1:=⟨d - 1,by omega⟩
         refine zx ?_
         try simp only [go_sem]
         repeat refine zq ?_
         refine zd ?_
         repeat refine zq ?_
         refine zb (by kernel_rfl) fun K hK=>?_
         simp only [go_sem,hw1,hst1]
         (try simp (disch:=omega) only [zI])
         repeat first | intro _ | refine ⟨by omega,?_⟩ | refine ⟨⟨by omega,by omega⟩,?_⟩
         refine hK _ ?_
         clear hK K
         refine zw (zk [1,2,3,4,5,11,13,14]) ?_
         simp only [go_sem]
         repeat refine zq ?_
         refine zb (by kernel_rfl) fun K hK=>?_
         simp only [go_sem]
         (try simp (disch:=omega) only [zI])
         refine zh (hlw) rfl (by simp only [go_sem,i64,ints]) (by simp only [go_sem,i64,ints]) (by first | exact .inl rfl | exact .inr rfl) ?_
         (try simp only [go_sem])
         (try simp (disch:=omega) only [zI])
         repeat first | intro _ | refine ⟨by omega,?_⟩ | refine ⟨⟨by omega,by omega⟩,?_⟩
         refine hK _ ?_
         clear hK K
         refine zw (zk [1,2,3,4,5,11,13,14,15]) ?_
         simp only [go_sem]
         repeat refine zq ?_
         refine zd ?_
         refine awp_uptoV (n:=89) (st + 1) (fun j vs=>[(1,.r (tabR T)),(2,.r (i64 k)),(3,.r (i64 st)),(4,.r (.bo most)),(5,.r (.rp (ruC r))),(11,.os 21 (vs 21) 1 0 (e + 1)),(13,.r (i64 ((e : Int) + 1))),(14,.os 46 (vs 46) 1 0 (st + 1)),(15,.r (i64 (j : Int)))])
          (fun j vs=>[(21,.arr 46 1 (rowsV r most T k st (e + 1))),(46,.arr 3 1 ((rowG (rowsF r most T k st (e + 1)) (lowestR r) (st + 1) j).map fun x=>[i64 x]))]) (fun j=>lowestR r ≤ j) (lowestR r).toNat (zj [] ?_ ?_) (by omega) (by omega) ?_
         · try simp only [go_sem]
           omega
         · try simp only [go_sem]
           rw [rowG_zero]
           simp only [List.map_replicate,List.replicate_succ,List.map_cons]
         · intro j vs hj hjl
           have hrl:=rowG_len (rowsF r most T k st (e + 1)) (lowestR r) (st + 1) j
           repeat refine zq ?_
           refine zb (by kernel_rfl) fun K hK=>?_
           simp only [go_sem]
           (try simp (disch:=omega) only [zI])
           repeat first | intro _ | refine ⟨by omega,?_⟩ | refine ⟨⟨by omega,by omega⟩,?_⟩
           refine hK _ ?_
           clear hK K
           refine zw (zk [1,2,3,4,5,11,13,14,15,51]) ?_
           simp only [go_sem]
           repeat refine zq ?_
           refine zc rfl (fun hc=>?_) (fun hc=>?_) <;> (try simp only [go_sem] at hc)
           · have hcj : j < st + 1:=by omega
             have hms:=refMeans_ok (n:=e) most (rowsL r most T k st e) hG hA hH hjl (by omega) (fun y h1 h2=>rowG_get (by omega) h1 (by omega))
             have hval : maxL (meansV r most (nextV r most T k st (valV r most T k st e) (decide (e = 0)) j)) = rowsF r most T k st (e + 1) j:=rfl
             have hne : meansV r most (nextV r most T k st (valV r most T k st e) (decide (e = 0)) j) ≠ []:=by simpa [meansV] using hA.ne
             have hnn : ∀ x ∈ meansV r most (nextV r most T k st (valV r most T k st e) (decide (e = 0)) j),0 ≤ x:=fun x hx=>by
              obtain ⟨a,ha,rfl⟩:=List.mem_map.1 hx
              exact (meanD_le (hA.ch (fun b b0 b1=>nextV_le hG (by omega) b0 b1 fun _ x hx=>valV_le hG hA e x hx) a ha)).1
             have hll : (meansV r most (nextV r most T k st (valV r most T k st e) (decide (e = 0)) j)).length ≤ 1000:=by simpa [meansV] using hA.len
             rw [maxL_zero hne hnn] at hval
             have hre : (rowsV r most T k st (e + 1)).getD e [] = [ints (rowsL r most T k st e)]:=by simp [rowsV]
             have hrn : (rowsV r most T k st (e + 1)).length = e + 1:=by simp [rowsV]
             have hew : IntKind.i64.wrap ((e : Int) + 1 - 1) = (e : Int):=by rw [zI] <;> omega
             generalize meansV r most (nextV r most T k st (valV r most T k st e) (decide (e = 0)) j) = ml at hms hval hne hnn hll
             refine zx ?_
             try simp only [go_sem]
             repeat refine zq ?_
             refine zd ?_
             repeat refine zq ?_
             refine zg follows (by decide +kernel) (by kernel_rfl) fun K hK=>?_
             simp only [go_sem,hre,hrn,hew]
             (try simp (disch:=omega) only [zI])
             repeat first | intro _ | refine ⟨by omega,?_⟩ | refine ⟨⟨by omega,by omega⟩,?_⟩
             refine zh (hms) rfl (by simp only [go_sem,i64,ints,hre]) (by simp only [go_sem,i64,ints,hre]) (by first | exact .inl rfl | exact .inr rfl) ?_
             (try simp only [go_sem,hre])
             (try simp (disch:=omega) only [zI])
             repeat first | intro _ | refine ⟨by omega,?_⟩ | refine ⟨⟨by omega,by omega⟩,?_⟩
             refine hK _ ?_
             clear hK K
             refine zw (zk [1,2,3,4,5,11,13,14,15,16]) ?_
             simp only [go_sem]
             repeat refine zq ?_
             refine zb (by kernel_rfl) fun K hK=>?_
             simp only [go_sem]
             (try simp (disch:=omega) only [zI])
             repeat first | intro _ | refine ⟨by omega,?_⟩ | refine ⟨⟨by omega,by omega⟩,?_⟩
             refine hK _ ?_
             clear hK K
             refine zw (zk [1,2,3,4,5,11,13,14,15,16,17]) ?_
             simp only [go_sem]
             repeat refine zq ?_
             refine zd ?_
             have hrs : ∀ x : Int,((rowG (rowsF r most T k st (e + 1)) (lowestR r) (st + 1) j).set j x)[j]? = some x:=fun x=>List.getElem?_set_self (by rw [hrl]; omega)
             have hsl : ∀ x : Int,((rowG (rowsF r most T k st (e + 1)) (lowestR r) (st + 1) j).set j x).length = st + 1:=fun x=>by rw [List.length_set,hrl]
             refine awp_uptoV (n:=89) ml.length (fun i vs=>[(1,.r (tabR T)),(2,.r (i64 k)),(3,.r (i64 st)),(4,.r (.bo most)),(5,.r (.rp (ruC r))),(11,.os 21 (vs 21) 1 0 (e + 1)),(13,.r (i64 ((e : Int) + 1))),(14,.os 46 (vs 46) 1 0 (st + 1)),(15,.r (i64 (j : Int))),(16,.r (ints ml)),(17,.r (i64 (i : Int)))])
              (fun i vs=>[(21,.arr 46 1 (rowsV r most T k st (e + 1))),(46,.arr 3 1 (((rowG (rowsF r most T k st (e + 1)) (lowestR r) (st + 1) j).set j ((ml.take i).foldl max 0)).map fun x=>[i64 x]))]) (fun _=>True) 0 (zj [] ?_ ?_) (by omega) trivial ?_
             · try simp only [go_sem]
             · try simp only [go_sem]
               rw [List.foldl_nil,rowG_set0]
             · intro i vs hi _
               repeat refine zq ?_
               refine zb (by kernel_rfl) fun K hK=>?_
               simp only [go_sem]
               (try simp (disch:=omega) only [zI])
               repeat first | intro _ | refine ⟨by omega,?_⟩ | refine ⟨⟨by omega,by omega⟩,?_⟩
               refine hK _ ?_
               clear hK K
               refine zw (zk [1,2,3,4,5,11,13,14,15,16,17,69]) ?_
               simp only [go_sem]
               repeat refine zq ?_
               refine zc rfl (fun hc=>?_) (fun hc=>?_) <;> (try simp only [go_sem] at hc)
               · have hci : i < ml.length:=by omega
                 obtain ⟨x,hx⟩:=opt_of_lt hci
                 have hft:=fold_take hx
                 have hr1:=hrs ((ml.take i).foldl max 0)
                 have hr2:=hsl ((ml.take i).foldl max 0)
                 generalize (ml.take i).foldl max 0 = mx at hft hr1 hr2 ⊢
                 refine zx ?_
                 try simp only [go_sem]
                 repeat refine zq ?_
                 refine zd ?_
                 repeat refine zq ?_
                 refine zg follows (by decide +kernel) (by kernel_rfl) fun K hK=>?_
                 simp only [go_sem,hx,hci,hr1,hr2]
                 (try simp (disch:=omega) only [zI])
                 repeat first | intro _ | refine ⟨by omega,?_⟩ | refine ⟨⟨by omega,by omega⟩,?_⟩
                 refine hK _ ?_
                 clear hK K
                 refine zw (zk [1,2,3,4,5,11,13,14,15,16,17]) ?_
                 simp only [go_sem]
                 repeat refine zq ?_
                 refine zb (by kernel_rfl) fun K hK=>?_
                 simp only [go_sem]
                 (try simp (disch:=omega) only [zI])
                 repeat first | intro _ | refine ⟨by omega,?_⟩ | refine ⟨⟨by omega,by omega⟩,?_⟩
                 refine hK _ ?_
                 clear hK K
                 try simp only [go_sem]
                 refine ⟨by omega,zj [] ?_ ?_⟩
                 · try simp only [go_sem]
                 · simp only [go_sem,hr1]
                   rw [hft]
                   simp only [List.map_set,List.set_set,List.drop_succ_cons,List.drop_zero]
                   done
               · have hil : i = ml.length:=by omega
                 rw [hil,List.take_length,hval,rowG_set _ _ _ _ hjl]
                 refine zf ?_
                 simp only [go_sem]
                 refine zw (zk [1,2,3,4,5,11,13,14,15]) ?_
                 simp only [go_sem]
                 repeat refine zq ?_
                 refine zb (by kernel_rfl) fun K hK=>?_
                 simp only [go_sem]
                 (try simp (disch:=omega) only [zI])
                 repeat first | intro _ | refine ⟨by omega,?_⟩ | refine ⟨⟨by omega,by omega⟩,?_⟩
                 refine hK _ ?_
                 clear hK K
                 try simp only [go_sem]
                 refine ⟨by omega,by omega,zj [] ?_ ?_⟩
                 · try simp only [go_sem]
                 · try simp only [go_sem]
           · have hje : j = st + 1:=by omega
             subst hje
             refine zf ?_
             simp only [go_sem]
             refine zw (sub_frz (ty:=3) (sz:=1) (off:=0) (m:=st + 1) (es:=(rowG (rowsF r most T k st (e + 1)) (lowestR r) (st + 1) (st + 1)).map fun x=>[i64 x]) 14 46 (by omega) (by try simp only [go_sem]) (by try simp only [go_sem]) (by simp [hrl])) ?_
             have e2 : (((rowG (rowsF r most T k st (e + 1)) (lowestR r) (st + 1) (st + 1)).map fun x=>[i64 x]).drop 0).take (st + 1) = (rowsL r most T k st (e + 1)).map fun x=>[i64 x]:=by
              rw [List.drop_zero,List.take_of_length_le (by simp [hrl])]; rfl
             rw [e2]
             have hrn : (rowsV r most T k st (e + 1)).length = e + 1:=by simp [rowsV]
             have hrs : rowsV r most T k st (e + 1 + 1) = rowsV r most T k st (e + 1) ++ [[ints (rowsL r most T k st (e + 1))]]:=by
              simp only [rowsV,List.range_succ (n:=e + 1),List.map_append,List.map_cons,List.map_nil]
             refine zw (zk [1,2,3,4,5,11,13,14]) ?_
             simp only [go_sem]
             repeat refine zq ?_
             refine zb (by kernel_rfl) fun K hK=>?_
             simp only [go_sem,hrn]
             (try simp (disch:=omega) only [zI])
             repeat first | intro _ | refine ⟨by omega,?_⟩ | refine ⟨⟨by omega,by omega⟩,?_⟩
             refine hK _ ?_
             clear hK K
             refine zw (zk [1,2,3,4,5,11,13]) ?_
             simp only [go_sem]
             repeat refine zq ?_
             refine zb (by kernel_rfl) fun K hK=>?_
             simp only [go_sem]
             (try simp (disch:=omega) only [zI])
             repeat first | intro _ | refine ⟨by omega,?_⟩ | refine ⟨⟨by omega,by omega⟩,?_⟩
             refine hK _ ?_
             clear hK K
             try simp only [go_sem]
             refine ⟨by omega,zj [] ?_ ?_⟩
             · try simp only [go_sem]
             · try simp only [go_sem]
               rw [hrs]
       · have hd4 : d = 4:=by omega
         subst hd4
         refine zf ?_
         simp only [go_sem]
         refine zw (sub_frz (ty:=46) (sz:=1) (off:=0) (m:=4) (es:=rowsV r most T k st 4) 11 21 (by omega) (by try simp only [go_sem]) (by try simp only [go_sem]) (by simp [rowsV])) ?_
         have e2 : ((rowsV r most T k st 4).drop 0).take 4 = rowsV r most T k st 4:=by
          rw [List.drop_zero,List.take_of_length_le (by simp [rowsV])]
         rw [e2]
         refine zw (zk [11]) ?_
         simp only [go_sem]
         repeat refine zq ?_
         refine zb (by kernel_rfl) fun K hK=>?_
         simp only [go_sem]
         (try simp (disch:=omega) only [zI])
         repeat first | intro _ | refine ⟨by omega,?_⟩ | refine ⟨⟨by omega,by omega⟩,?_⟩
         refine hK _ ?_
         clear hK K
         refine zw (zk [10]) ?_
         simp only [go_sem]
         refine ze ?_
         simp only [go_sem]
end Go.Proofs.Ytlbfkhikmigpbaa
