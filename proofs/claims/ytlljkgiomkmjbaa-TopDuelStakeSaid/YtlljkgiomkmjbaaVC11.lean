/- Part 11 of the texts of this claim. -/
import Derived.Test.YtlljkgiomkmjbaaVC10
import Derived.Test.YtlljkgiomkmjbaaVC8
import Derived.Test.YtlljkgiomkmjbaaVC6
namespace Go.Proofs.Ytlljkgiomkmjbaa.Du.Th
open Go Go.Oc
set_option linter.unusedSimpArgs false
set_option linter.unusedVariables false
set_option maxRecDepth 8000
abbrev Pv:=Int × Int
def fillP : List Pv → Int × Int → Int × Int
 | [],x=>x
 | c :: cs,x=>fillP cs (x.1 - min x.1 c.1,x.2 + min x.1 c.1 * c.2)
def dotP : List Pv → List Int → Int
 | c :: S,y :: ys=>y * c.2 + dotP S ys
 | _,_=>0
inductive FeasP : List Pv → List Int → Prop where
 | nil : FeasP [] []
 | cons {c : Pv} {S : List Pv} {y : Int} {ys : List Int} (h : 0 ≤ y ∧ y ≤ c.1) (t : FeasP S ys) : FeasP (c :: S) (y :: ys)
theorem feas_sum {S : List Pv} {ys : List Int} (h : FeasP S ys) : 0 ≤ ys.sum:=by
 induction h with
 | nil=>simp
 | cons h t ih=>simp only [List.sum_cons]; omega
theorem feas_less {v : Int} {S : List Pv} {ys : List Int} (h : FeasP S ys) : ∀ δ : Int,0 ≤ δ → δ ≤ ys.sum → (∀ c ∈ S,v ≤ c.2) → ∃ zs,FeasP S zs ∧ zs.sum = ys.sum - δ ∧ dotP S zs + δ * v ≤ dotP S ys:=by
 induction h with
 | nil =>
   intro δ h0 h1 _
   simp only [List.sum_nil] at h1
   have : δ = 0:=by omega
   subst this
   exact ⟨[],.nil,by simp,by simp [dotP]⟩
 | @cons c S y ys h t ih =>
   intro δ h0 h1 hv
   simp only [List.sum_cons] at h1
   have hs:=feas_sum t
   obtain ⟨zs,g1,g2,g3⟩:=ih (δ - min δ y) (by omega) (by omega) fun x hx=>hv x (by simp [hx])
   have hc:=hv c (by simp)
   have e0 : 0 ≤ min δ y:=by omega
   have p:=Int.mul_nonneg e0 (show 0 ≤ c.2 - v by omega)
   refine ⟨(y - min δ y) :: zs,.cons ⟨by omega,by omega⟩ g1,by simp only [List.sum_cons]; omega,?_⟩
   simp only [dotP]
   generalize min δ y = e at *
   rw [Int.mul_sub] at p
   rw [Int.sub_mul] at g3
   rw [Int.sub_mul]
   omega
theorem fill_min : ∀ {S : List Pv} {ys : List Int},FeasP S ys → ∀ (left s : Int),S.Pairwise (fun a b=>a.2 ≤ b.2) → ys.sum = left → (fillP S (left,s)).2 ≤ s + dotP S ys
 | [],_,h,left,s,_,_=>by cases h; simp [fillP,dotP]
 | c :: S, _, h, left, s, hp, hsum => by
   cases h with
   | @cons _ _ y ys h t =>
     obtain ⟨hp1,hp2⟩:=List.pairwise_cons.1 hp
     simp only [List.sum_cons] at hsum
     have hs:=feas_sum t
     obtain ⟨zs,g1,g2,g3⟩:=feas_less t (min left c.1 - y) (by omega) (by omega) hp1
     have:=fill_min g1 (left - min left c.1) (s + min left c.1 * c.2) hp2 (by omega)
     simp only [fillP,dotP]
     rw [Int.sub_mul] at g3
     omega
def negP (S : List Pv) : List Pv:=S.map fun c=>(c.1,-c.2)
theorem fill_neg : ∀ (S : List Pv) (x y : Int),(fillP (negP S) (x,-y)).2 = -(fillP S (x,y)).2
 | [],_,_=>rfl
 | c :: S, x, y => by
   have:=fill_neg S (x - min x c.1) (y + min x c.1 * c.2)
   simp only [negP,List.map_cons,fillP] at this ⊢
   rw [← this]
   congr 3
   rw [Int.mul_neg]; omega
theorem dot_neg : ∀ (S : List Pv) (ys : List Int),dotP (negP S) ys = -dotP S ys
 | [],_=>by simp [negP,dotP]
 | _ :: _,[]=>by simp [negP,dotP]
 | c :: S, y :: ys => by
   have:=dot_neg S ys
   simp only [negP,List.map_cons,dotP] at this ⊢
   rw [this,Int.mul_neg]; omega
theorem feas_neg : ∀ {S : List Pv} {ys : List Int},FeasP S ys → FeasP (negP S) ys
 | _,_,.nil=>.nil
 | _,_,.cons h t=>.cons h (feas_neg t)
theorem fill_max {S : List Pv} {ys : List Int} (h : FeasP S ys) (left s : Int) (hp : S.Pairwise (fun a b=>b.2 ≤ a.2)) (hs : ys.sum = left) : s + dotP S ys ≤ (fillP S (left,s)).2:=by
 have:=fill_min (feas_neg h) left (-s) (by unfold negP; exact List.Pairwise.map _ (fun a b h=>by simp only; omega) hp) hs
 rw [fill_neg,dot_neg] at this
 omega
theorem insB_perm (lt : Nat → Nat → Bool) (x : Nat) : ∀ R,(insB lt x R).Perm (x :: R)
 | []=>.refl _
 | y :: R => by
   unfold insB
   split
   · exact ((insB_perm lt x R).cons y).trans (.swap x y R)
   · exact .refl _
theorem sortB_perm (lt : Nat → Nat → Bool) : ∀ l R,(sortB lt l R).Perm (l ++ R)
 | [],R=>.refl _
 | x :: l, R => by
   simp only [sortB]
   refine (sortB_perm lt l _).trans ?_
   refine ((insB_perm lt x R).append_left l).trans ?_
   exact List.perm_middle
theorem sortN_perm (lt : Nat → Nat → Bool) (l : List Nat) : (sortN lt l).Perm l:=by
 unfold sortN
 refine (List.reverse_perm _).trans ?_
 have:=sortB_perm lt l []
 rwa [List.append_nil] at this
theorem insB_pw {K : Nat → Int} {lt : Nat → Nat → Bool} (hlt : ∀ x y,lt x y = decide (K x < K y)) {x : Nat} : ∀ {R : List Nat},R.Pairwise (fun y z=>K z ≤ K y) → (insB lt x R).Pairwise (fun y z=>K z ≤ K y)
 | [],_=>by simp [insB]
 | y :: R, h => by
   obtain ⟨h1,h2⟩:=List.pairwise_cons.1 h
   unfold insB
   split
   · rename_i hc
     rw [hlt,decide_eq_true_eq] at hc
     refine List.pairwise_cons.2 ⟨fun z hz=>?_,insB_pw hlt h2⟩
     rcases (mem_insB lt x z R).1 hz with rfl | hz
     · omega
     · exact h1 z hz
   · rename_i hc
     rw [hlt,decide_eq_true_eq] at hc
     refine List.pairwise_cons.2 ⟨fun z hz=>?_,h⟩
     rcases List.mem_cons.1 hz with rfl | hz
     · omega
     · have:=h1 z hz; omega
theorem sortB_pw {K : Nat → Int} {lt : Nat → Nat → Bool} (hlt : ∀ x y,lt x y = decide (K x < K y)) : ∀ {l R : List Nat},R.Pairwise (fun y z=>K z ≤ K y) → (sortB lt l R).Pairwise (fun y z=>K z ≤ K y)
 | [],_,h=>h
 | x :: l,R,h=>by simp only [sortB]; exact sortB_pw hlt (insB_pw hlt h)
theorem sortN_pw {K : Nat → Int} {lt : Nat → Nat → Bool} (hlt : ∀ x y,lt x y = decide (K x < K y)) (l : List Nat) : (sortN lt l).Pairwise (fun y z=>K y ≤ K z):=by
 unfold sortN
 rw [List.pairwise_reverse]
 exact sortB_pw hlt (by simp)
structure TruthN (den : Int) (l : List Bd) (y : List Int) : Prop where
 len : y.length = l.length
 each : ∀ i,i < l.length → (bAt l i).lo ≤ y.getD i 0 ∧ y.getD i 0 ≤ (bAt l i).hi
 sum : y.sum = den
def aimAt (l : List Am) (i : Int) : Am:=(l[i.toNat]?).getD ⟨0,[]⟩
def pickE (d : Int) (l : List Am) (i : Int) (vals : List Int) : Int :=
 if checkV d l ≠ 0 then checkV d l
 else if ¬ (0 ≤ i ∧ i < l.length) then 7
 else if vals.length ≠ (aimAt l i).beds.length then 4
 else if withinL (-1000000000000) 1000000000000 vals = false then 2 else 0
def meanV (d : Int) (l : List Am) (i : Int) (vals : List Int) : Int × Int:=if pickE d l i vals = 0 then (meanLo d (aimAt l i).beds vals,meanHi d (aimAt l i).beds vals) else (0,0)
def truthV (d : Int) (l : List Am) (i : Int) (vals : List Int) (g : Bool) : List Int:=if pickE d l i vals = 0 then filledV (if g then fun x y=>cmpI y x else cmpI) d (aimAt l i).beds vals else []
structure FixI (D : Int) (l X : List Bd) : Prop where
 map : X.map (fun c=>(c.b,c.lo)) = l.map fun c=>(c.b,c.lo)
 each : ∀ c ∈ X,0 ≤ c.lo ∧ c.lo ≤ c.hi ∧ c.hi ≤ D
theorem FixI.len {D : Int} {l X : List Bd} (h : FixI D l X) : X.length = l.length:=by
 have:=congrArg List.length h.map
 simpa using this
theorem FixI.cap {D : Int} {l : List Bd} (h0 : ∀ c ∈ l,0 ≤ c.lo ∧ c.lo ≤ c.hi ∧ c.lo ≤ D) : FixI D l (capB D l):=by
 refine ⟨by simp [capB,Function.comp_def],fun c hc=>?_⟩
 obtain ⟨d,hd,rfl⟩:=List.mem_map.1 hc
 have:=h0 d hd
 simp only; omega
theorem FixI.raise {D : Int} {l X : List Bd} (h : FixI D l X) (k : Nat) (hk : k < X.length) : FixI D l (raiseB D X k):=by
 unfold raiseB
 split
 · rename_i hh
   have hg : X[k]? = some (X.getD k ⟨0,0,0⟩):=by rw [List.getD_eq_getElem?_getD,List.getElem?_eq_getElem hk]; rfl
   have hc:=h.each _ (List.mem_of_getElem? hg)
   refine ⟨?_,fun c hc'=>?_⟩
   · rw [← h.map,List.map_set]
     refine List.ext_getElem? fun j=>?_
     rw [List.getElem?_set]
     split
     · rename_i e; subst e
       rw [List.getElem?_map,hg]
       simp [hk]
     · rfl
   · rcases List.mem_or_eq_of_mem_set hc' with hx | hx
     · exact h.each c hx
     · subst hx
       simp only; omega
 · exact h
theorem seqOk_map : ∀ {l l' : List Bd} {p : Option Int},l'.map (·.b) = l.map (·.b) → seqOk p l' = seqOk p l
 | [],[],_,_=>rfl
 | [],c :: l',_,h=>by simp at h
 | c :: l,[],_,h=>by simp at h
 | c :: l, c' :: l', p, h => by
   simp only [List.map_cons,List.cons.injEq] at h
   unfold seqOk
   rw [h.1,seqOk_map h.2]
theorem FixI.b {D : Int} {l X : List Bd} (h : FixI D l X) : X.map (·.b) = l.map (·.b) ∧ loS X = loS l:=by
 have h1:=congrArg (List.map Prod.fst) h.map
 have h2:=congrArg (fun z=>(List.map Prod.snd z).sum) h.map
 simp only [List.map_map] at h1 h2
 exact ⟨h1,h2⟩
structure MadeI (D : Int) (a : Am) : Prop where
 ok : aimOk D a = true
 wf : WfA a
 len : 1 ≤ a.beds.length ∧ a.beds.length ≤ 10
def oneV (n k : Nat) : List Int:=(List.replicate n 0).set k 1
end Go.Proofs.Ytlljkgiomkmjbaa.Du.Th

namespace Go.Proofs.Ytlljkgiomkmjbaa.Du
open Go Go.Oc
set_option linter.unusedSimpArgs false
set_option linter.unusedVariables false
set_option maxRecDepth 8000
def topF (f : Sp → Int) (l : List Sp) : Int:=l.foldl (fun a x=>max a (f x)) (-1)
set_option maxHeartbeats 4000000
theorem span_mk (a b : Int) : ACalls Try.prog 10 [i64 a,i64 b] (.ag [i64 a,i64 b]):=by
 refine acalls_st (rs:=[.ag [i64 a,i64 b]]) [.cell 4 30] Try.func10 rfl (by kernel_rfl) Try.ntmps10 rfl (by simp) rfl fun C vs=>?_
 repeat refine zq ?_
 refine zb fun K hK=>?_;simp only [go_sem];(try simp (disch:=omega) only [zI]);repeat first | intro _ | refine ⟨by omega,?_⟩
 refine hK _ ?_;clear hK K;refine zw (zk [0,1,4]) ?_;simp only [go_sem]
 repeat refine zq ?_
 refine zb fun K hK=>?_;simp only [go_sem];(try simp (disch:=omega) only [zI]);repeat first | intro _ | refine ⟨by omega,?_⟩
 refine hK _ ?_;clear hK K;refine zw (zk [4]) ?_;simp only [go_sem];refine ze ?_;simp only [go_sem]
theorem pos_at {b : Int} : ∀ {L : List Bd} {j : Nat},j < posN b L → ∃ x,L[j]? = some x ∧ x.b ≤ b
 | [],j,h=>by simp [posN] at h
 | x :: L, j, h => by
   unfold posN at h
   by_cases c : x.b ≤ b
   · rw [if_pos c] at h
     cases j with
     | zero=>exact ⟨x,rfl,c⟩
     | succ j =>
       obtain ⟨y,hy,hyb⟩:=pos_at (b:=b) (L:=L) (j:=j) (by omega)
       exact ⟨y,by simpa using hy,hyb⟩
   · rw [if_neg c] at h; omega
theorem pos_end {b : Int} : ∀ {L : List Bd},posN b L = L.length ∨ ∃ x,L[posN b L]? = some x ∧ b < x.b
 | []=>.inl rfl
 | x :: L => by
   unfold posN
   by_cases c : x.b ≤ b
   · rw [if_pos c]
     rcases pos_end (b:=b) (L:=L) with h | ⟨y,hy,hyb⟩
     · left; simp [h]
     · right; exact ⟨y,by simpa using hy,hyb⟩
   · rw [if_neg c]
     right; exact ⟨x,rfl,by omega⟩
theorem pos_le {b : Int} : ∀ {L : List Bd},posN b L ≤ L.length
 | []=>Nat.le_refl _
 | x :: L=>by unfold posN; split <;> simp; exact pos_le
theorem seen_step {b : Int} {L : List Bd} {j : Nat} {x : Bd} (h : L[j]? = some x) : seenB b L (j + 1) = (seenB b L j || x.b == b):=by
 unfold seenB; rw [take_of_opt h]; simp
def aimJ (d : Int) (A : List (List Nat)) (j : Nat) : Am:=if A.length = 0 then ⟨201,headD d []⟩ else scA d (A.getD j [])
def aimsJ (d : Int) (A : List (List Nat)) (i : Nat) : List Am:=(List.range i).map (aimJ d A)
theorem aimsJ_all (d : Int) (A : List (List Nat)) : aimsJ d A (if A.length = 0 then 1 else min 3 A.length) = scL d A:=by
 unfold aimsJ scL
 by_cases h : A.length = 0
 · rw [if_pos h,if_pos h]; simp [aimJ,h]
 · rw [if_neg h,if_neg h]
   refine List.ext_getElem? fun i=>?_
   rw [List.getElem?_map,List.getElem?_map]
   by_cases hi : i < min 3 A.length
   · rw [List.getElem?_range hi,List.getElem?_take,if_pos (by omega),List.getElem?_eq_getElem (by omega)]
     simp [aimJ,h,List.getD_eq_getElem?_getD,List.getElem?_eq_getElem (show i < A.length by omega)]
   · rw [List.getElem?_eq_none (by simp; omega),List.getElem?_take]
     split
     · rw [List.getElem?_eq_none (by omega)]; rfl
     · rfl
theorem fitV_subS {n : Nat} {F : (Nat → Nat) → List (Nat × AV)} {R : (Nat → Nat) → List (Nat × RowC)} {s s' : AS} (h : Sub s s') (hf : FitV n F R s') : FitV n F R s:=by
 obtain ⟨vs,hs⟩:=hf
 exact ⟨vs,fun C a w hw=>hs C a w (h C a w hw)⟩
def vI (b : Nat → Bool) (j : Nat) (v : AV) : AV:=if b j then v else .r .un
def sgF (A0 : RV) (i k P n : Nat) (lf lo hi bd : Int) (M : List (List RV)) (b : Nat → Bool) (vs : Nat → Nat) : List (Nat × AV) :=
 [(1,.r A0),(4,.pt 4 (vs 4) 0),(5,.pt 5 (vs 5) 0),(6,.r (i64 (i : Int))),(7,.pt 7 (vs 7) 0),(8,.r (i64 (bif b 19 then lf - lo else lf))),(9,.r (i64 (k : Int))),(11,.r (i64 (P : Int))),(14,.r (i64 lo)),(15,.r (.rp [i64 bd,i64 lo,i64 hi])),
  (119,vI b 0 (.r .ns)),
  (120,vI b 1 (.pt 7 (vs 7) 1)),
  (121,vI b 2 (.r (.sl 3 M))),
  (122,vI b 3 (.r (i64 (P : Int)))),
  (123,vI b 4 (.r (.sl 3 (M.take P)))),
  (124,vI b 5 (bif b 8 then .r .un else .os 124 (vs 124) 3 0 P)),
  (125,vI b 6 (.r (.ag [i64 bd,i64 lo,i64 hi]))),
  (126,vI b 7 (.r (.sl 3 [[i64 bd,i64 lo,i64 hi]]))),
  (127,vI b 8 (bif b 13 then .r .un else .os 124 (vs 124) 3 0 (P + 1))),
  (128,vI b 9 (.pt 7 (vs 7) 1)),
  (129,vI b 10 (.r (.sl 3 M))),
  (130,vI b 11 (.r (i64 (P : Int)))),
  (131,vI b 12 (.r (.sl 3 (M.drop P)))),
  (132,vI b 13 (.os 124 (vs 124) 3 0 (P + 1 + (n - P)))),
  (133,vI b 14 (.r (i64 lf))),
  (134,vI b 15 (.r (i64 lo))),
  (135,vI b 16 (.r (i64 (lf - lo)))),
  (136,vI b 17 (.pt 7 (vs 7) 1))]
def sgR (D i P n : Nat) (lo hi bd : Int) (M : List (List RV)) (JR : List (List RV)) (b : Nat → Bool) (vs : Nat → Nat) : List (Nat × RowC) :=
 [(4,.box [.r (i64 0),.r .ns]),(5,.box [.r (i64 (D : Int)),.os 155 (vs 155) 2 0 i]),(7,.box [.r (i64 201),bif b 18 then .os 124 (vs 124) 3 0 (P + 1 + (n - P)) else .r (.sl 3 M)])] ++
  ((bif b 5 then [(124,.arr 83 3 (bif b 8 then (bif b 13 then M.take P ++ ([i64 bd,i64 lo,i64 hi] :: M.drop P) else M.take P ++ [[i64 bd,i64 lo,i64 hi]]) else M.take P))] else []) ++ [(155,.arr 81 2 JR)])
theorem scatter_ok (den : Nat) (hd : den < 256) (A : List (List Nat)) (hA : ∀ a ∈ A,a.length = 12 ∧ ∀ n ∈ a,n < 256) :
 ACalls Try.prog 9 [u8Q den,.sl 12 (A.map fun a=>a.map u8Q)] (lawV ((4 + den % 60 : Nat) : Int) (scL ((4 + den % 60 : Nat) : Int) A)):=by
 have hmod:=Nat.mod_lt den (show 60 > 0 by omega)
 have k1 : IntKind.i64.wrap (den : Int) = den:=by rw [zI] <;> omega
 have k2 : Int.tmod (den : Int) 60 = ((den % 60 : Nat) : Int):=rfl
 have k3 : IntKind.i64.wrap (4 + ((den % 60 : Nat) : Int)) = ((4 + den % 60 : Nat) : Int):=by rw [zI] <;> omega
 generalize hD : 4 + den % 60 = D at *
 have hD64 : 4 ≤ D ∧ D < 64:=by omega
 refine acalls_st (rs:=[lawV (D : Int) (scL (D : Int) A)]) [.cell 4 26] Try.func9 rfl (by kernel_rfl) Try.ntmps9 rfl (by simp) rfl fun C vs=>?_
 repeat refine zq ?_
 refine zb fun K hK=>?_;simp only [go_sem];(try simp (disch:=omega) only [zI]);repeat first | intro _ | refine ⟨by omega,?_⟩
 refine hK _ ?_;clear hK K;refine zw (zk [0,1,4]) ?_;simp only [go_sem]
 repeat refine zq ?_
 refine zb fun K hK=>?_;simp only [go_sem,k1,k2,k3];(try simp (disch:=omega) only [zI]);repeat first | intro _ | refine ⟨by omega,?_⟩
 refine hK _ ?_;clear hK K;refine zw (sub_ownB 5 1 155 81 2 (by omega) (by omega) rfl (by simp only [go_sem,List.getElem?_cons_succ,List.getElem?_cons_zero])) ?_;refine zw (zk [1,4,5]) ?_;simp only [go_sem]
 repeat refine zq ?_
 refine zb fun K hK=>?_;simp only [go_sem];(try simp (disch:=omega) only [zI]);repeat first | intro _ | refine ⟨by omega,?_⟩
 refine hK _ ?_;clear hK K;refine zw (zk [1,4,5,6]) ?_;simp only [go_sem]
 obtain ⟨N,hN⟩ : ∃ N,N = if A.length = 0 then 1 else min 3 A.length:=⟨_,rfl⟩
 have hN3 : N ≤ 3:=by rw [hN]; split <;> omega
 have hall:=aimsJ_all (D : Int) A
 rw [← hN] at hall
 repeat refine zq ?_
 refine zd ?_
 refine awp_uptoV (n:=158) N (fun i vs=>[(1,.r (.sl 12 (A.map fun a=>a.map u8Q))),(4,.pt 4 (vs 4) 0),(5,.pt 5 (vs 5) 0),(6,.r (i64 (i : Int)))])
  (fun i vs=>[(4,.box [.r (i64 0),.r .ns]),(5,.box [.r (i64 (D : Int)),.os 155 (vs 155) 2 0 i]),(155,.arr 81 2 ((aimsJ (D : Int) A i).map aimR))]) (fun _=>True) 0 (zj [] ?_ ?_) (Nat.zero_le _) trivial ?_
 · try simp only [go_sem]
   try rfl
 · try simp only [go_sem]
   try rfl
 · intro i vs hi _
   by_cases hin : i < N
   · have hrec : aimsJ (D : Int) A (i + 1) = aimsJ (D : Int) A i ++ [aimJ (D : Int) A i]:=by simp [aimsJ,List.range_succ]
     have hjl : (aimsJ (D : Int) A i).length = i:=by simp [aimsJ]
     rw [hrec]
     generalize aimsJ (D : Int) A i = J at *
     repeat refine zq ?_
     refine awp_joinV (n:=158) (fun (_ : Unit) vs=>[(1,.r (.sl 12 (A.map fun a=>a.map u8Q))),(4,.pt 4 (vs 4) 0),(5,.pt 5 (vs 5) 0),(6,.r (i64 (i : Int))),(32,.r (.bo true))])
      (fun _ vs=>[(4,.box [.r (i64 0),.r .ns]),(5,.box [.r (i64 (D : Int)),.os 155 (vs 155) 2 0 i]),(155,.arr 81 2 (J.map aimR))]) (fun _=>True) (fun _ h=>h) ?_ ?_
     · by_cases hi0 : i = 0
       · subst hi0
         repeat refine zq ?_
         refine zb fun K hK=>?_;simp only [go_sem,beq_self_eq_true];(try simp (disch:=omega) only [zI]);repeat first | intro _ | refine ⟨by omega,?_⟩
         refine hK _ ?_;clear hK K
         try simp only [go_sem]
         refine ⟨(),zj [] ?_ ?_⟩
         · try simp only [go_sem]
         · try simp only [go_sem]
       · have q0 : ((i : Int) == 0) = false:=by rw [beq_eq_false_iff_ne]; omega
         have q0' : (i == 0) = false:=by rw [beq_eq_false_iff_ne]; omega
         have q1 : i < A.length:=by
          rw [hN] at hin
          split at hin <;> omega
         have q2 : decide ((i : Int) < 3) = true:=decide_eq_true (by rw [hN] at hin; split at hin <;> omega)
         repeat refine zq ?_
         refine zb fun K hK=>?_;simp only [go_sem,q0,q0',q1,q2,List.length_map];(try simp (disch:=omega) only [zI]);repeat first | intro _ | refine ⟨by omega,?_⟩
         repeat first | intro _ | refine ⟨by omega,?_⟩
         refine hK _ ?_;clear hK K
         try simp only [go_sem]
         refine ⟨(),zj [] ?_ ?_⟩
         · try simp only [go_sem]
         · try simp only [go_sem]
     intro _ vs _
     repeat refine zq ?_
     refine zc rfl (fun hc=>?_) (fun hc=>?_) <;> (try simp only [go_sem] at hc)
     refine zx ?_
     try simp only [go_sem]
     repeat refine zq ?_
     refine zd ?_
     repeat refine zq ?_
     refine awp_dreg2 [(5,some 5)] follows (by decide +kernel) (by kernel_rfl) (by simp only [keysOk,List.mem_cons,List.not_mem_nil,forall_eq_or_imp,Oc.keyOf,go_sem]; simp) fun K hK=>?_
     simp only [go_sem];(try simp (disch:=omega) only [zI]);repeat first | intro _ | refine ⟨by omega,?_⟩
     repeat first | intro _ | refine ⟨by omega,?_⟩
     refine hK _ ?_;clear hK K;refine zw (sub_ownB 7 1 124 83 3 (by omega) (by omega) rfl (by simp only [go_sem,List.getElem?_cons_succ,List.getElem?_cons_zero])) ?_;refine zw (zk [1,4,5,6,7,8]) ?_;simp only [go_sem]
     repeat refine zq ?_
     refine zb fun K hK=>?_;simp only [go_sem];(try simp (disch:=omega) only [zI]);repeat first | intro _ | refine ⟨by omega,?_⟩
     refine hK _ ?_;clear hK K;refine zw (zk [1,4,5,6,7,8,9]) ?_;simp only [go_sem]
     obtain ⟨a,ha⟩ : ∃ a : List Nat,a = A.getD i []:=⟨_,rfl⟩
     obtain ⟨Kn,hK⟩ : ∃ Kn : Nat,Kn = if A.length = 0 then 0 else 4:=⟨_,rfl⟩
     have haj : aimJ (D : Int) A i = ⟨201,headD (D : Int) (scF (D : Int) a Kn).1⟩:=by
      unfold aimJ
      by_cases h : A.length = 0
      · rw [if_pos h,hK,if_pos h]; rfl
      · rw [if_neg h,hK,if_neg h,ha]; rfl
     have hab : A.length ≠ 0 → i < A.length ∧ A[i]? = some a ∧ a.length = 12 ∧ ∀ n ∈ a,n < 256:=fun h=>by
      have hil : i < A.length:=by rw [hN] at hin; split at hin <;> omega
      obtain ⟨y,hy⟩:=opt_of_lt hil
      have : a = y:=by rw [ha,List.getD_eq_getElem?_getD,hy]; rfl
      subst this
      obtain ⟨z1,z2⟩:=hA a (mem_of_opt hy)
      exact ⟨hil,hy,z1,z2⟩
     have hK4 : Kn ≤ 4:=by rw [hK]; split <;> omega
     have hI : ∀ k,k ≤ Kn → ScI (D : Int) (scF (D : Int) a k):=fun k hk=>by
      by_cases h : A.length = 0
      · rw [hK,if_pos h] at hk
        have : k = 0:=by omega
        subst this
        exact scF_ok (by omega) (a:=[]) (by simp) 0
      · exact scF_ok (by omega) (hab h).2.2.2 k
     have hlen:=scF_len (d:=(D : Int)) a
     rw [haj]
     repeat refine zq ?_
     refine awp_joinV (n:=158) (fun (_ : Unit) vs=>[(1,.r (.sl 12 (A.map fun a=>a.map u8Q))),(4,.pt 4 (vs 4) 0),(5,.pt 5 (vs 5) 0),(6,.r (i64 (i : Int))),(7,.pt 7 (vs 7) 0)])
      (fun _ vs=>[(4,.box [.r (i64 0),.r .ns]),(5,.box [.r (i64 (D : Int)),.os 155 (vs 155) 2 0 i]),(7,.box [.r (i64 201),.os 124 (vs 124) 3 0 (scF (D : Int) a Kn).1.length]),(124,.arr 83 3 ((scF (D : Int) a Kn).1.map bedR)),(155,.arr 81 2 (J.map aimR))]) (fun _=>True) (fun _ h=>h) ?_ ?_
     · generalize J.map aimR = JR at *
       repeat refine zq ?_
       refine zd ?_
       refine awp_uptoV (n:=158) Kn (fun k vs=>[(1,.r (.sl 12 (A.map fun a=>a.map u8Q))),(4,.pt 4 (vs 4) 0),(5,.pt 5 (vs 5) 0),(6,.r (i64 (i : Int))),(7,.pt 7 (vs 7) 0),(8,.r (i64 (scF (D : Int) a k).2)),(9,.r (i64 (k : Int)))])
        (fun k vs=>[(4,.box [.r (i64 0),.r .ns]),(5,.box [.r (i64 (D : Int)),.os 155 (vs 155) 2 0 i]),(7,.box [.r (i64 201),.os 124 (vs 124) 3 0 (scF (D : Int) a k).1.length]),(124,.arr 83 3 ((scF (D : Int) a k).1.map bedR)),(155,.arr 81 2 JR)]) (fun _=>True) 0 (zj [] ?_ ?_) (Nat.zero_le _) trivial ?_
       · try simp only [go_sem]
         try rfl
       · try simp only [go_sem]
         try rfl
       · intro k vs hk _
         by_cases hkn : k < Kn
         · have hA0 : A.length ≠ 0:=fun h=>by rw [hK,if_pos h] at hkn; omega
           obtain ⟨hil,hai,ha12,ha256⟩:=hab hA0
           have hk4 : k < 4:=by omega
           have g1 : decide ((k : Int) < 4) = true:=decide_eq_true (by omega)
           have hIk:=hI k (by omega)
           have hlk:=hlen k
           have hsF : scF (D : Int) a (k + 1) = scS (D : Int) (scF (D : Int) a k) (triK a k):=rfl
           rw [hsF]
           obtain ⟨x0,hx0⟩:=opt_of_lt (l:=a) (i:=3 * k) (by omega)
           obtain ⟨x1,hx1⟩:=opt_of_lt (l:=a) (i:=3 * k + 1) (by omega)
           obtain ⟨x2,hx2⟩:=opt_of_lt (l:=a) (i:=3 * k + 2) (by omega)
           have htri : triK a k = (x0,x1,x2):=by
            unfold triK
            rw [List.getD_eq_getElem?_getD,List.getD_eq_getElem?_getD,List.getD_eq_getElem?_getD,hx0,hx1,hx2]; rfl
           have b0:=ha256 x0 (mem_of_opt hx0)
           have b1:=ha256 x1 (mem_of_opt hx1)
           have b2:=ha256 x2 (mem_of_opt hx2)
           have hcell : List.take 3 (List.drop (k * 3) (a.map u8Q)) = [u8Q x0,u8Q x1,u8Q x2]:=by
            rw [Nat.mul_comm k 3,drop_of_opt (l:=a.map u8Q) (i:=3 * k) (x:=u8Q x0) (by rw [List.getElem?_map,hx0]; rfl),
             drop_of_opt (l:=a.map u8Q) (i:=3 * k + 1) (x:=u8Q x1) (by rw [List.getElem?_map,hx1]; rfl),drop_of_opt (l:=a.map u8Q) (i:=3 * k + 1 + 1) (x:=u8Q x2) (by rw [List.getElem?_map,hx2]; rfl)]
            rfl
           rw [htri]
           generalize scF (D : Int) a k = S at *
           obtain ⟨L,lf⟩:=S
           simp only at hlk hIk ⊢
           repeat refine zq ?_
           refine zb fun K hK=>?_;simp only [go_sem,g1,hil,List.length_map];(try simp (disch:=omega) only [zI]);repeat first | intro _ | refine ⟨by omega,?_⟩
           repeat first | intro _ | refine ⟨by omega,?_⟩
           refine hK _ ?_;clear hK K;refine zw (zk [1,4,5,6,7,8,9,45]) ?_;simp only [go_sem]
           repeat refine zq ?_
           refine zc rfl (fun hc=>?_) (fun hc=>?_) <;> (try simp only [go_sem] at hc)
           refine zx ?_
           try simp only [go_sem]
           repeat refine zq ?_
           refine zd ?_
           repeat refine zq ?_
           refine zb fun K hK=>?_;simp only [go_sem,hai,hil,hcell,ha12,List.length_map];(try simp (disch:=omega) only [zI]);repeat first | intro _ | refine ⟨by omega,?_⟩
           repeat first | intro _ | refine ⟨by omega,?_⟩
           refine hK _ ?_;clear hK K;refine zw (sub_frzP 10 10 [u8Q x0,u8Q x1,u8Q x2] (by omega) rfl rfl) ?_;refine zw (zk [1,4,5,6,7,8,9,10,11,12]) ?_;simp only [go_sem]
           have e1 : IntKind.i64.wrap (x0 : Int) = x0:=by rw [zI] <;> omega
           have e2 : Int.tmod (x0 : Int) 3 = ((x0 % 3 : Nat) : Int):=rfl
           have n3:=Nat.mod_lt x0 (show 3 > 0 by omega)
           have n10:=Nat.mod_lt (x0 / 3) (show 10 > 0 by omega)
           have e3 : IntKind.i64.wrap (1 + ((x0 % 3 : Nat) : Int)) = ((1 + x0 % 3 : Nat) : Int):=by rw [zI] <;> omega
           have e4 : IntKind.i64.wrap (100 * ((1 + x0 % 3 : Nat) : Int)) = ((100 * (1 + x0 % 3) : Nat) : Int):=by rw [zI] <;> omega
           have e5 : IntKind.i64.wrap (((100 * (1 + x0 % 3) : Nat) : Int) + 1) = ((100 * (1 + x0 % 3) + 1 : Nat) : Int):=by rw [zI] <;> omega
           have e6 : Int.tdiv (x0 : Int) 3 = ((x0 / 3 : Nat) : Int):=rfl
           have e6w : IntKind.i64.wrap ((x0 / 3 : Nat) : Int) = ((x0 / 3 : Nat) : Int):=by rw [zI] <;> omega
           have e7 : Int.tmod ((x0 / 3 : Nat) : Int) 10 = ((x0 / 3 % 10 : Nat) : Int):=rfl
           have e8 : IntKind.i64.wrap (((100 * (1 + x0 % 3) + 1 : Nat) : Int) + ((x0 / 3 % 10 : Nat) : Int)) = ((100 * (1 + x0 % 3) + 1 + x0 / 3 % 10 : Nat) : Int):=by rw [zI] <;> omega
           have e9 : Int.tmod (x0 : Int) 16 = ((x0 % 16 : Nat) : Int):=rfl
           have n16:=Nat.mod_lt x0 (show 16 > 0 by omega)
           have e10 : IntKind.u8.wrap ((x0 % 16 : Nat) : Int) = ((x0 % 16 : Nat) : Int):=by
            have : ∀ q : Nat,q < 16 → IntKind.u8.wrap (q : Int) = (q : Int):=by decide
            exact this _ n16
           repeat refine zq ?_
           refine zb fun K hK=>?_;simp only [go_sem,e1,e2,e3,e4,e5,e6,e6w,e7,e8];(try simp (disch:=omega) only [zI]);repeat first | intro _ | refine ⟨by omega,?_⟩
           repeat first | intro _ | refine ⟨by omega,?_⟩
           refine hK _ ?_;clear hK K;refine zw (zk [1,4,5,6,7,8,9,10,11,12,13]) ?_;simp only [go_sem]
           obtain ⟨bd,hbd⟩ : ∃ bd : Nat,bd = bedN x0:=⟨_,rfl⟩
           have hbd0 : bd = if x0 % 16 = 0 then 0 else 100 * (1 + x0 % 3) + 1 + x0 / 3 % 10:=by rw [hbd]; rfl
           have hbl : bd < 500:=by rw [hbd0]; split <;> omega
           repeat refine zq ?_
           refine zb fun K hK=>?_;simp only [go_sem,e9,e10];(try simp (disch:=omega) only [zI]);repeat first | intro _ | refine ⟨by omega,?_⟩
           repeat first | intro _ | refine ⟨by omega,?_⟩
           refine hK _ ?_;clear hK K;refine zw (zk [1,4,5,6,7,8,9,10,11,12,13,70]) ?_;simp only [go_sem]
           repeat refine zq ?_
           refine awp_joinV (n:=158) (fun (_ : Unit) vs=>[(1,.r (.sl 12 (A.map fun a=>a.map u8Q))),(4,.pt 4 (vs 4) 0),(5,.pt 5 (vs 5) 0),(6,.r (i64 (i : Int))),(7,.pt 7 (vs 7) 0),(8,.r (i64 lf)),(9,.r (i64 (k : Int))),(10,.r (.rp [u8Q x0,u8Q x1,u8Q x2])),(11,.r (i64 0)),(12,.r (.bo false)),(13,.r (i64 (bd : Int)))])
            (fun _ vs=>[(4,.box [.r (i64 0),.r .ns]),(5,.box [.r (i64 (D : Int)),.os 155 (vs 155) 2 0 i]),(7,.box [.r (i64 201),.os 124 (vs 124) 3 0 L.length]),(124,.arr 83 3 (L.map bedR)),(155,.arr 81 2 JR)]) (fun _=>True) (fun _ h=>h) ?_ ?_
           · by_cases h16 : x0 % 16 = 0
             · have z1 : (((x0 % 16 : Nat) : Int) == 0) = true:=by rw [h16]; rfl
               try rw [z1]
               rw [hbd0,if_pos h16]
               repeat refine zq ?_
               refine zc rfl (fun hc=>?_) (fun hc=>?_) <;> (try simp only [go_sem] at hc)
               repeat refine zq ?_
               refine zb fun K hK=>?_;simp only [go_sem];(try simp (disch:=omega) only [zI]);repeat first | intro _ | refine ⟨by omega,?_⟩
               refine hK _ ?_;clear hK K
               try simp only [go_sem]
               refine ⟨(),zj [] ?_ ?_⟩
               · try simp only [go_sem]
                 try rfl
               · try simp only [go_sem]
             · have z1 : (((x0 % 16 : Nat) : Int) == 0) = false:=by rw [beq_eq_false_iff_ne]; omega
               try rw [z1]
               rw [hbd0,if_neg h16]
               repeat refine zq ?_
               refine zc rfl (fun hc=>?_) (fun hc=>?_) <;> (try simp only [go_sem] at hc)
               refine zx ?_
               try simp only [go_sem]
               refine ⟨(),zj [] ?_ ?_⟩
               · try simp only [go_sem]
                 try rfl
               · try simp only [go_sem]
           intro _ vs _
           repeat refine zq ?_
           refine awp_joinV (n:=158) (fun (_ : Unit) vs=>[(1,.r (.sl 12 (A.map fun a=>a.map u8Q))),(4,.pt 4 (vs 4) 0),(5,.pt 5 (vs 5) 0),(6,.r (i64 (i : Int))),(7,.pt 7 (vs 7) 0),(8,.r (i64 lf)),(9,.r (i64 (k : Int))),(10,.r (.rp [u8Q x0,u8Q x1,u8Q x2])),(11,.r (i64 (posN bd L : Int))),(12,.r (.bo (seenB bd L (posN bd L)))),(13,.r (i64 (bd : Int)))])
            (fun _ vs=>[(4,.box [.r (i64 0),.r .ns]),(5,.box [.r (i64 (D : Int)),.os 155 (vs 155) 2 0 i]),(7,.box [.r (i64 201),.os 124 (vs 124) 3 0 L.length]),(124,.arr 83 3 (L.map bedR)),(155,.arr 81 2 JR)]) (fun _=>True) (fun _ h=>h) ?_ ?_
           · repeat refine zq ?_
             refine zd ?_
             refine awp_uptoV (n:=158) (posN bd L) (fun j vs=>[(1,.r (.sl 12 (A.map fun a=>a.map u8Q))),(4,.pt 4 (vs 4) 0),(5,.pt 5 (vs 5) 0),(6,.r (i64 (i : Int))),(7,.pt 7 (vs 7) 0),(8,.r (i64 lf)),(9,.r (i64 (k : Int))),(10,.r (.rp [u8Q x0,u8Q x1,u8Q x2])),(11,.r (i64 (j : Int))),(12,.r (.bo (seenB bd L j))),(13,.r (i64 (bd : Int)))])
              (fun j vs=>[(4,.box [.r (i64 0),.r .ns]),(5,.box [.r (i64 (D : Int)),.os 155 (vs 155) 2 0 i]),(7,.box [.r (i64 201),.os 124 (vs 124) 3 0 L.length]),(124,.arr 83 3 (L.map bedR)),(155,.arr 81 2 JR)]) (fun _=>True) 0 (zj [] ?_ ?_) (Nat.zero_le _) trivial ?_
             · try simp only [go_sem]
               try rfl
             · try simp only [go_sem]
             · intro j vs hj _
               have hpl:=pos_le (b:=(bd : Int)) (L:=L)
               by_cases hjn : j < posN bd L
               · obtain ⟨y,hy,hyb⟩:=pos_at hjn
                 have hjl : j < L.length:=by omega
                 have d1 : decide (y.b ≤ (bd : Int)) = true:=decide_eq_true hyb
                 rw [seen_step hy]
                 repeat refine zq ?_
                 refine zb fun K hK=>?_;simp only [go_sem,hy,hjl,d1,bedR,List.length_map];(try simp (disch:=omega) only [zI]);repeat first | intro _ | refine ⟨by omega,?_⟩
                 repeat first | intro _ | refine ⟨by omega,?_⟩
                 refine hK _ ?_;clear hK K;refine zw (zk [1,4,5,6,7,8,9,10,11,12,13,85]) ?_;simp only [go_sem]
                 repeat refine zq ?_
                 refine zc rfl (fun hc=>?_) (fun hc=>?_) <;> (try simp only [go_sem] at hc)
                 refine zx ?_
                 try simp only [go_sem]
                 repeat refine zq ?_
                 refine zd ?_
                 cases hse : seenB bd L j with
                 | true =>
                   repeat refine zq ?_
                   refine zb fun K hK=>?_;simp only [go_sem];(try simp (disch:=omega) only [zI]);repeat first | intro _ | refine ⟨by omega,?_⟩
                   refine hK _ ?_;clear hK K;refine zw (zk [1,4,5,6,7,8,9,10,11,12,13]) ?_;simp only [go_sem]
                   repeat refine zq ?_
                   refine zb fun K hK=>?_;simp only [go_sem];(try simp (disch:=omega) only [zI]);repeat first | intro _ | refine ⟨by omega,?_⟩
                   refine hK _ ?_;clear hK K
                   try simp only [go_sem]
                   refine ⟨by omega,zj [] ?_ ?_⟩
                   · try simp only [go_sem]
                   · try simp only [go_sem]
                 | false =>
                   repeat refine zq ?_
                   refine zb fun K hK=>?_;simp only [go_sem,hy,hjl,bedR,List.length_map];(try simp (disch:=omega) only [zI]);repeat first | intro _ | refine ⟨by omega,?_⟩
                   repeat first | intro _ | refine ⟨by omega,?_⟩
                   refine hK _ ?_;clear hK K;refine zw (zk [1,4,5,6,7,8,9,10,11,12,13]) ?_;simp only [go_sem]
                   repeat refine zq ?_
                   refine zb fun K hK=>?_;simp only [go_sem];(try simp (disch:=omega) only [zI]);repeat first | intro _ | refine ⟨by omega,?_⟩
                   refine hK _ ?_;clear hK K
                   try simp only [go_sem]
                   refine ⟨by omega,zj [] ?_ ?_⟩
                   · try simp only [go_sem]
                   · try simp only [go_sem]
               · have hjp : j = posN bd L:=by omega
                 subst hjp
                 rcases pos_end (b:=(bd : Int)) (L:=L) with hpe | ⟨y,hy,hyb⟩
                 · have hnl : ¬ posN bd L < L.length:=by omega
                   repeat refine zq ?_
                   refine zb fun K hK=>?_;simp only [go_sem,hnl,List.length_map];(try simp (disch:=omega) only [zI]);repeat first | intro _ | refine ⟨by omega,?_⟩
                   repeat first | intro _ | refine ⟨by omega,?_⟩
                   refine hK _ ?_;clear hK K;refine zw (zk [1,4,5,6,7,8,9,10,11,12,13,85]) ?_;simp only [go_sem]
                   repeat refine zq ?_
                   refine zc rfl (fun hc=>?_) (fun hc=>?_) <;> (try simp only [go_sem] at hc)
                   refine zf ?_;simp only [go_sem]
                   refine ⟨(),zj [] ?_ ?_⟩
                   · try simp only [go_sem]
                   · try simp only [go_sem]
                 · have hjl : posN bd L < L.length:=(List.getElem?_eq_some_iff.1 hy).1
                   have d1 : decide (y.b ≤ (bd : Int)) = false:=decide_eq_false (by omega)
                   repeat refine zq ?_
                   refine zb fun K hK=>?_;simp only [go_sem,hy,hjl,d1,bedR,List.length_map];(try simp (disch:=omega) only [zI]);repeat first | intro _ | refine ⟨by omega,?_⟩
                   repeat first | intro _ | refine ⟨by omega,?_⟩
                   refine hK _ ?_;clear hK K;refine zw (zk [1,4,5,6,7,8,9,10,11,12,13,85]) ?_;simp only [go_sem]
                   repeat refine zq ?_
                   refine zc rfl (fun hc=>?_) (fun hc=>?_) <;> (try simp only [go_sem] at hc)
                   refine zf ?_;simp only [go_sem]
                   refine ⟨(),zj [] ?_ ?_⟩
                   · try simp only [go_sem]
                   · try simp only [go_sem]
           intro _ vs _
           have hps:=pos_le (b:=(bd : Int)) (L:=L)
           have hscS : scS (D : Int) (L,lf) (x0,x1,x2) = if seenB bd L (posN bd L) then (L,lf) else (L.take (posN bd L) ++ [⟨(bd : Int),lf * (x1 : Int) / 512,min (D : Int) (lf * (x1 : Int) / 512 + ((x2 % 20 : Nat) : Int))⟩] ++ L.drop (posN bd L),lf - lf * (x1 : Int) / 512):=by
            unfold scS scN
            simp only [← hbd]
           rw [hscS]
           generalize posN bd L = P at *
           cases hse : seenB bd L P with
           | true =>
             rw [if_pos rfl]
             repeat refine zq ?_
             refine zb fun K hK=>?_;simp only [go_sem];(try simp (disch:=omega) only [zI]);repeat first | intro _ | refine ⟨by omega,?_⟩
             refine hK _ ?_;clear hK K;refine zw (zk [1,4,5,6,7,8,9,10,11,13,99]) ?_;simp only [go_sem]
             repeat refine zq ?_
             refine zc rfl (fun hc=>?_) (fun hc=>?_) <;> (try simp only [go_sem] at hc)
             refine zf ?_;simp only [go_sem]
             repeat refine zq ?_
             refine zb fun K hK=>?_;simp only [go_sem];(try simp (disch:=omega) only [zI]);repeat first | intro _ | refine ⟨by omega,?_⟩
             refine hK _ ?_;clear hK K
             try simp only [go_sem]
             refine ⟨by omega,zj [] ?_ ?_⟩
             · try simp only [go_sem]
             · try simp only [go_sem]
           | false =>
             rw [if_neg (by simp)]
             repeat refine zq ?_
             refine zb fun K hK=>?_;simp only [go_sem];(try simp (disch:=omega) only [zI]);repeat first | intro _ | refine ⟨by omega,?_⟩
             refine hK _ ?_;clear hK K;refine zw (zk [1,4,5,6,7,8,9,10,11,13,99]) ?_;simp only [go_sem]
             repeat refine zq ?_
             refine zc rfl (fun hc=>?_) (fun hc=>?_) <;> (try simp only [go_sem] at hc)
             refine zx ?_
             try simp only [go_sem]
             have hl1:=hIk.left
             simp only at hl1
             have f1 : IntKind.i64.wrap (x1 : Int) = x1:=by rw [zI] <;> omega
             have f2:=Int.mul_nonneg hl1.1 (show (0 : Int) ≤ x1 by omega)
             have f3 : lf * (x1 : Int) ≤ lf * 255:=Int.mul_le_mul_of_nonneg_left (by omega) hl1.1
             have f4 : IntKind.i64.wrap (lf * (x1 : Int)) = lf * (x1 : Int):=by rw [zI] <;> omega
             have f5 : Int.tdiv (lf * (x1 : Int)) 512 = lf * (x1 : Int) / 512:=Int.tdiv_eq_ediv_of_nonneg f2
             have f6 : 0 ≤ lf * (x1 : Int) / 512 ∧ lf * (x1 : Int) / 512 ≤ 64:=⟨by omega,by omega⟩
             generalize lf * (x1 : Int) / 512 = lo at *
             have f7 : IntKind.i64.wrap lo = lo:=by rw [zI] <;> omega
             have f8 : IntKind.i64.wrap (x2 : Int) = x2:=by rw [zI] <;> omega
             have f9 : Int.tmod (x2 : Int) 20 = ((x2 % 20 : Nat) : Int):=rfl
             have n20:=Nat.mod_lt x2 (show 20 > 0 by omega)
             generalize x2 % 20 = y2 at *
             have f10 : IntKind.i64.wrap (lo + (y2 : Int)) = lo + (y2 : Int):=by rw [zI] <;> omega
             have hsm:=span_mk lo (min (D : Int) (lo + (y2 : Int)))
             repeat refine zq ?_
             refine zb fun K hK=>?_;simp only [go_sem,f1,f4,f5,f7];(try simp (disch:=omega) only [zI]);repeat first | intro _ | refine ⟨by omega,?_⟩
             repeat first | intro _ | refine ⟨by omega,?_⟩
             refine hK _ ?_;clear hK K;refine zw (zk [1,4,5,6,7,8,9,10,11,13,14]) ?_;simp only [go_sem]
             repeat refine zq ?_
             refine zb fun K hK=>?_;simp only [go_sem,f8,f9,f10];(try simp (disch:=omega) only [zI])
             refine zh (hsm) rfl (by simp only [go_sem,i64,ints]) (by simp only [go_sem,i64,ints]) (by first | exact .inl rfl | exact .inr rfl) ?_
             (try simp only [go_sem]);(try simp (disch:=omega) only [zI]);repeat first | intro _ | refine ⟨by omega,?_⟩
             refine hK _ ?_;clear hK K;refine zw (sub_frzP 15 15 [i64 (bd : Int),i64 lo,i64 (min (D : Int) (lo + (y2 : Int)))] (by omega) rfl rfl) ?_;refine zw (zk [1,4,5,6,7,8,9,11,14,15]) ?_;simp only [go_sem];refine zw (sub_frzB 7 1 124 (ty:=83) (sz:=3) (off:=0) (m:=L.length) (es:=L.map bedR) (by omega) (by omega) rfl (by simp only [go_sem,List.getElem?_cons_succ,List.getElem?_cons_zero]) (by rfl) (by simp)) ?_;refine zw (zk [1,4,5,6,7,8,9,11,14,15]) ?_;simp only [go_sem]
             have f11 : IntKind.i64.wrap (lf - lo) = lf - lo:=by rw [zI] <;> omega
             have f12 : min P L.length = P:=by omega
             generalize hM : L.map bedR = M at *
             have hMl : M.length = L.length:=by rw [← hM,List.length_map]
             have hMt : List.take L.length M = M:=List.take_of_length_le (by omega)
             repeat refine zq ?_
             refine awp_inv (n:=158) (sgF (.sl 12 (A.map fun a=>a.map u8Q)) i k P L.length lf lo (min (D : Int) (lo + (y2 : Int))) (bd : Int) M) (sgR D i P L.length lo (min (D : Int) (lo + (y2 : Int))) (bd : Int) M JR) follows (by kernel_rfl) (by kernel_rfl) (by decide +kernel) (zj [] ?_ ?_) ?_ ?_
             · simp only [go_sem,sgF,vI,if_true,if_false,Bool.false_eq_true,cond_false]
             · simp only [go_sem,sgR,cond_false,List.cons_append,List.nil_append]
             · refine ⟨fun b vs hdn hbk hde=>?_,fun b vs hdn hbk hde=>?_,fun b vs hdn hbk hde=>?_,fun b vs hdn hbk hde=>?_,fun b vs hdn hbk hde=>?_,fun b vs hdn hbk hde=>?_,fun b vs hdn hbk hde=>?_,fun b vs hdn hbk hde=>?_,fun b vs hdn hbk hde=>?_,fun b vs hdn hbk hde=>?_,fun b vs hdn hbk hde=>?_,fun b vs hdn hbk hde=>?_,fun b vs hdn hbk hde=>?_,fun b vs hdn hbk hde=>?_,fun b vs hdn hbk hde=>?_,fun b vs hdn hbk hde=>?_,fun b vs hdn hbk hde=>?_,fun b vs hdn hbk hde=>?_,fun b vs hdn hbk hde=>?_,fun b vs hdn hbk hde=>?_,trivial⟩
               · skip
                 have G:=dnT hdn hbk [5,17,18,19,8,13] (by decide +kernel)
                 simp only [allB,and_true] at G
                 (simp only [go_sem,sgF,sgR,upd,vI,cond_true,cond_false,if_true,Bool.false_eq_true,if_false,hbk,G,hMl,hps,f11,f12,List.length_append,List.length_take,List.length_drop,List.length_cons,List.length_nil,List.drop_zero,Nat.sub_zero,List.append_assoc,hMt,List.cons_append,List.nil_append])
                 all_goals (refine zj [] ?_ ?_ <;> (simp only [go_sem,sgF,sgR,upd,vI,cond_true,cond_false,if_true,Bool.false_eq_true,if_false,hbk,G,hMl,hps,f11,f12,List.length_append,List.length_take,List.length_drop,List.length_cons,List.length_nil,List.drop_zero,Nat.sub_zero,List.append_assoc,hMt,List.cons_append,List.nil_append]))
               · skip
                 have G:=dnT hdn hbk [2,17,18,19,4,5,8,13] (by decide +kernel)
                 simp only [allB,and_true] at G
                 (simp only [go_sem,sgF,sgR,upd,vI,cond_true,cond_false,if_true,Bool.false_eq_true,if_false,hbk,G,hMl,hps,f11,f12,List.length_append,List.length_take,List.length_drop,List.length_cons,List.length_nil,List.drop_zero,Nat.sub_zero,List.append_assoc,hMt,List.cons_append,List.nil_append])
                 all_goals (refine zj [] ?_ ?_ <;> (simp only [go_sem,sgF,sgR,upd,vI,cond_true,cond_false,if_true,Bool.false_eq_true,if_false,hbk,G,hMl,hps,f11,f12,List.length_append,List.length_take,List.length_drop,List.length_cons,List.length_nil,List.drop_zero,Nat.sub_zero,List.append_assoc,hMt,List.cons_append,List.nil_append]))
               · skip
                 have H:=upT hdn hde [1] (by decide +kernel)
                 have G:=dnT hdn hbk [4,17,18,19,5,8,13] (by decide +kernel)
                 simp only [allB,and_true] at H G
                 (simp only [go_sem,sgF,sgR,upd,vI,cond_true,cond_false,if_true,Bool.false_eq_true,if_false,hbk,H,G,hMl,hps,f11,f12,List.length_append,List.length_take,List.length_drop,List.length_cons,List.length_nil,List.drop_zero,Nat.sub_zero,List.append_assoc,hMt,List.cons_append,List.nil_append])
                 all_goals (refine zj [] ?_ ?_ <;> (simp only [go_sem,sgF,sgR,upd,vI,cond_true,cond_false,if_true,Bool.false_eq_true,if_false,hbk,H,G,hMl,hps,f11,f12,List.length_append,List.length_take,List.length_drop,List.length_cons,List.length_nil,List.drop_zero,Nat.sub_zero,List.append_assoc,hMt,List.cons_append,List.nil_append]))
               · skip
                 have G:=dnT hdn hbk [4,17,18,19,5,8,13] (by decide +kernel)
                 simp only [allB,and_true] at G
                 (simp only [go_sem,sgF,sgR,upd,vI,cond_true,cond_false,if_true,Bool.false_eq_true,if_false,hbk,G,hMl,hps,f11,f12,List.length_append,List.length_take,List.length_drop,List.length_cons,List.length_nil,List.drop_zero,Nat.sub_zero,List.append_assoc,hMt,List.cons_append,List.nil_append])
                 all_goals (refine zj [] ?_ ?_ <;> (simp only [go_sem,sgF,sgR,upd,vI,cond_true,cond_false,if_true,Bool.false_eq_true,if_false,hbk,G,hMl,hps,f11,f12,List.length_append,List.length_take,List.length_drop,List.length_cons,List.length_nil,List.drop_zero,Nat.sub_zero,List.append_assoc,hMt,List.cons_append,List.nil_append]))
               · skip
                 have H:=upT hdn hde [2,3,1] (by decide +kernel)
                 have G:=dnT hdn hbk [5,17,18,19,8,13] (by decide +kernel)
                 simp only [allB,and_true] at H G
                 (simp only [go_sem,sgF,sgR,upd,vI,cond_true,cond_false,if_true,Bool.false_eq_true,if_false,hbk,H,G,hMl,hps,f11,f12,List.length_append,List.length_take,List.length_drop,List.length_cons,List.length_nil,List.drop_zero,Nat.sub_zero,List.append_assoc,hMt,List.cons_append,List.nil_append])
                 all_goals (refine zj [] ?_ ?_ <;> (simp only [go_sem,sgF,sgR,upd,vI,cond_true,cond_false,if_true,Bool.false_eq_true,if_false,hbk,H,G,hMl,hps,f11,f12,List.length_append,List.length_take,List.length_drop,List.length_cons,List.length_nil,List.drop_zero,Nat.sub_zero,List.append_assoc,hMt,List.cons_append,List.nil_append]))
               · skip
                 have H:=upT hdn hde [0,4,2,3,1] (by decide +kernel)
                 have G:=dnT hdn hbk [8,17,18,19,13] (by decide +kernel)
                 simp only [allB,and_true] at H G
                 (simp only [go_sem,sgF,sgR,upd,vI,cond_true,cond_false,if_true,Bool.false_eq_true,if_false,hbk,H,G,hMl,hps,f11,f12,List.length_append,List.length_take,List.length_drop,List.length_cons,List.length_nil,List.drop_zero,Nat.sub_zero,List.append_assoc,hMt,List.cons_append,List.nil_append])
                 all_goals (try refine ⟨⟨by omega,by omega⟩,?_⟩)
                 all_goals (refine zj [] ?_ ?_ <;> (simp only [go_sem,sgF,sgR,upd,vI,cond_true,cond_false,if_true,Bool.false_eq_true,if_false,hbk,H,G,hMl,hps,f11,f12,List.length_append,List.length_take,List.length_drop,List.length_cons,List.length_nil,List.drop_zero,Nat.sub_zero,List.append_assoc,hMt,List.cons_append,List.nil_append]))
               · skip
                 have G:=dnT hdn hbk [7,17,18,19,8,13] (by decide +kernel)
                 simp only [allB,and_true] at G
                 cases g5 : b 5
                 all_goals (simp only [go_sem,sgF,sgR,upd,vI,cond_true,cond_false,if_true,Bool.false_eq_true,if_false,hbk,G,g5,hMl,hps,f11,f12,List.length_append,List.length_take,List.length_drop,List.length_cons,List.length_nil,List.drop_zero,Nat.sub_zero,List.append_assoc,hMt,List.cons_append,List.nil_append])
                 all_goals (refine zj [] ?_ ?_ <;> (simp only [go_sem,sgF,sgR,upd,vI,cond_true,cond_false,if_true,Bool.false_eq_true,if_false,hbk,G,g5,hMl,hps,f11,f12,List.length_append,List.length_take,List.length_drop,List.length_cons,List.length_nil,List.drop_zero,Nat.sub_zero,List.append_assoc,hMt,List.cons_append,List.nil_append]))
               · skip
                 have H:=upT hdn hde [6] (by decide +kernel)
                 have G:=dnT hdn hbk [8,17,18,19,13] (by decide +kernel)
                 simp only [allB,and_true] at H G
                 cases g5 : b 5
                 all_goals (simp only [go_sem,sgF,sgR,upd,vI,cond_true,cond_false,if_true,Bool.false_eq_true,if_false,hbk,H,G,g5,hMl,hps,f11,f12,List.length_append,List.length_take,List.length_drop,List.length_cons,List.length_nil,List.drop_zero,Nat.sub_zero,List.append_assoc,hMt,List.cons_append,List.nil_append])
                 all_goals (refine zj [] ?_ ?_ <;> (simp only [go_sem,sgF,sgR,upd,vI,cond_true,cond_false,if_true,Bool.false_eq_true,if_false,hbk,H,G,g5,hMl,hps,f11,f12,List.length_append,List.length_take,List.length_drop,List.length_cons,List.length_nil,List.drop_zero,Nat.sub_zero,List.append_assoc,hMt,List.cons_append,List.nil_append]))
               · skip
                 have H:=upT hdn hde [5,5,7,0,4,6,2,3,1] (by decide +kernel)
                 have G:=dnT hdn hbk [13,17,18,19] (by decide +kernel)
                 simp only [allB,and_true] at H G
                 (simp only [go_sem,sgF,sgR,upd,vI,cond_true,cond_false,if_true,Bool.false_eq_true,if_false,hbk,H,G,hMl,hps,f11,f12,List.length_append,List.length_take,List.length_drop,List.length_cons,List.length_nil,List.drop_zero,Nat.sub_zero,List.append_assoc,hMt,List.cons_append,List.nil_append])
                 all_goals (try refine ⟨⟨by omega,by omega⟩,?_⟩)
                 all_goals refine fitV_subS (zk [1,4,5,6,7,8,9,11,14,15,119,120,121,122,123,125,126,127,128,129,130,131,132,133,134,135,136]) ?_
                 all_goals simp only [go_sem]
                 all_goals (refine zj [] ?_ ?_ <;> (simp only [go_sem,sgF,sgR,upd,vI,cond_true,cond_false,if_true,Bool.false_eq_true,if_false,hbk,H,G,hMl,hps,f11,f12,List.length_append,List.length_take,List.length_drop,List.length_cons,List.length_nil,List.drop_zero,Nat.sub_zero,List.append_assoc,hMt,List.cons_append,List.nil_append]))
               · skip
                 have G:=dnT hdn hbk [10,17,18,19,12,13] (by decide +kernel)
                 simp only [allB,and_true] at G
                 cases g5 : b 5 <;> cases g8 : b 8
                 all_goals (simp only [go_sem,sgF,sgR,upd,vI,cond_true,cond_false,if_true,Bool.false_eq_true,if_false,hbk,G,g5,g8,hMl,hps,f11,f12,List.length_append,List.length_take,List.length_drop,List.length_cons,List.length_nil,List.drop_zero,Nat.sub_zero,List.append_assoc,hMt,List.cons_append,List.nil_append])
                 all_goals (refine zj [] ?_ ?_ <;> (simp only [go_sem,sgF,sgR,upd,vI,cond_true,cond_false,if_true,Bool.false_eq_true,if_false,hbk,G,g5,g8,hMl,hps,f11,f12,List.length_append,List.length_take,List.length_drop,List.length_cons,List.length_nil,List.drop_zero,Nat.sub_zero,List.append_assoc,hMt,List.cons_append,List.nil_append]))
               · skip
                 have H:=upT hdn hde [9] (by decide +kernel)
                 have G:=dnT hdn hbk [12,17,18,19,13] (by decide +kernel)
                 simp only [allB,and_true] at H G
                 cases g5 : b 5 <;> cases g8 : b 8
                 all_goals (simp only [go_sem,sgF,sgR,upd,vI,cond_true,cond_false,if_true,Bool.false_eq_true,if_false,hbk,H,G,g5,g8,hMl,hps,f11,f12,List.length_append,List.length_take,List.length_drop,List.length_cons,List.length_nil,List.drop_zero,Nat.sub_zero,List.append_assoc,hMt,List.cons_append,List.nil_append])
                 all_goals (refine zj [] ?_ ?_ <;> (simp only [go_sem,sgF,sgR,upd,vI,cond_true,cond_false,if_true,Bool.false_eq_true,if_false,hbk,H,G,g5,g8,hMl,hps,f11,f12,List.length_append,List.length_take,List.length_drop,List.length_cons,List.length_nil,List.drop_zero,Nat.sub_zero,List.append_assoc,hMt,List.cons_append,List.nil_append]))
               · skip
                 have G:=dnT hdn hbk [12,17,18,19,13] (by decide +kernel)
                 simp only [allB,and_true] at G
                 cases g5 : b 5 <;> cases g8 : b 8
                 all_goals (simp only [go_sem,sgF,sgR,upd,vI,cond_true,cond_false,if_true,Bool.false_eq_true,if_false,hbk,G,g5,g8,hMl,hps,f11,f12,List.length_append,List.length_take,List.length_drop,List.length_cons,List.length_nil,List.drop_zero,Nat.sub_zero,List.append_assoc,hMt,List.cons_append,List.nil_append])
                 all_goals (refine zj [] ?_ ?_ <;> (simp only [go_sem,sgF,sgR,upd,vI,cond_true,cond_false,if_true,Bool.false_eq_true,if_false,hbk,G,g5,g8,hMl,hps,f11,f12,List.length_append,List.length_take,List.length_drop,List.length_cons,List.length_nil,List.drop_zero,Nat.sub_zero,List.append_assoc,hMt,List.cons_append,List.nil_append]))
               · skip
                 have H:=upT hdn hde [10,11,9] (by decide +kernel)
                 have G:=dnT hdn hbk [13,17,18,19] (by decide +kernel)
                 simp only [allB,and_true] at H G
                 cases g5 : b 5 <;> cases g8 : b 8
                 all_goals (simp only [go_sem,sgF,sgR,upd,vI,cond_true,cond_false,if_true,Bool.false_eq_true,if_false,hbk,H,G,g5,g8,hMl,hps,f11,f12,List.length_append,List.length_take,List.length_drop,List.length_cons,List.length_nil,List.drop_zero,Nat.sub_zero,List.append_assoc,hMt,List.cons_append,List.nil_append])
                 all_goals (refine zj [] ?_ ?_ <;> (simp only [go_sem,sgF,sgR,upd,vI,cond_true,cond_false,if_true,Bool.false_eq_true,if_false,hbk,H,G,g5,g8,hMl,hps,f11,f12,List.length_append,List.length_take,List.length_drop,List.length_cons,List.length_nil,List.drop_zero,Nat.sub_zero,List.append_assoc,hMt,List.cons_append,List.nil_append]))
               · skip
                 have H:=upT hdn hde [8,8,12,5,7,10,11,0,4,6,9,2,3,1] (by decide +kernel)
                 have G:=dnT hdn hbk [17,18,19] (by decide +kernel)
                 simp only [allB,and_true] at H G
                 (simp only [go_sem,sgF,sgR,upd,vI,cond_true,cond_false,if_true,Bool.false_eq_true,if_false,hbk,H,G,hMl,hps,f11,f12,List.length_append,List.length_take,List.length_drop,List.length_cons,List.length_nil,List.drop_zero,Nat.sub_zero,List.append_assoc,hMt,List.cons_append,List.nil_append])
                 all_goals (try refine ⟨⟨by omega,by omega⟩,?_⟩)
                 all_goals refine fitV_subS (zk [1,4,5,6,7,8,9,11,14,15,119,120,121,122,123,125,126,128,129,130,131,132,133,134,135,136]) ?_
                 all_goals simp only [go_sem]
                 all_goals (refine zj [] ?_ ?_ <;> (simp only [go_sem,sgF,sgR,upd,vI,cond_true,cond_false,if_true,Bool.false_eq_true,if_false,hbk,H,G,hMl,hps,f11,f12,List.length_append,List.length_take,List.length_drop,List.length_cons,List.length_nil,List.drop_zero,Nat.sub_zero,List.append_assoc,hMt,List.cons_append,List.nil_append]))
               · skip
                 have G:=dnT hdn hbk [16,19] (by decide +kernel)
                 simp only [allB,and_true] at G
                 cases g5 : b 5 <;> cases g8 : b 8 <;> cases g13 : b 13 <;> cases g18 : b 18
                 all_goals (simp only [go_sem,sgF,sgR,upd,vI,cond_true,cond_false,if_true,Bool.false_eq_true,if_false,hbk,G,g5,g8,g13,g18,hMl,hps,f11,f12,List.length_append,List.length_take,List.length_drop,List.length_cons,List.length_nil,List.drop_zero,Nat.sub_zero,List.append_assoc,hMt,List.cons_append,List.nil_append])
                 all_goals (refine zj [] ?_ ?_ <;> (simp only [go_sem,sgF,sgR,upd,vI,cond_true,cond_false,if_true,Bool.false_eq_true,if_false,hbk,G,g5,g8,g13,g18,hMl,hps,f11,f12,List.length_append,List.length_take,List.length_drop,List.length_cons,List.length_nil,List.drop_zero,Nat.sub_zero,List.append_assoc,hMt,List.cons_append,List.nil_append]))
               · skip
                 have G:=dnT hdn hbk [16,19] (by decide +kernel)
                 simp only [allB,and_true] at G
                 cases g5 : b 5 <;> cases g8 : b 8 <;> cases g13 : b 13 <;> cases g18 : b 18
                 all_goals (simp only [go_sem,sgF,sgR,upd,vI,cond_true,cond_false,if_true,Bool.false_eq_true,if_false,hbk,G,g5,g8,g13,g18,hMl,hps,f11,f12,List.length_append,List.length_take,List.length_drop,List.length_cons,List.length_nil,List.drop_zero,Nat.sub_zero,List.append_assoc,hMt,List.cons_append,List.nil_append])
                 all_goals (refine zj [] ?_ ?_ <;> (simp only [go_sem,sgF,sgR,upd,vI,cond_true,cond_false,if_true,Bool.false_eq_true,if_false,hbk,G,g5,g8,g13,g18,hMl,hps,f11,f12,List.length_append,List.length_take,List.length_drop,List.length_cons,List.length_nil,List.drop_zero,Nat.sub_zero,List.append_assoc,hMt,List.cons_append,List.nil_append]))
               · skip
                 have H:=upT hdn hde [14,15] (by decide +kernel)
                 have G:=dnT hdn hbk [19] (by decide +kernel)
                 simp only [allB,and_true] at H G
                 cases g5 : b 5 <;> cases g8 : b 8 <;> cases g13 : b 13 <;> cases g18 : b 18
                 all_goals (simp only [go_sem,sgF,sgR,upd,vI,cond_true,cond_false,if_true,Bool.false_eq_true,if_false,hbk,H,G,g5,g8,g13,g18,hMl,hps,f11,f12,List.length_append,List.length_take,List.length_drop,List.length_cons,List.length_nil,List.drop_zero,Nat.sub_zero,List.append_assoc,hMt,List.cons_append,List.nil_append])
                 all_goals (refine zj [] ?_ ?_ <;> (simp only [go_sem,sgF,sgR,upd,vI,cond_true,cond_false,if_true,Bool.false_eq_true,if_false,hbk,H,G,g5,g8,g13,g18,hMl,hps,f11,f12,List.length_append,List.length_take,List.length_drop,List.length_cons,List.length_nil,List.drop_zero,Nat.sub_zero,List.append_assoc,hMt,List.cons_append,List.nil_append]))
               · skip
                 have H:=upT hdn hde [0,1,2,3,4,5,6,7,8,9,10,11,12,13] (by decide +kernel)
                 have G:=dnT hdn hbk [18,19] (by decide +kernel)
                 simp only [allB,and_true] at H G
                 (simp only [go_sem,sgF,sgR,upd,vI,cond_true,cond_false,if_true,Bool.false_eq_true,if_false,hbk,H,G,hMl,hps,f11,f12,List.length_append,List.length_take,List.length_drop,List.length_cons,List.length_nil,List.drop_zero,Nat.sub_zero,List.append_assoc,hMt,List.cons_append,List.nil_append])
                 all_goals (refine zj [] ?_ ?_ <;> (simp only [go_sem,sgF,sgR,upd,vI,cond_true,cond_false,if_true,Bool.false_eq_true,if_false,hbk,H,G,hMl,hps,f11,f12,List.length_append,List.length_take,List.length_drop,List.length_cons,List.length_nil,List.drop_zero,Nat.sub_zero,List.append_assoc,hMt,List.cons_append,List.nil_append]))
               · skip
                 have H:=upT hdn hde [0,1,2,3,4,5,6,7,8,9,10,11,12,13,13,13,17] (by decide +kernel)
                 have G:=dnT hdn hbk [19] (by decide +kernel)
                 simp only [allB,and_true] at H G
                 (simp only [go_sem,sgF,sgR,upd,vI,cond_true,cond_false,if_true,Bool.false_eq_true,if_false,hbk,H,G,hMl,hps,f11,f12,List.length_append,List.length_take,List.length_drop,List.length_cons,List.length_nil,List.drop_zero,Nat.sub_zero,List.append_assoc,hMt,List.cons_append,List.nil_append])
                 all_goals (refine zj [] ?_ ?_ <;> (simp only [go_sem,sgF,sgR,upd,vI,cond_true,cond_false,if_true,Bool.false_eq_true,if_false,hbk,H,G,hMl,hps,f11,f12,List.length_append,List.length_take,List.length_drop,List.length_cons,List.length_nil,List.drop_zero,Nat.sub_zero,List.append_assoc,hMt,List.cons_append,List.nil_append]))
               · skip
                 have H:=upT hdn hde [0,1,2,3,4,5,6,7,8,9,10,11,12,13,14,15,16,16,17,18,18] (by decide +kernel)
                 simp only [allB,and_true] at H
                 (simp only [go_sem,sgF,sgR,upd,vI,cond_true,cond_false,if_true,Bool.false_eq_true,if_false,hbk,H,hMl,hps,f11,f12,List.length_append,List.length_take,List.length_drop,List.length_cons,List.length_nil,List.drop_zero,Nat.sub_zero,List.append_assoc,hMt,List.cons_append,List.nil_append])
                 all_goals (refine zj [] ?_ ?_ <;> (simp only [go_sem,sgF,sgR,upd,vI,cond_true,cond_false,if_true,Bool.false_eq_true,if_false,hbk,H,hMl,hps,f11,f12,List.length_append,List.length_take,List.length_drop,List.length_cons,List.length_nil,List.drop_zero,Nat.sub_zero,List.append_assoc,hMt,List.cons_append,List.nil_append]))
             intro b vs hb
             simp only [go_sem,sgF,sgR,vI,hb,if_true,cond_true,List.cons_append,List.nil_append];refine zw (zk [1,4,5,6,7,8,9]) ?_;simp only [go_sem]
             have hn2 : (L.take P ++ [(⟨(bd : Int),lo,min (D : Int) (lo + (y2 : Int))⟩ : Bd)] ++ L.drop P).length = P + 1 + (L.length - P):=by
              simp only [List.length_append,List.length_take,List.length_cons,List.length_nil,List.length_drop]; omega
             have hm2 : (L.take P ++ [(⟨(bd : Int),lo,min (D : Int) (lo + (y2 : Int))⟩ : Bd)] ++ L.drop P).map bedR = M.take P ++ ([i64 (bd : Int),i64 lo,i64 (min (D : Int) (lo + (y2 : Int)))] :: M.drop P):=by
              rw [← hM]; simp [List.map_take,List.map_drop,bedR]
             rw [hn2,hm2]
             repeat refine zq ?_
             refine zb fun K hK=>?_;simp only [go_sem];(try simp (disch:=omega) only [zI]);repeat first | intro _ | refine ⟨by omega,?_⟩
             refine hK _ ?_;clear hK K
             try simp only [go_sem]
             refine ⟨by omega,zj [] ?_ ?_⟩
             · try simp only [go_sem]
             · try simp only [go_sem]
         · have hke : k = Kn:=by omega
           subst hke
           by_cases hA0 : A.length = 0
           · have hK0 : k = 0:=by rw [hK,if_pos hA0]
             have hnl : ¬ i < A.length:=by omega
             have g1 : decide ((k : Int) < 4) = true:=decide_eq_true (by omega)
             repeat refine zq ?_
             refine zb fun K hK=>?_;simp only [go_sem,g1,hnl,List.length_map];(try simp (disch:=omega) only [zI]);repeat first | intro _ | refine ⟨by omega,?_⟩
             repeat first | intro _ | refine ⟨by omega,?_⟩
             refine hK _ ?_;clear hK K;refine zw (zk [1,4,5,6,7,8,9,45]) ?_;simp only [go_sem]
             repeat refine zq ?_
             refine zc rfl (fun hc=>?_) (fun hc=>?_) <;> (try simp only [go_sem] at hc)
             refine zf ?_;simp only [go_sem]
             refine ⟨(),zj [] ?_ ?_⟩
             · try simp only [go_sem]
             · try simp only [go_sem]
           · have hK0 : k = 4:=by rw [hK,if_neg hA0]
             have g1 : decide ((k : Int) < 4) = false:=decide_eq_false (by omega)
             repeat refine zq ?_
             refine zb fun K hK=>?_;simp only [go_sem,g1];(try simp (disch:=omega) only [zI]);repeat first | intro _ | refine ⟨by omega,?_⟩
             repeat first | intro _ | refine ⟨by omega,?_⟩
             refine hK _ ?_;clear hK K;refine zw (zk [1,4,5,6,7,8,9,45]) ?_;simp only [go_sem]
             repeat refine zq ?_
             refine zc rfl (fun hc=>?_) (fun hc=>?_) <;> (try simp only [go_sem] at hc)
             refine zf ?_;simp only [go_sem]
             refine ⟨(),zj [] ?_ ?_⟩
             · try simp only [go_sem]
             · try simp only [go_sem]
     intro _ vs _
     generalize hLs : (scF (D : Int) a Kn).1 = L at *
     cases L with
     | nil =>
       have hhd : headD (D : Int) ([] : List Bd) = [⟨201,0,(D : Int)⟩]:=rfl
       rw [hhd]
       repeat refine zq ?_
       refine zb fun K hK=>?_;simp only [go_sem,List.map_nil,List.length_nil,beq_self_eq_true];(try simp (disch:=omega) only [zI]);repeat first | intro _ | refine ⟨by omega,?_⟩
       refine hK _ ?_;clear hK K;refine zw (zk [1,4,5,6,7,140]) ?_;simp only [go_sem]
       repeat refine zq ?_
       refine zc rfl (fun hc=>?_) (fun hc=>?_) <;> (try simp only [go_sem] at hc)
       repeat refine zq ?_
       refine awp_long ?_
       refine sops_take 1 (by kernel_rfl) fun K hK=>?_
       simp only [go_sem,List.take_succ_cons,List.take_zero,List.drop_succ_cons,List.drop_zero,List.append_eq,List.cons_append,List.nil_append];(try simp (disch:=omega) only [zI]);repeat first | intro _ | refine ⟨by omega,?_⟩
       refine hK _ rfl ?_
       clear hK K
       refine sops_sub (zk [1,4,5,6,7,141]) ?_
       simp only [go_sem]
       refine sops_own (by simp [go_sem]) ?_
       simp only [go_sem,sBuildOwn]
       repeat first | refine ⟨by omega,?_⟩
       refine sops_end (by kernel_rfl) fun K hK=>?_
       simp only [go_sem,List.drop_succ_cons,List.drop_zero,List.append_eq,List.cons_append,List.nil_append];(try simp (disch:=omega) only [zI]);repeat first | intro _ | refine ⟨by omega,?_⟩
       refine hK _ ?_;clear hK K;refine zw (zk [1,4,5,6,7]) ?_;simp only [go_sem]
       repeat refine zq ?_
       refine zb fun K hK=>?_;simp only [go_sem,List.length_cons,List.length_nil,List.map_nil];(try simp (disch:=omega) only [zI]);repeat first | intro _ | refine ⟨by omega,?_⟩
       repeat first | intro _ | refine ⟨by omega,?_⟩
       refine hK _ ?_;clear hK K;refine zw (zk [1,4,5,6,7]) ?_;simp only [go_sem];refine zw (sub_frzB 7 1 142 (ty:=83) (sz:=3) (off:=0) (m:=1) (es:=[[i64 201,i64 0,i64 (D : Int)]]) (by omega) (by omega) rfl (by simp only [go_sem,List.getElem?_cons_succ,List.getElem?_cons_zero]) (by rfl) (by simp)) ?_;refine zw (zk [1,4,5,6,7]) ?_;simp only [go_sem]
       repeat refine zq ?_
       refine zb fun K hK=>?_;simp only [go_sem,hjl,List.length_map];(try simp (disch:=omega) only [zI]);repeat first | intro _ | refine ⟨by omega,?_⟩
       refine hK _ ?_;clear hK K;refine zw (zk [1,4,5,6]) ?_;simp only [go_sem]
       repeat refine zq ?_
       refine zb fun K hK=>?_;simp only [go_sem];(try simp (disch:=omega) only [zI]);repeat first | intro _ | refine ⟨by omega,?_⟩
       refine hK _ ?_;clear hK K
       try simp only [go_sem]
       refine ⟨by omega,zj [7,124] ?_ ?_⟩
       · try simp only [go_sem]
       · try simp only [go_sem]
         simp only [List.map_append,List.map_cons,List.map_nil,aimR,bedR]
         rfl
     | cons x L' =>
       have hne : ((x :: L').length : Int) == 0 → False:=fun h=>by rw [beq_iff_eq,List.length_cons] at h; omega
       have hne1 : (((x :: L').length : Int) == 0) = false:=by rw [beq_eq_false_iff_ne,List.length_cons]; omega
       have hne2 : (((L'.length : Int) + 1) == 0) = false:=by rw [beq_eq_false_iff_ne]; omega
       have hne3 : ((L'.length + 1) == 0) = false:=by rw [beq_eq_false_iff_ne]; omega
       have hhd : headD (D : Int) (x :: L') = ⟨x.b,x.lo,(D : Int)⟩ :: L':=rfl
       have hbr : bedR x = [i64 x.b,i64 x.lo,i64 x.hi]:=rfl
       rw [hhd]
       repeat refine zq ?_
       refine zb fun K hK=>?_;simp only [go_sem,List.map_cons,List.length_cons,List.length_map,hne1,hne2,hne3];(try simp (disch:=omega) only [zI]);repeat first | intro _ | refine ⟨by omega,?_⟩
       refine hK _ ?_;clear hK K;refine zw (zk [1,4,5,6,7,140]) ?_;simp only [go_sem]
       try rw [hne1]
       repeat refine zq ?_
       refine zc rfl (fun hc=>?_) (fun hc=>?_) <;> (try simp only [go_sem] at hc)
       refine zx ?_
       try simp only [go_sem]
       repeat refine zq ?_
       refine zb fun K hK=>?_;simp only [go_sem,hbr,List.map_cons,List.length_cons,List.length_map];(try simp (disch:=omega) only [zI]);repeat first | intro _ | refine ⟨by omega,?_⟩
       repeat first | intro _ | refine ⟨by omega,?_⟩
       refine hK _ ?_;clear hK K;refine zw (zk [1,4,5,6,7]) ?_;simp only [go_sem];refine zw (sub_frzB 7 1 124 (ty:=83) (sz:=3) (off:=0) (m:=L'.length + 1) (es:=[i64 x.b,i64 x.lo,i64 (D : Int)] :: L'.map bedR) (by omega) (by omega) rfl (by simp only [go_sem,List.getElem?_cons_succ,List.getElem?_cons_zero]) (by rfl) (by simp)) ?_;refine zw (zk [1,4,5,6,7]) ?_;simp only [go_sem]
       have tk5 : List.take (L'.length + 1) ([i64 x.b,i64 x.lo,i64 (D : Int)] :: L'.map bedR) = [i64 x.b,i64 x.lo,i64 (D : Int)] :: L'.map bedR:=List.take_of_length_le (by simp)
       try rw [tk5]
       refine zw (zk [1,4,5,6,7]) ?_;simp only [go_sem]
       repeat refine zq ?_
       refine zb fun K hK=>?_;simp only [go_sem,hjl,List.length_map];(try simp (disch:=omega) only [zI]);repeat first | intro _ | refine ⟨by omega,?_⟩
       refine hK _ ?_;clear hK K;refine zw (zk [1,4,5,6]) ?_;simp only [go_sem]
       repeat refine zq ?_
       refine zb fun K hK=>?_;simp only [go_sem];(try simp (disch:=omega) only [zI]);repeat first | intro _ | refine ⟨by omega,?_⟩
       refine hK _ ?_;clear hK K
       try simp only [go_sem]
       refine ⟨by omega,zj [7] ?_ ?_⟩
       · try simp only [go_sem]
       · try simp only [go_sem]
         simp only [List.map_append,List.map_cons,List.map_nil,aimR,bedR]
         rfl
   · have hiN : i = N:=by omega
     subst hiN
     rw [hall]
     have hsl : (scL (D : Int) A).length = i:=by rw [← hall]; simp [aimsJ]
     have hi0 : i ≠ 0:=by rw [hN]; split <;> omega
     have q0 : ((i : Int) == 0) = false:=by rw [beq_eq_false_iff_ne]; omega
     have q0' : (i == 0) = false:=by rw [beq_eq_false_iff_ne]; omega
     repeat refine zq ?_
     refine awp_joinV (n:=158) (fun (_ : Unit) vs=>[(1,.r (.sl 12 (A.map fun a=>a.map u8Q))),(4,.pt 4 (vs 4) 0),(5,.pt 5 (vs 5) 0),(6,.r (i64 (i : Int))),(32,.r (.bo false))])
      (fun _ vs=>[(4,.box [.r (i64 0),.r .ns]),(5,.box [.r (i64 (D : Int)),.os 155 (vs 155) 2 0 i]),(155,.arr 81 2 ((scL (D : Int) A).map aimR))]) (fun _=>True) (fun _ h=>h) ?_ ?_
     · by_cases q1 : i < A.length
       · have q2 : decide ((i : Int) < 3) = false:=decide_eq_false (by rw [hN] at q1 ⊢; split at q1 <;> rename_i hz <;> (try rw [if_pos hz]) <;> (try rw [if_neg hz]) <;> omega)
         repeat refine zq ?_
         refine zb fun K hK=>?_;simp only [go_sem,q0,q0',q1,q2,List.length_map];(try simp (disch:=omega) only [zI]);repeat first | intro _ | refine ⟨by omega,?_⟩
         repeat first | intro _ | refine ⟨by omega,?_⟩
         refine hK _ ?_;clear hK K
         try simp only [go_sem]
         refine ⟨(),zj [] ?_ ?_⟩
         · try simp only [go_sem]
         · try simp only [go_sem]
       · repeat refine zq ?_
         refine zb fun K hK=>?_;simp only [go_sem,q0,q0',q1,List.length_map];(try simp (disch:=omega) only [zI]);repeat first | intro _ | refine ⟨by omega,?_⟩
         repeat first | intro _ | refine ⟨by omega,?_⟩
         refine hK _ ?_;clear hK K
         try simp only [go_sem]
         refine ⟨(),zj [] ?_ ?_⟩
         · try simp only [go_sem]
         · try simp only [go_sem]
     intro _ vs _
     repeat refine zq ?_
     refine zc rfl (fun hc=>?_) (fun hc=>?_) <;> (try simp only [go_sem] at hc)
     refine zw (sub_frzB 5 1 155 (ty:=81) (sz:=2) (off:=0) (m:=i) (es:=(scL (D : Int) A).map aimR) (by omega) (by omega) rfl (by simp only [go_sem,List.getElem?_cons_succ,List.getElem?_cons_zero]) (by rfl) (by simp [hsl])) ?_;refine zw (zk [4,5]) ?_;simp only [go_sem]
     have tk6 : List.take i ((scL (D : Int) A).map aimR) = (scL (D : Int) A).map aimR:=List.take_of_length_le (by simp [hsl])
     try rw [tk6]
     refine zf ?_;simp only [go_sem]
     repeat refine zq ?_
     refine zb fun K hK=>?_;simp only [go_sem];(try simp (disch:=omega) only [zI]);repeat first | intro _ | refine ⟨by omega,?_⟩
     refine hK _ ?_;clear hK K;refine zw (zk [4]) ?_;simp only [go_sem];refine ze ?_;simp only [go_sem]
theorem one_mk (n : Int) : ACalls Try.prog 11 [i64 n] (.ag [i64 n,i64 n]):=by
 refine acalls_st (rs:=[.ag [i64 n,i64 n]]) [.cell 2 30] Try.func11 rfl (by kernel_rfl) Try.ntmps11 rfl (by simp) rfl fun C vs=>?_
 repeat refine zq ?_
 refine zb fun K hK=>?_;simp only [go_sem];(try simp (disch:=omega) only [zI]);repeat first | intro _ | refine ⟨by omega,?_⟩
 refine hK _ ?_;clear hK K;refine zw (zk [0,2]) ?_;simp only [go_sem]
 repeat refine zq ?_
 refine zb fun K hK=>?_;simp only [go_sem];(try simp (disch:=omega) only [zI]);repeat first | intro _ | refine ⟨by omega,?_⟩
 refine hK _ ?_;clear hK K;refine zw (zk [2]) ?_;simp only [go_sem];refine ze ?_;simp only [go_sem]
def rndL (n : Nat) : List Sp:=List.replicate (n - 1) (0,0) ++ [(1000000,1000000)]
def popB (g b : Int) : Bool:=(b != 0) && (((g == 0) || (b / 100 == 2)) || ((g == 2) && decide (2 < b / 100)))
def lastV (g : Int) (left : Nat) (b : Int) : Int:=if scoreOf b = left ∧ popB g b = true then 1000000 else 0
theorem wfA_aim {d : Int} {a : Am} (hd : d ≤ 3000) (h : aimOk d a = true) : WfA a:=by
 obtain ⟨h1,_,h3,h4,_,_⟩:=aimOk_parts h
 have hb:=fun b (hb : bedOk b = true)=>bedOk_le hb
 have:=hb _ h1
 refine ⟨by unfold I64; omega,fun c hc=>?_⟩
 have:=h4 c hc
 have hcb : 0 ≤ c.b ∧ c.b ≤ 499:=by
  rcases seq_beds h3 c hc with h | h
  · omega
  · exact hb _ h
 unfold I64
 omega
theorem wfL_chk {d : Int} {l : List Am} (h : checkV d l = 0) (hd : 0 ≤ d ∧ d ≤ 3000) : WfL d l:=⟨by unfold I64; omega,fun a ha=>wfA_aim hd.2 (aims_all (r:=⟨d,l,0,0,[]⟩) h a ha)⟩
def tdR (d : Int) (l : List Am) (st g : Int) : Ru:=⟨d,l,st,g,[(1000000,1000000)]⟩
structure OddI (d : Int) (l : List Am) (g : Int) (left : Nat) (O : List Sp) (b : Nat) (low : Int) : Prop where
 len : O.length = l.length
 best : b < O.length
 lowE : (O.getD b (0,0)).1 = low
 top : ∀ i,i < O.length → (O.getD i (0,0)).1 ≤ low
 at_ : ∀ (i : Nat) a,l[i]? = some a → O[i]? = some (Th.meanLo d a.beds (a.beds.map fun c=>lastV g left c.b) / d,(Th.meanHi d a.beds (a.beds.map fun c=>lastV g left c.b) + (d - 1)) / d)
end Go.Proofs.Ytlljkgiomkmjbaa.Du

namespace Go.Proofs.Ytlljkgiomkmjbaa.Du.Th
open Go Go.Oc
set_option linter.unusedSimpArgs false
set_option maxRecDepth 8000
set_option linter.unusedVariables false
def scoresOf (l : List Bd) : List Int:=l.map fun x=>scoreOf x.b
def spanOf (d : Int) (a : Am) : Int × Int:=(meanLo d a.beds (scoresOf a.beds),meanHi d a.beds (scoresOf a.beds))
abbrev spansR (l : List (Int × Int)) : RV:=.sl 2 (l.map fun x=>[i64 x.1,i64 x.2])
def spansV (d : Int) (l : List Am) : List (Int × Int):=if checkV d l = 0 then l.map (spanOf d) else []
end Go.Proofs.Ytlljkgiomkmjbaa.Du.Th

namespace Go.Proofs.Ytlljkgiomkmjbaa.Du
open Go Go.Oc
set_option linter.unusedSimpArgs false
set_option linter.unusedVariables false
set_option maxRecDepth 8000
set_option maxHeartbeats 4000000
def thL : List Am:=[⟨320,[⟨120,4,6⟩,⟨205,0,1⟩,⟨301,1,2⟩,⟨320,2,4⟩]⟩]
theorem wfA_of {l : List Am} (h : (l.all fun a=>decide (0 ≤ a.at_ ∧ a.at_ ≤ 1000) && a.beds.all fun c=>decide ((0 ≤ c.b ∧ c.b ≤ 1000) ∧ (0 ≤ c.lo ∧ c.lo ≤ 1000) ∧ 0 ≤ c.hi ∧ c.hi ≤ 1000)) = true) : ∀ a ∈ l,WfA a:=fun a ha=>by
 have:=List.all_eq_true.1 h a ha
 simp only [Bool.and_eq_true,decide_eq_true_eq,List.all_eq_true] at this
 obtain ⟨h1,h2⟩:=this
 refine ⟨by unfold I64; omega,fun c hc=>?_⟩
 have:=h2 c hc
 unfold I64
 omega
def duR : Ru:=⟨2,[⟨201,[⟨0,1,1⟩,⟨201,1,1⟩]⟩],2,1,[(0,500000),(1000000,1000000)]⟩
theorem duR_wf : WfR duR:=⟨⟨by unfold duR I64; simp only; omega,wfA_of (by decide)⟩⟩
theorem pubDuel_ok : ACalls Try.prog 15 [] (.bo true):=by
 have h:=table_ok duR duR_wf
 have h0 : ruE duR = 0:=by decide +kernel
 have h1 : tabF duR false = [[0,0,929687],[0,0,875000]]:=by decide +kernel
 have h2 : tabF duR true = [[0,0,984375],[0,0,875000]]:=by decide +kernel
 unfold tabsV at h
 rw [if_pos h0,if_pos h0,h1,h2,h0] at h
 have hs:=fun a b=>span_mk a b
 have ho:=fun a=>one_mk a
 refine acalls_st (rs:=[.bo true]) [.tmp 0] Try.func15 rfl (by kernel_rfl) Try.ntmps15 rfl (by simp) rfl fun C vs=>?_
 repeat refine zq ?_
 refine zb fun K hK=>?_;simp only [go_sem];(try simp (disch:=omega) only [zI]);repeat first | intro _ | refine ⟨by omega,?_⟩
 refine hK _ ?_;clear hK K;refine zw (zk [0]) ?_;simp only [go_sem]
 repeat refine zq ?_
 refine zb fun K hK=>?_;simp only [go_sem];(try simp (disch:=omega) only [zI])
 refine zh (ho 1) rfl (by simp only [go_sem,i64,ints]) (by simp only [go_sem,i64,ints]) (by first | exact .inl rfl | exact .inr rfl) ?_
 (try simp only [go_sem]);(try simp (disch:=omega) only [zI])
 refine zh (ho 1) rfl (by simp only [go_sem,i64,ints]) (by simp only [go_sem,i64,ints]) (by first | exact .inl rfl | exact .inr rfl) ?_
 (try simp only [go_sem]);(try simp (disch:=omega) only [zI]);repeat first | intro _ | refine ⟨by omega,?_⟩
 refine hK _ ?_;clear hK K;refine zw (sub_frzP 1 1 [i64 2,aimsR duR.aims] (by omega) rfl rfl) ?_;refine zw (zk [0,1]) ?_;simp only [go_sem]
 repeat refine zq ?_
 refine zg follows (by decide +kernel) (by kernel_rfl) fun K hK=>?_;simp only [go_sem];(try simp (disch:=omega) only [zI])
 refine zh (hs 0 500000) rfl (by simp only [go_sem,i64,ints]) (by simp only [go_sem,i64,ints]) (by first | exact .inl rfl | exact .inr rfl) ?_
 (try simp only [go_sem]);(try simp (disch:=omega) only [zI])
 refine zh (ho 1000000) rfl (by simp only [go_sem,i64,ints]) (by simp only [go_sem,i64,ints]) (by first | exact .inl rfl | exact .inr rfl) ?_
 (try simp only [go_sem]);(try simp (disch:=omega) only [zI])
 refine zh (h) rfl (by simp only [go_sem,i64,ints,duR,ruV,ruC,aimsR,bedsR,spansR,aimR,bedR,spanR,List.map_cons,List.map_nil]) (by simp only [go_sem,i64,ints,duR,ruV,ruC,aimsR,bedsR,spansR,aimR,bedR,spanR,List.map_cons,List.map_nil]) (by first | exact .inl rfl | exact .inr rfl) ?_
 (try simp only [go_sem,duR,ruV,ruC,aimsR,bedsR,spansR,aimR,bedR,spanR,List.map_cons,List.map_nil]);(try simp (disch:=omega) only [zI]);repeat first | intro _ | refine ⟨by omega,?_⟩
 refine hK _ ?_;clear hK K;refine zw (zk [0,2,3,4]) ?_;simp only [go_sem]
 repeat refine zq ?_
 refine zb fun K hK=>?_;simp only [go_sem];(try simp (disch:=omega) only [zI]);repeat first | intro _ | refine ⟨by omega,?_⟩
 refine hK _ ?_;clear hK K;refine zw (zk [0]) ?_;simp only [go_sem];refine ze ?_;simp only [go_sem]
theorem law_ok (d : Int) (l : List Am) (hl : l.length ≤ 1000) (hb : ∀ a ∈ l,a.beds.length ≤ 1000) : ACalls Try.prog 12 [lawV d l] (lawV d l):=by
 refine acalls_st (rs:=[lawV d l]) [.cell 2 26] Try.func12 rfl (by kernel_rfl) Try.ntmps12 rfl (by simp) rfl fun C vs=>?_
 repeat refine zq ?_
 refine zb fun K hK=>?_;simp only [go_sem];(try simp (disch:=omega) only [zI]);repeat first | intro _ | refine ⟨by omega,?_⟩
 refine hK _ ?_;clear hK K;refine zw (sub_frzP 1 1 [i64 d,aimsR l] (by omega) rfl rfl) ?_;refine zw (zk [1,2]) ?_;simp only [go_sem]
 repeat refine zq ?_
 refine zb fun K hK=>?_;simp only [go_sem];(try simp (disch:=omega) only [zI]);repeat first | intro _ | refine ⟨by omega,?_⟩
 refine hK _ ?_;clear hK K;refine zw (zk [1,2,3]) ?_;simp only [go_sem]
 repeat refine zq ?_
 refine zb fun K hK=>?_;simp only [go_sem];(try simp (disch:=omega) only [zI]);repeat first | intro _ | refine ⟨by omega,?_⟩
 refine hK _ ?_;clear hK K;refine zw (zk [1,2,3,4]) ?_;simp only [go_sem]
 repeat refine zq ?_
 refine zd ?_;refine zw (sub_ownB 3 1 130 81 2 (by omega) (by omega) rfl rfl) ?_
 try simp only [go_sem]
 refine awp_uptoV (n:=36) l.length (fun i vs=>[(1,.r (.rp [i64 d,aimsR l])),(2,.pt 2 (vs 2) 0),(3,.pt 3 (vs 3) 0),(4,.r (i64 i))])
  (fun i vs=>[(2,.box [.r (i64 0),.r .ns]),(3,.box [.r (i64 d),.os 130 (vs 130) 2 0 i]),(130,.arr 81 2 ((l.take i).map aimR))]) (fun _=>True) 0 (zj [] ?_ ?_) (Nat.zero_le _) trivial ?_
 · try simp only [go_sem]
 · try simp only [go_sem]
 · intro i vs hi _
   repeat refine zq ?_
   refine zb fun K hK=>?_;simp only [go_sem];(try simp (disch:=omega) only [zI]);repeat first | intro _ | refine ⟨by omega,?_⟩
   refine hK _ ?_;clear hK K;refine zw (zk [1,2,3,4,12]) ?_;simp only [go_sem]
   repeat refine zq ?_
   refine zc rfl (fun hc=>?_) (fun hc=>?_) <;> (try simp only [go_sem] at hc)
   · skip
     have hci:=hc
     obtain ⟨x,hx⟩:=opt_of_lt hc
     have hlt : (l.take i).length = i:=by rw [List.length_take]; omega
     have hxb:=hb x (mem_of_opt hx)
     have tk : List.take x.beds.length (x.beds.map bedR) = x.beds.map bedR:=List.take_of_length_le (by simp)
     refine zx ?_
     try simp only [go_sem]
     repeat refine zq ?_
     refine zd ?_
     repeat refine zq ?_
     refine awp_dregC3 [30] [(1,none),(2,some 2),(3,some 3),(4,none)] [3] follows (by decide +kernel) (by kernel_rfl) (by simp only [keysOk,List.mem_cons,List.not_mem_nil,forall_eq_or_imp,Oc.keyOf,go_sem]; simp) (by intro k hk; simp only [List.mem_cons,List.not_mem_nil,or_false] at hk; first | (subst hk; exact ⟨_,rfl⟩) | (rcases hk with rfl | rfl <;> exact ⟨_,rfl⟩) | (rcases hk with rfl | rfl | rfl <;> exact ⟨_,rfl⟩)) fun K hK=>?_
     simp only [go_sem,hx,hci,aimR,hlt];(try simp (disch:=omega) only [zI]);repeat first | intro _ | refine ⟨by omega,?_⟩
     repeat first | intro _ | refine ⟨by omega,?_⟩
     refine hK _ ?_;clear hK K;refine zw (zk [1,2,3,4]) ?_;simp only [go_sem]
     repeat refine zq ?_
     refine zb fun K hK=>?_;simp only [go_sem];(try simp (disch:=omega) only [zI]);repeat first | intro _ | refine ⟨by omega,?_⟩
     refine hK _ ?_;clear hK K
     try simp only [go_sem]
     refine ⟨hci,zj [] ?_ ?_⟩
     · try simp only [go_sem]
     · try simp only [go_sem]
       rw [take_of_opt hx]
       simp [aimR]
   · skip
     refine zf ?_;simp only [go_sem]
     repeat refine zq ?_
     refine zb fun K hK=>?_;simp only [go_sem];(try simp (disch:=omega) only [zI]);repeat first | intro _ | refine ⟨by omega,?_⟩
     refine hK _ ?_;clear hK K;refine zw (zk [2]) ?_;simp only [go_sem];refine ze ?_;simp only [go_sem]
     have : i = l.length:=by omega
     subst this
     simp [List.take_of_length_le]
end Go.Proofs.Ytlljkgiomkmjbaa.Du
