/- Part 12 of the texts of this claim. -/
import Derived.Test.YtgfbenanljjgaaaVJ11
import Derived.Test.YtgfbenanljjgaaaVJ10
import Derived.Test.YtgfbenanljjgaaaVJ7
import Derived.Test.YtgfbenanljjgaaaVJ5
import Derived.Test.YtgfbenanljjgaaaVJ6
set_option linter.unusedSimpArgs false
set_option linter.unusedVariables false
namespace Go.Proofs.Ytgfbenanljjgaaa.Du.Th.Ai
open Go Go.Oc
set_option maxRecDepth 8000
structure NarB (l l' : List Bd) : Prop where
 len : l'.length = l.length
 bed : ∀ i,i < l.length → (bAt l' i).b = (bAt l i).b ∧ (bAt l i).lo ≤ (bAt l' i).lo ∧ (bAt l' i).hi ≤ (bAt l i).hi
theorem NarB.refl (l : List Bd) : NarB l l:=⟨rfl,fun i hi=>⟨rfl,Int.le_refl _,Int.le_refl _⟩⟩
theorem NarB.truth {d : Int} {l l' : List Bd} {y : List Int} (h : NarB l l') (ht : TruthN d l' y) : TruthN d l y :=
 ⟨by rw [ht.len,h.len],fun i hi=>by
  have h1:=ht.each i (by rw [h.len];exact hi)
  have h2:=h.bed i hi
  omega,ht.sum⟩
theorem tab_below (r : Rk) (s : Bool) {x : Nat} (hx : (x : Int) < lowG r.out) : ∀ i,(tabA r s i).getD x 0 = 0
 | 0 => by
   unfold tabA
   rw [List.getD_eq_getElem?_getD,List.getElem?_replicate]
   split <;> rfl
 | i + 1 => by
   have ih:=tab_below r s hx i
   unfold tabA
   rw [List.getD_eq_getElem?_getD,List.getElem?_set_ne (by omega),← List.getD_eq_getElem?_getD]
   exact ih
end Go.Proofs.Ytgfbenanljjgaaa.Du.Th.Ai

namespace Go.Oc
open Go Go.RowKit
def NamedU (n : Nat) (F : Addr → (Nat → Nat) → List (Nat × AV)) (R : Addr → (Nat → Nat) → List (Nat × RowC)) (s : AS) : Prop:=∀ C a w,SRel C s a w → ∃ x vs,SRel C (st n (F x vs) vs (R x vs)) a w
theorem named_fit {n : Nat} {F : Addr → (Nat → Nat) → List (Nat × AV)} {R : Addr → (Nat → Nat) → List (Nat × RowC)} {x : Addr} {s : AS} (h : FitV n (F x) (R x) s) : NamedU n F R s:=fun C a w hs=>by
 obtain ⟨vs,hsub⟩:=h
 exact ⟨x,vs,hsub C a w hs⟩
theorem named_name {n : Nat} {F : Addr → (Nat → Nat) → List (Nat × AV)} {R : Addr → (Nat → Nat) → List (Nat × RowC)} {l : List (Nat × AV)} {vs : Nat → Nat} {cs : List (Nat × RowC)} (t : Nat) {k v : Nat} (ht : look l t = .pt k v 0) (hv : v = vs k) (h : ∀ u,FitV n (F u) (R u) (st n ((t,.pu k v u) :: l) vs cs)) : NamedU n F R (st n l vs cs):=fun C a w ⟨p,hp⟩=>by
 have hx:=hp.tm t
 have e2 : (st n l vs cs).tm t = .pt k v 0:=ht
 rw [e2] at hx
 simp only [AV.rel] at hx
 obtain ⟨b,hb,hbv⟩:=hx.2 (by rw [hv];rfl)
 obtain ⟨vs',hsub⟩:=h ⟨b,0,none⟩
 refine ⟨⟨b,0,none⟩,vs',hsub C a w ⟨p,{ hp with tm:=fun j=>?_ }⟩⟩
 show AV.rel w _ _ (look ((t,.pu k v ⟨b,0,none⟩) :: l) j) _
 rw [look_cons]
 split
 · rename_i e
   subst e
   simp only [AV.rel];exact ⟨hbv,hx⟩
 · exact hp.tm j
def stepAllU (P : Program) (ops : Array Oper) (n : Nat) (F : Addr → (Nat → Bool) → (Nat → Nat) → List (Nat × AV)) (R : Addr → (Nat → Bool) → (Nat → Nat) → List (Nat × RowC)) : Nat → List Oper → Prop
 | _,[]=>True
 | k,o :: rest=>(∀ x b vs,(∀ j e,j < ops.size → (deps ops j).contains e = true → b j = true → b e = true) → b k = false → (∀ e ∈ deps ops k,b e = true) →
  xop P false o (NamedU n (fun x=>F x (upd b k true)) (fun x=>R x (upd b k true))) (st n (F x b vs) vs (R x b vs))) ∧ stepAllU P ops n F R (k + 1) rest
theorem stepAllU_get {P : Program} {ops : Array Oper} {n : Nat} {F : Addr → (Nat → Bool) → (Nat → Nat) → List (Nat × AV)} {R : Addr → (Nat → Bool) → (Nat → Nat) → List (Nat × RowC)} : ∀ {l : List Oper} {k i : Nat} {o : Oper},stepAllU P ops n F R k l → l[i]? = some o →
 ∀ x b vs, (∀ j e, j < ops.size → (deps ops j).contains e = true → b j = true → b e = true) → b (k + i) = false → (∀ e ∈ deps ops (k + i), b e = true) →
   xop P false o (NamedU n (fun x=>F x (upd b (k + i) true)) (fun x=>R x (upd b (k + i) true))) (st n (F x b vs) vs (R x b vs))
 | [],_,_,_,_,h=>by simp at h
 | x :: l, k, 0, o, hs, h => by
   simp at h
   subst h
   exact hs.1
 | x :: l, k, i + 1, o, hs, h => by
   have:=stepAllU_get (k:=k + 1) (i:=i) hs.2 (by simpa using h)
   rwa [show k + 1 + i = k + (i + 1) by omega] at this
section
variable {P : Program} {C : Ctx} {s : AS} {a : Act} {w : World} {ops : Array Oper}
theorem inv_anyU {Q : AS → Prop} {Q' : Exit → Act → World → Prop} (hQ : ∀ s a w,Q s → SRel C s a w → Q' .normal a w) {n : Nat} {F : Addr → (Nat → Bool) → (Nat → Nat) → List (Nat × AV)} {R : Addr → (Nat → Bool) → (Nat → Nat) → List (Nat × RowC)}
 (hd : dstOk ops n = true) (hg : ops.all (fun o=>o.guard.isNone) = true) (hu : upOk ops = true) (hstep : stepAllU P ops n F R 0 ops.toList)
 (hend : ∀ x b vs,(∀ j,b j = true) → Q (st n (F x b vs) vs (R x b vs))) :
 ∀ (fuel : Nat) (x : Addr) (vs : Nat → Nat) (listed : Array Bool) (a : Act) (w : World), listed.size = ops.size → down ops listed → unl listed ops.size ≤ fuel → SRel C (st n (F x (fun j => listed.getD j true) vs) vs (R x (fun j => listed.getD j true) vs)) a w →
   wpAnyIn (fnc C.rd) 0 P .any ops Q' fuel listed a w:=by
 have all : ∀ {listed : Array Bool},listed.size = ops.size → (∀ j,j < ops.size → listed.getD j true = true) → ∀ j,(fun j=>listed.getD j true) j = true:=fun {listed} hsz h j=>by
  by_cases hj : j < ops.size
  · exact h j hj
  · show listed.getD j true = true
    have : ¬ j < listed.size:=by omega
    simp [this]
 intro fuel
 induction fuel with
 | zero =>
   intro x vs listed a w hsz hdn hf hs
   have h0:=unl_zero (listed:=listed) ops.size (by omega)
   refine ⟨List.eq_nil_iff_forall_not_mem.2 fun j hj=>?_,hQ _ _ _ (hend _ _ _ (all hsz h0)) hs⟩
   obtain ⟨h1,o,ho,_⟩:=mem_ready.1 hj
   have:=h0 j (Array.getElem?_eq_some_iff.1 ho).1
   rw [this] at h1
   cases h1
 | succ fuel ih =>
   intro x vs listed a w hsz hdn hf hs
   refine ⟨fun h0=>hQ _ _ _ (hend _ _ _ (all hsz (ready_nil hu h0 hsz))) hs,fun i hi=>?_⟩
   obtain ⟨hi1,o,ho,hall⟩:=mem_ready.1 hi
   unfold wpOpIn
   rw [ho]
   simp only
   have hil : i < ops.size:=(Array.getElem?_eq_some_iff.1 ho).1
   have hgo : o.guard = none:=by
    have:=Array.all_eq_true_iff_forall_mem.1 hg o (Array.mem_of_getElem? ho)
    simpa using this
   obtain ⟨p,hp⟩:=hs
   rw [if_pos (wantA_sound hp (by simp [wantA,hgo]))]
   have hx:=stepAllU_get (k:=0) (i:=i) hstep (by rw [Array.getElem?_toList];exact ho) x (fun j=>listed.getD j true) vs (fun j e hj he hb=>?_) (by rw [Nat.zero_add];exact hi1) (fun e he=>?_)
   · rw [Nat.zero_add] at hx
     refine xop_sound hp hx (dstOk_get hd ho) (fun a' w' p' s' hs' hn hK=>?_) (dstOk_nd hd ho)
     obtain ⟨x',vs',hsub⟩:=hK C a' w' ⟨p',hs'⟩
     have e : upd (fun j=>listed.getD j true) i true = fun j=>(listed.setIfInBounds i true).getD j true:=by
      funext j
      rw [getD_setT]
      rfl
     rw [e] at hsub
     exact ih x' vs' _ a' w' (by simpa using hsz) (down_set hdn hi) (by have:=unl_set hi1 ops.size hil;omega) hsub
   · have hjs : j < listed.size:=by omega
     have hb' : listed.getD j true = true:=hb
     have h2:=hdn j (by simpa [hjs] using hb') e (by simpa using he)
     show listed.getD e true = true
     by_cases hes : e < listed.size
     · simpa [hes] using h2
     · simp [hes]
   · have h2:=ready_deps hi e (by simpa using he)
     show listed.getD e true = true
     by_cases hes : e < listed.size
     · simpa [hes] using h2
     · simp [hes]
end
theorem awp_invU {P : Program} {C : Ctx} {id : Nat} {l : List Oper} {n : Nat} {Q : Exit → AS → Prop} {s : AS} (F : Addr → (Nat → Bool) → (Nat → Nat) → List (Nat × AV)) (R : Addr → (Nat → Bool) → (Nat → Nat) → List (Nat × RowC)) (x0 : Addr) (hm : P.follows .mixedOrders = true)
 (hd : dstOk l.toArray n = true) (hg : l.toArray.all (fun o=>o.guard.isNone) = true) (hu : upOk l.toArray = true) (h0 : FitV n (F x0 fun j=>decide (l.length ≤ j)) (R x0 fun j=>decide (l.length ≤ j)) s)
 (hstep : stepAllU P l.toArray n F R 0 l) (hend : ∀ x b vs,(∀ j,b j = true) → Q .normal (st n (F x b vs) vs (R x b vs))) : awp P C (.region id l.toArray true) Q s:=fun a w hs=>by
 obtain ⟨vs,hsub⟩:=h0
 obtain ⟨p,hp⟩:=hsub C a w hs
 have hs' : SR C p _ a { w with drawn:=w.drawn + 1 }:=hp.below (w':=w.drew) ((Below.refl _ _).drew) (fun _ h=>h) (fun _ h=>.inl h) hp.rb
 refine wpIn_region_any hm ?_
 have e : (fun j=>(Array.replicate l.toArray.size false).getD j true) = fun j=>decide (l.length ≤ j):=by
  funext j
  by_cases h : j < l.length
  · have : ¬ l.length ≤ j:=by omega
    simp [h,this]
  · have : l.length ≤ j:=by omega
    simp [h,this]
 refine inv_anyU (Q:=fun s=>Q .normal s) (n:=n) (F:=F) (R:=R) (fun s a w hq hs=>⟨s,hs,hq⟩) hd hg hu (by simpa using hstep) hend _ x0 vs _ _ _ (by simp) (fun j hj=>?_) ?_ ?_
 · exfalso
   simp only [Array.getD_eq_getD_getElem?,Array.getElem?_replicate] at hj
   split at hj <;> simp at hj
 · have : ∀ m,unl (Array.replicate l.toArray.size false) m ≤ m:=by
    intro m
    induction m with
    | zero=>exact Nat.le_refl _
    | succ m ih=>simp only [unl];split <;> omega
   exact this _
 · rw [e]
   exact ⟨p,hs'⟩
end Go.Oc

namespace Go.Proofs.Ytgfbenanljjgaaa.Du.Th.Ai.At
open Go Go.Oc
set_option maxRecDepth 8000
set_option maxHeartbeats 8000000
def atV (r : Rk) (s : Bool) (T : List Int) (st left k : Nat) : List Int:=r.aims.map (meanA r s (T.getD st 0) (left : Int) (valA r s T (T.getD st 0) k))
def vY (b : Nat → Bool) (j : Nat) (v : AV) : AV:=if b j then v else .r .un
def mkF (r : Rk) (s : Bool) (T : List Int) (st left k : Nat) (u : Addr) (b : Nat → Bool) (vs : Nat → Nat) : List (Nat × AV) :=
 [(2,.r (.bo s)),(3,.r (.rp [i64 r.d,aimsR r.aims,i64 r.start,i64 r.out])),(4,.r (.rp [i64 (st : Int),i64 (left : Int),i64 ((k : Int) + 1)])),(6,.pt 6 (vs 6) 0),
  (9,vY b 0 (.r (rkR r))),
  (10,vY b 1 (.r (.bo s))),
  (11,vY b 2 (.r (.rp (tabC r s T)))),
  (12,vY b 3 (.r (.rp [i64 (st : Int),i64 (left : Int),i64 ((k : Int) + 1)]))),
  (13,vY b 4 (.r (i64 (st : Int)))),
  (14,vY b 5 (.pu 30 (vs 30) u)),
  (15,vY b 6 (.r (.rp [i64 (left : Int),i64 ((k : Int) + 1)]))),
  (16,vY b 7 (.r (i64 (left : Int)))),
  (17,vY b 8 (.r (.rp [i64 ((k : Int) + 1)]))),
  (18,vY b 9 (.r (i64 ((k : Int) + 1)))),
  (19,vY b 10 (.r (.fn 130 (capM u left k))))]
def mkR (vis : List AV) (u : Addr) (b : Nat → Bool) (vs : Nat → Nat) : List (Nat × RowC) :=
 bif b 5 then [(6,.box [.r .ns]),(30,.box vis)] else [(6,.box [.r .ns])]
theorem at_ok {r : Rk} (hr : ROk r) (s : Bool) (st left k : Nat) (hk : k ≤ 2) (hlo : lowG r.out ≤ left) (hle : left ≤ st) (hst : (st : Int) ≤ r.start) :
 ACalls Try.prog 61 [rkR r,.ag [i64 (st : Int),i64 (left : Int),i64 ((k : Int) + 1)],.bo s] (ints (atV r s (tabT r s) st left k)):=by
 have hrs:=hr.start
 have hlg:=lowG_le r.out
 have htt:=tab_eq hr s (cntA r) (Nat.le_refl _)
 have hfi:=filled_ok r s hr
 obtain ⟨T,hT⟩ : ∃ T,T = tabT r s:=⟨_,rfl⟩
 have hTl : T.length = (r.start + 1).toNat:=by rw [hT];exact htt.2.1
 have hTv : ∀ x ∈ T,VOk x:=by rw [hT];exact htt.2.2
 rw [← hT] at hfi ⊢
 have hvs : VsOk r s T st:=⟨hr,hTl,hTv,by omega,hst⟩
 have hK0:=okK_zero r s T (ownV T st)
 have hfr:=from_ok r s T st
 generalize List.replicate 244 (0 : Int) = K0 at *
 have hMf : MfOk r s T (ownV T st) left (valM r s T (ownV T st) k) (valA r s T (ownV T st) k):=fun x K' q1 q2 q3=>valM_ok hr hTv hvs.own k (by omega) x K' q1 (by omega) q3
 have hA1:=(aimsM_ok hMf r.aims K0 hr.aims hK0).1
 have hM : atV r s T st left k = (aimsM r s (ownV T st) left (valM r s T (ownV T st) k) r.aims K0).1:=by rw [hA1];rfl
 have hJ:=fun u=>means1_ok hvs hk (value_ok hvs k (by omega)) u left K0 hlo hle hK0
 rw [hM]
 generalize aimsM r s (ownV T st) left (valM r s T (ownV T st) k) r.aims K0 = A at *
 have hAl : A.1.length ≤ 20:=by rw [hA1,List.length_map];exact hr.len
 have follows : Try.prog.follows .mixedOrders = true:=by kernel_rfl
 refine acalls_stR (rs:=[ints A.1]) [.cell 6 33] Try.func61 rfl (by kernel_rfl) Try.ntmps61 rfl (by simp) rfl fun C hC vs=>?_
 repeat apply zq
 refine zb fun K hK=>?_;simp only [go_sem];(try simp (disch:=omega) only [zI]);repeat first | intro _ | refine ⟨by omega,?_⟩
 apply hK;refine zw (zfP 3 3 [i64 r.d,aimsR r.aims,i64 r.start,i64 r.out] (by omega) rfl rfl) ?_;refine zw (zfP 4 4 [i64 (st : Int),i64 (left : Int),i64 ((k : Int) + 1)] (by omega) rfl rfl) ?_;apply zw (zk [2,3,4,6]);simp only [go_sem]
 repeat apply zq
 refine awp_invU (n:=27) (mkF r s T st left k) (mkR (visA r s T st K0)) ⟨0,0,none⟩ follows (by kernel_rfl) (by kernel_rfl) (by decide +kernel) (zj [] ?_ ?_) ?_ ?_
 · simp only [go_sem,mkF,vY,if_true,if_false,Bool.false_eq_true,cond_false]
 · simp only [go_sem,mkR,cond_false,List.cons_append,List.nil_append]
 · refine ⟨fun u b vs hdn hbk hde=>?_,fun u b vs hdn hbk hde=>?_,fun u b vs hdn hbk hde=>?_,fun u b vs hdn hbk hde=>?_,fun u b vs hdn hbk hde=>?_,fun u b vs hdn hbk hde=>?_,fun u b vs hdn hbk hde=>?_,fun u b vs hdn hbk hde=>?_,fun u b vs hdn hbk hde=>?_,fun u b vs hdn hbk hde=>?_,fun u b vs hdn hbk hde=>?_,trivial⟩
   · skip
     have G:=dnT hdn hbk [2,5,10] (by decide +kernel)
     simp only [allB,and_true] at G
     (simp only [go_sem,mkF,mkR,upd,vY,cond_true,cond_false,if_true,Bool.false_eq_true,if_false,hbk,G])
     all_goals (refine named_fit (x:=u) (zj [] ?_ ?_) <;> (simp only [go_sem,mkF,mkR,upd,vY,cond_true,cond_false,if_true,Bool.false_eq_true,if_false,hbk,G]))
   · skip
     have G:=dnT hdn hbk [2,5,10] (by decide +kernel)
     simp only [allB,and_true] at G
     (simp only [go_sem,mkF,mkR,upd,vY,cond_true,cond_false,if_true,Bool.false_eq_true,if_false,hbk,G])
     all_goals (refine named_fit (x:=u) (zj [] ?_ ?_) <;> (simp only [go_sem,mkF,mkR,upd,vY,cond_true,cond_false,if_true,Bool.false_eq_true,if_false,hbk,G]))
   · skip
     have H:=upT hdn hde [0,1] (by decide +kernel)
     have G:=dnT hdn hbk [5,10] (by decide +kernel)
     simp only [allB,and_true] at H G
     (simp only [go_sem,mkF,mkR,upd,vY,cond_true,cond_false,if_true,Bool.false_eq_true,if_false,hbk,H,G])
     all_goals (refine zh hfi rfl (by simp only [go_sem,i64,ints]) (by simp only [go_sem,i64,ints]) ?_)
     all_goals (simp only [go_sem,mkF,mkR,vY,cond_true,cond_false,if_true,Bool.false_eq_true,if_false,hbk,H,G])
     all_goals (refine named_fit (x:=u) (zj [] ?_ ?_) <;> (simp only [go_sem,mkF,mkR,upd,vY,cond_true,cond_false,if_true,Bool.false_eq_true,if_false,hbk,H,G]))
   · skip
     have G:=dnT hdn hbk [4,5,10] (by decide +kernel)
     simp only [allB,and_true] at G
     (simp only [go_sem,mkF,mkR,upd,vY,cond_true,cond_false,if_true,Bool.false_eq_true,if_false,hbk,G])
     all_goals (refine named_fit (x:=u) (zj [] ?_ ?_) <;> (simp only [go_sem,mkF,mkR,upd,vY,cond_true,cond_false,if_true,Bool.false_eq_true,if_false,hbk,G]))
   · skip
     have H:=upT hdn hde [3] (by decide +kernel)
     have G:=dnT hdn hbk [5,10] (by decide +kernel)
     simp only [allB,and_true] at H G
     (simp only [go_sem,mkF,mkR,upd,vY,cond_true,cond_false,if_true,Bool.false_eq_true,if_false,hbk,H,G])
     all_goals (refine named_fit (x:=u) (zj [] ?_ ?_) <;> (simp only [go_sem,mkF,mkR,upd,vY,cond_true,cond_false,if_true,Bool.false_eq_true,if_false,hbk,H,G]))
   · skip
     have H:=upT hdn hde [2,2,4,0,1,3] (by decide +kernel)
     have G:=dnT hdn hbk [10] (by decide +kernel)
     simp only [allB,and_true] at H G
     (simp only [go_sem,mkF,mkR,upd,vY,cond_true,cond_false,if_true,Bool.false_eq_true,if_false,hbk,H,G])
     all_goals (refine xcall_new hfr [(8,30)] rfl (by rfl) (by rfl) (by rfl) (by rfl) (by rfl) ?_)
     all_goals (simp only [go_sem,idK,backA,backC,backL,back_tA,pinOf,zLk])
     all_goals (refine named_name 14 (by rfl) (by rfl) fun u=>?_)
     all_goals (refine zj [] ?_ ?_ <;> (simp only [go_sem,mkF,mkR,upd,vY,cond_true,cond_false,if_true,Bool.false_eq_true,if_false,hbk,H,G]))
   · skip
     have G:=dnT hdn hbk [7,10] (by decide +kernel)
     simp only [allB,and_true] at G
     cases g5 : b 5
     all_goals (simp only [go_sem,mkF,mkR,upd,vY,cond_true,cond_false,if_true,Bool.false_eq_true,if_false,hbk,G,g5])
     all_goals (refine named_fit (x:=u) (zj [] ?_ ?_) <;> (simp only [go_sem,mkF,mkR,upd,vY,cond_true,cond_false,if_true,Bool.false_eq_true,if_false,hbk,G,g5]))
   · skip
     have H:=upT hdn hde [6] (by decide +kernel)
     have G:=dnT hdn hbk [10] (by decide +kernel)
     simp only [allB,and_true] at H G
     cases g5 : b 5
     all_goals (simp only [go_sem,mkF,mkR,upd,vY,cond_true,cond_false,if_true,Bool.false_eq_true,if_false,hbk,H,G,g5])
     all_goals (refine named_fit (x:=u) (zj [] ?_ ?_) <;> (simp only [go_sem,mkF,mkR,upd,vY,cond_true,cond_false,if_true,Bool.false_eq_true,if_false,hbk,H,G,g5]))
   · skip
     have G:=dnT hdn hbk [9,10] (by decide +kernel)
     simp only [allB,and_true] at G
     cases g5 : b 5
     all_goals (simp only [go_sem,mkF,mkR,upd,vY,cond_true,cond_false,if_true,Bool.false_eq_true,if_false,hbk,G,g5])
     all_goals (refine named_fit (x:=u) (zj [] ?_ ?_) <;> (simp only [go_sem,mkF,mkR,upd,vY,cond_true,cond_false,if_true,Bool.false_eq_true,if_false,hbk,G,g5]))
   · skip
     have H:=upT hdn hde [8] (by decide +kernel)
     have G:=dnT hdn hbk [10] (by decide +kernel)
     simp only [allB,and_true] at H G
     cases g5 : b 5
     all_goals (simp only [go_sem,mkF,mkR,upd,vY,cond_true,cond_false,if_true,Bool.false_eq_true,if_false,hbk,H,G,g5])
     all_goals (refine named_fit (x:=u) (zj [] ?_ ?_) <;> (simp only [go_sem,mkF,mkR,upd,vY,cond_true,cond_false,if_true,Bool.false_eq_true,if_false,hbk,H,G,g5]))
   · skip
     have H:=upT hdn hde [5,5,7,9,2,4,6,8,0,1,3] (by decide +kernel)
     simp only [allB,and_true] at H
     (simp only [go_sem,mkF,mkR,upd,vY,cond_true,cond_false,if_true,Bool.false_eq_true,if_false,hbk,H])
     all_goals (refine zh (means_ok u left k) rfl (by simp only [go_sem,i64,ints]) (by simp only [go_sem,i64,ints]) ?_)
     all_goals (simp only [go_sem,mkF,mkR,vY,cond_true,cond_false,if_true,Bool.false_eq_true,if_false,hbk,H])
     all_goals (refine named_fit (x:=u) (zj [] ?_ ?_) <;> (simp only [go_sem,mkF,mkR,upd,vY,cond_true,cond_false,if_true,Bool.false_eq_true,if_false,hbk,H]))
 intro u b vs hb
 simp only [go_sem,mkF,mkR,vY,hb,if_true,cond_true,List.cons_append,List.nil_append];refine zw (sub_ownB 6 0 25 3 1 (by omega) (by omega) rfl (by rfl)) ?_
 try simp only [go_sem]
 apply zw (zk [14,6,19]);simp only [go_sem]
 repeat apply zq
 apply zd
 refine Eq.mp (congrArg (fun z=>awp _ _ _ _ (Go.Oc.st 27 _ _ [_,_,(30,RowC.box z)])) (visR_A r s T st K0)) ?_
 have hlen : (enumM A.1).length = A.1.length:=by simp [enumM]
 refine awp_rangeG (n:=27) (t:=19) hC 30 14 u (by omega) (by omega) (visR r s T st K0) (visR r s T st A.2) (enumM A.1) (hJ u) [6,19] (by decide) (by decide) (by decide)
  (fun vs=>[(6,.pt 6 (vs 6) 0),(19,.r (.fn 130 (capM u left k)))])
  (fun i vs=>[(6,.box [.os 25 (vs 25) 1 0 i]),(25,.arr 3 1 (arrV (A.1.take i)))]) (fun i=>i ≤ A.1.length) (upd vs 25 (vs 25 + 1)) (Nat.zero_le _) ?_ ?_ ?_ (fun _=>rfl) ?_ (fun _ _=>rfl) ?_ ?_ ?_ ?_
 · rfl
 · rfl
 · rfl
 · rfl
 · decide
 · intro e he
   obtain ⟨i,hi⟩:=List.getElem?_of_mem he
   simp only [enumM,List.getElem?_mapIdx,Option.map_eq_some_iff] at hi
   obtain ⟨a,_,rfl⟩:=hi
   rfl
 · intro i e vs us C' he hi
   obtain ⟨x,hn⟩ : ∃ x,A.1[i]? = some x:=by
    simp only [enumM,List.getElem?_mapIdx,Option.map_eq_some_iff] at he
    obtain ⟨a,ha,_⟩:=he
    exact ⟨a,ha⟩
   have he' : e = [i64 (i : Int),i64 x]:=by
    simp only [enumM,List.getElem?_mapIdx,hn,Option.map_some,Option.some.injEq] at he
    exact he.symm
   subst he'
   have hil : i < A.1.length:=(List.getElem?_eq_some_iff.1 hn).1
   have hsn : A.1.take (i + 1) = A.1.take i ++ [x]:=zto hn
   have hil2 : (A.1.take i).length = i:=by rw [List.length_take];omega
   rw [hsn]
   generalize A.1.take i = B at *
   repeat apply zq
   refine zb fun K hK=>?_;simp only [go_sem];(try simp (disch:=omega) only [zI]);repeat first | intro _ | refine ⟨by omega,?_⟩
   apply hK
   refine ⟨rfl,fun C''=>?_⟩
   apply zw (zk [6,8,19]);simp only [go_sem]
   repeat apply zq
   apply zd
   repeat apply zq
   refine zb fun K hK=>?_;simp only [go_sem,hil2,List.length_map];(try simp (disch:=omega) only [zI]);repeat first | intro _ | refine ⟨by omega,?_⟩
   apply hK
   try simp only [go_sem]
   refine ⟨by omega,?_⟩
   refine zj (F:=fun _=>[]) [] ?_ ?_
   · try simp only [go_sem]
   · try simp only [go_sem]
     simp
 · intro vs us hi
   rw [hlen,List.take_length]
   have htk : (arrV A.1).take A.1.length = arrV A.1:=List.take_of_length_le (by simp)
   try simp only [go_sem]
   refine zw (sub_wake rfl) ?_;apply zw (zk [6]);simp only [go_sem]
   repeat apply zq
   refine zb fun K hK=>?_;simp only [go_sem];(try simp (disch:=omega) only [zI]);repeat first | intro _ | refine ⟨by omega,?_⟩
   apply hK;apply zw (zk [6]);simp only [go_sem];apply ze;simp only [go_sem]
end Go.Proofs.Ytgfbenanljjgaaa.Du.Th.Ai.At

namespace Go.Proofs.Ytgfbenanljjgaaa.Du.Th.Ai
open Go Go.Oc
set_option maxRecDepth 8000
set_option maxHeartbeats 8000000
structure Ps where
 st : Int
 left : Int
 darts : Int
abbrev psR (p : Ps) : RV:=.ag [i64 p.st,i64 p.left,i64 p.darts]
def posOk (r : Rk) (p : Ps) : Bool:=decide ((lowG r.out ≤ p.st ∧ p.st ≤ r.start) ∧ (lowG r.out ≤ p.left ∧ p.left ≤ p.st) ∧ (1 ≤ p.darts ∧ p.darts ≤ 3) ∧ (p.darts < 3 ∨ p.left = p.st))
theorem isPos_ok (r : Rk) (p : Ps) : ACalls Try.prog 95 [rkR r,psR p] (.bo (posOk r p)):=by
 have hlow:=alow_ok r.out
 have ha:=awithin_ok (lowG r.out) r.start [p.st]
 have hb:=awithin_ok (lowG r.out) p.st [p.left]
 have hd:=awithin_ok 1 3 [p.darts]
 have ea : withinL (lowG r.out) r.start [p.st] = decide (lowG r.out ≤ p.st ∧ p.st ≤ r.start):=by simp [withinL]
 have eb : withinL (lowG r.out) p.st [p.left] = decide (lowG r.out ≤ p.left ∧ p.left ≤ p.st):=by simp [withinL]
 have ed : withinL 1 3 [p.darts] = decide (1 ≤ p.darts ∧ p.darts ≤ 3):=by simp [withinL]
 rw [ea] at ha
 rw [eb] at hb
 rw [ed] at hd
 unfold posOk
 refine zas (rs:=[.bo (decide ((lowG r.out ≤ p.st ∧ p.st ≤ r.start) ∧ (lowG r.out ≤ p.left ∧ p.left ≤ p.st) ∧ (1 ≤ p.darts ∧ p.darts ≤ 3) ∧ (p.darts < 3 ∨ p.left = p.st)))]) [.tmp 4] Try.func95 rfl (by kernel_rfl) Try.ntmps95 rfl (by simp) rfl fun C vs=>?_
 repeat apply zq
 refine zb fun K hK=>?_;simp only [go_sem];(try simp (disch:=omega) only [zI]);repeat first | intro _ | refine ⟨by omega,?_⟩
 apply hK;refine zw (zfP 2 2 [i64 r.d,aimsR r.aims,i64 r.start,i64 r.out] (by omega) rfl rfl) ?_;refine zw (zfP 3 3 [i64 p.st,i64 p.left,i64 p.darts] (by omega) rfl rfl) ?_;apply zw (zk [2,3]);simp only [go_sem]
 repeat apply zq
 refine zb fun K hK=>?_;simp only [go_sem];(try simp (disch:=omega) only [zI])
 refine zh (hlow) rfl (by simp only [go_sem,i64,ints]) (by simp only [go_sem,i64,ints]) ?_
 (try simp only [go_sem]);(try simp (disch:=omega) only [zI]);repeat first | intro _ | refine ⟨by omega,?_⟩
 apply hK;apply zw (zk [2,3,5]);simp only [go_sem]
 by_cases h1 : lowG r.out ≤ p.st ∧ p.st ≤ r.start
 · rw [decide_eq_true h1] at ha
   by_cases h2 : lowG r.out ≤ p.left ∧ p.left ≤ p.st
   · rw [decide_eq_true h2] at hb
     by_cases h3 : 1 ≤ p.darts ∧ p.darts ≤ 3
     · rw [decide_eq_true h3] at hd
       by_cases h4 : p.darts < 3
       · have e4 : decide (p.darts < 3) = true:=by simpa using h4
         repeat apply zq
         refine zb fun K hK=>?_;simp only [go_sem,e4];(try simp (disch:=omega) only [zI])
         refine zh (ha) rfl (by simp only [go_sem,i64,ints,e4]) (by simp only [go_sem,i64,ints,e4]) ?_
         (try simp only [go_sem,e4]);(try simp (disch:=omega) only [zI])
         refine zh (hb) rfl (by simp only [go_sem,i64,ints,e4]) (by simp only [go_sem,i64,ints,e4]) ?_
         (try simp only [go_sem,e4]);(try simp (disch:=omega) only [zI])
         refine zh (hd) rfl (by simp only [go_sem,i64,ints,e4]) (by simp only [go_sem,i64,ints,e4]) ?_
         (try simp only [go_sem,e4]);(try simp (disch:=omega) only [zI]);repeat first | intro _ | refine ⟨by omega,?_⟩
         apply hK;apply zw (zk [4]);simp only [go_sem];apply ze;simp only [go_sem]
         simp [h1,h2,h3,h4]
       · have e4 : decide (p.darts < 3) = false:=by simpa using h4
         repeat apply zq
         refine zb fun K hK=>?_;simp only [go_sem,e4];(try simp (disch:=omega) only [zI])
         refine zh (ha) rfl (by simp only [go_sem,i64,ints,e4]) (by simp only [go_sem,i64,ints,e4]) ?_
         (try simp only [go_sem,e4]);(try simp (disch:=omega) only [zI])
         refine zh (hb) rfl (by simp only [go_sem,i64,ints,e4]) (by simp only [go_sem,i64,ints,e4]) ?_
         (try simp only [go_sem,e4]);(try simp (disch:=omega) only [zI])
         refine zh (hd) rfl (by simp only [go_sem,i64,ints,e4]) (by simp only [go_sem,i64,ints,e4]) ?_
         (try simp only [go_sem,e4]);(try simp (disch:=omega) only [zI]);repeat first | intro _ | refine ⟨by omega,?_⟩
         apply hK;apply zw (zk [4]);simp only [go_sem];apply ze;simp only [go_sem];rw [Bool.eq_iff_iff]
         simp [h1,h2,h3,h4]
     · rw [decide_eq_false h3] at hd
       repeat apply zq
       refine zb fun K hK=>?_;simp only [go_sem];(try simp (disch:=omega) only [zI])
       refine zh (ha) rfl (by simp only [go_sem,i64,ints]) (by simp only [go_sem,i64,ints]) ?_
       (try simp only [go_sem]);(try simp (disch:=omega) only [zI])
       refine zh (hb) rfl (by simp only [go_sem,i64,ints]) (by simp only [go_sem,i64,ints]) ?_
       (try simp only [go_sem]);(try simp (disch:=omega) only [zI])
       refine zh (hd) rfl (by simp only [go_sem,i64,ints]) (by simp only [go_sem,i64,ints]) ?_
       (try simp only [go_sem]);(try simp (disch:=omega) only [zI]);repeat first | intro _ | refine ⟨by omega,?_⟩
       apply hK;apply zw (zk [4]);simp only [go_sem];apply ze;simp only [go_sem]
       simp [h3]
   · rw [decide_eq_false h2] at hb
     repeat apply zq
     refine zb fun K hK=>?_;simp only [go_sem];(try simp (disch:=omega) only [zI])
     refine zh (ha) rfl (by simp only [go_sem,i64,ints]) (by simp only [go_sem,i64,ints]) ?_
     (try simp only [go_sem]);(try simp (disch:=omega) only [zI])
     refine zh (hb) rfl (by simp only [go_sem,i64,ints]) (by simp only [go_sem,i64,ints]) ?_
     (try simp only [go_sem]);(try simp (disch:=omega) only [zI]);repeat first | intro _ | refine ⟨by omega,?_⟩
     apply hK;apply zw (zk [4]);simp only [go_sem];apply ze;simp only [go_sem]
     simp [h2]
 · rw [decide_eq_false h1] at ha
   repeat apply zq
   refine zb fun K hK=>?_;simp only [go_sem];(try simp (disch:=omega) only [zI])
   refine zh (ha) rfl (by simp only [go_sem,i64,ints]) (by simp only [go_sem,i64,ints]) ?_
   (try simp only [go_sem]);(try simp (disch:=omega) only [zI]);repeat first | intro _ | refine ⟨by omega,?_⟩
   apply hK;apply zw (zk [4]);simp only [go_sem];apply ze;simp only [go_sem]
   simp [h1]
def openR (r : Rk) (p : Ps) : Int:=if checkR r = 0 then (if posOk r p = true then 0 else 2) else checkR r
theorem open_ok (r : Rk) (p : Ps) (hw : WfL r.d r.aims) : ACalls Try.prog 60 [rkR r,psR p] (i64 (openR r p)):=by
 have hch:=acheck_ok r hw
 have hp:=isPos_ok r p
 unfold openR
 refine zas (rs:=[i64 (if checkR r = 0 then (if posOk r p = true then 0 else 2) else checkR r)]) [.tmp 4] Try.func60 rfl (by kernel_rfl) Try.ntmps60 rfl (by simp) rfl fun C vs=>?_
 repeat apply zq
 refine zb fun K hK=>?_;simp only [go_sem];(try simp (disch:=omega) only [zI]);repeat first | intro _ | refine ⟨by omega,?_⟩
 apply hK;refine zw (zfP 2 2 [i64 r.d,aimsR r.aims,i64 r.start,i64 r.out] (by omega) rfl rfl) ?_;refine zw (zfP 3 3 [i64 p.st,i64 p.left,i64 p.darts] (by omega) rfl rfl) ?_;apply zw (zk [2,3]);simp only [go_sem]
 repeat apply zq
 refine zb fun K hK=>?_;simp only [go_sem];(try simp (disch:=omega) only [zI])
 refine zh (hch) rfl (by simp only [go_sem,i64,ints]) (by simp only [go_sem,i64,ints]) ?_
 (try simp only [go_sem]);(try simp (disch:=omega) only [zI]);repeat first | intro _ | refine ⟨by omega,?_⟩
 apply hK;apply zw (zk [2,3,5]);simp only [go_sem]
 by_cases h0 : checkR r = 0
 · have e0 : (checkR r == 0) = true:=by simpa using h0
   rw [if_pos h0]
   cases hP : posOk r p
   · rw [hP] at hp
     repeat apply zq
     refine zb fun K hK=>?_;simp only [go_sem,e0];(try simp (disch:=omega) only [zI])
     refine zh (hp) rfl (by simp only [go_sem,i64,ints]) (by simp only [go_sem,i64,ints]) ?_
     (try simp only [go_sem]);(try simp (disch:=omega) only [zI]);repeat first | intro _ | refine ⟨by omega,?_⟩
     apply hK;apply zw (zk [5,15]);simp only [go_sem]
     repeat apply zq
     apply zc rfl <;> intro hc <;> (try simp only [go_sem] at hc)
     repeat apply zq
     refine zb fun K hK=>?_;simp only [go_sem];(try simp (disch:=omega) only [zI]);repeat first | intro _ | refine ⟨by omega,?_⟩
     apply hK;apply zw (zk [5]);simp only [go_sem]
     repeat apply zq
     refine zb fun K hK=>?_;simp only [go_sem];(try simp (disch:=omega) only [zI]);repeat first | intro _ | refine ⟨by omega,?_⟩
     apply hK;apply zw (zk [4]);simp only [go_sem];apply ze;simp only [go_sem]
   · rw [hP] at hp
     repeat apply zq
     refine zb fun K hK=>?_;simp only [go_sem,e0];(try simp (disch:=omega) only [zI])
     refine zh (hp) rfl (by simp only [go_sem,i64,ints]) (by simp only [go_sem,i64,ints]) ?_
     (try simp only [go_sem]);(try simp (disch:=omega) only [zI]);repeat first | intro _ | refine ⟨by omega,?_⟩
     apply hK;apply zw (zk [5,15]);simp only [go_sem]
     repeat apply zq
     apply zc rfl <;> intro hc <;> (try simp only [go_sem] at hc)
     apply zx
     try simp only [go_sem]
     repeat apply zq
     refine zb fun K hK=>?_;simp only [go_sem];(try simp (disch:=omega) only [zI]);repeat first | intro _ | refine ⟨by omega,?_⟩
     apply hK;apply zw (zk [4]);simp only [go_sem];apply ze;simp only [go_sem]
     simp [h0]
 · have e0 : (checkR r == 0) = false:=by simpa using h0
   rw [if_neg h0]
   repeat apply zq
   refine zb fun K hK=>?_;simp only [go_sem,e0];(try simp (disch:=omega) only [zI]);repeat first | intro _ | refine ⟨by omega,?_⟩
   apply hK;apply zw (zk [5,15]);simp only [go_sem]
   repeat apply zq
   apply zc rfl <;> intro hc <;> (try simp only [go_sem] at hc)
   apply zx
   try simp only [go_sem]
   repeat apply zq
   refine zb fun K hK=>?_;simp only [go_sem];(try simp (disch:=omega) only [zI]);repeat first | intro _ | refine ⟨by omega,?_⟩
   apply hK;apply zw (zk [4]);simp only [go_sem];apply ze;simp only [go_sem]
theorem min_ok (x : Int) (l : List Int) (hl : l.length ≤ 1000) : ACalls Try.prog 62 [ints (x :: l)] (i64 (l.foldl min x)):=by
 refine zas (rs:=[i64 (l.foldl min x)]) [.tmp 2] Try.func62 rfl (by kernel_rfl) Try.ntmps62 rfl (by simp) rfl fun C vs=>?_
 repeat apply zq
 refine zb fun K hK=>?_;simp only [go_sem];(try simp (disch:=omega) only [zI]);repeat first | intro _ | refine ⟨by omega,?_⟩
 apply hK;apply zw (zk [0]);simp only [go_sem]
 have e0 : decide ((l.length : Int) + 1 < 1) = false:=by simp;omega
 repeat apply zq
 refine zb fun K hK=>?_;simp only [go_sem,List.length_map,e0];(try simp (disch:=omega) only [zI]);repeat first | intro _ | refine ⟨by omega,?_⟩
 apply hK;apply zw (zk [0,7]);simp only [go_sem]
 repeat apply zq
 apply zc rfl <;> intro hc <;> (try simp only [go_sem] at hc)
 apply zx
 try simp only [go_sem]
 repeat apply zq
 refine zb fun K hK=>?_;simp only [go_sem,List.length_map];(try simp (disch:=omega) only [zI]);repeat first | intro _ | refine ⟨by omega,?_⟩
 apply hK;apply zw (zk [0,3]);simp only [go_sem]
 repeat apply zq
 refine zb fun K hK=>?_;simp only [go_sem];(try simp (disch:=omega) only [zI]);repeat first | intro _ | refine ⟨by omega,?_⟩
 apply hK;apply zw (zk [0,3,4]);simp only [go_sem]
 repeat apply zq
 apply zd
 refine zup (n:=25) l.length (fun i vs=>[(0,.r (ints (x :: l))),(3,.r (i64 ((l.take i).foldl min x))),(4,.r (i64 ((i : Int) + 1)))]) (fun _=>[]) (fun _=>True) 0 (zfo [] ?_ ?_) (Nat.zero_le _) trivial ?_
 · try simp only [go_sem]
   try simp
 · try simp only [go_sem]
 intro i vs hi _
 by_cases hc0 : i < l.length
 · obtain ⟨y,hy⟩:=zol hc0
   have hsn : (l.take (i + 1)).foldl min x = min ((l.take i).foldl min x) y:=by rw [zto hy,List.foldl_append];rfl
   have e1 : decide ((i : Int) + 1 < (l.length : Int) + 1) = true:=by simp;omega
   repeat apply zq
   refine zb fun K hK=>?_;simp only [go_sem,e1,List.length_map,hc0];(try simp (disch:=omega) only [zI]);repeat first | intro _ | refine ⟨by omega,?_⟩
   apply hK;apply zw (zk [0,3,4,15]);simp only [go_sem]
   repeat apply zq
   apply zc rfl <;> intro hc <;> (try simp only [go_sem] at hc)
   apply zx
   try simp only [go_sem]
   repeat apply zq
   apply zd
   repeat apply zq
   refine zb fun K hK=>?_;simp only [go_sem,hy,hc0,List.length_map,List.length_cons,List.getElem?_cons_succ];(try simp (disch:=omega) only [zI]);repeat first | intro _ | refine ⟨by omega,?_⟩
   apply hK;apply zw (zk [0,3,4]);simp only [go_sem]
   have w1 : IntKind.i64.wrap ((i : Int) + 1 + 1) = (i : Int) + 1 + 1:=by rw [zI] <;> omega
   repeat apply zq
   refine zb fun K hK=>?_;simp only [go_sem,w1];(try simp (disch:=omega) only [zI]);repeat first | intro _ | refine ⟨by omega,?_⟩
   apply hK
   try simp only [go_sem]
   refine ⟨hc0,zfo [] ?_ ?_⟩
   · simp only [go_sem,hsn]
   · try simp only [go_sem]
 · have hie : i = l.length:=by omega
   subst hie
   have e1 : decide ((l.length : Int) + 1 < (l.length : Int) + 1) = false:=by simp
   repeat apply zq
   refine zb fun K hK=>?_;simp only [go_sem,e1,List.length_map];(try simp (disch:=omega) only [zI]);repeat first | intro _ | refine ⟨by omega,?_⟩
   apply hK;apply zw (zk [0,3,4,15]);simp only [go_sem]
   repeat apply zq
   apply zc rfl <;> intro hc <;> (try simp only [go_sem] at hc)
   apply zf;simp only [go_sem]
   repeat apply zq
   refine zb fun K hK=>?_;simp only [go_sem];(try simp (disch:=omega) only [zI]);repeat first | intro _ | refine ⟨by omega,?_⟩
   apply hK;apply zw (zk [2]);simp only [go_sem];apply ze;simp only [go_sem]
   simp
def atI (v : Int) : List Int → Nat → Int
 | [],_=>-1
 | x :: l,i=>if v = x then i else atI v l (i + 1)
theorem atI_step (v : Int) : ∀ (l : List Int) (i : Nat),(∀ x ∈ l.take i,v ≠ x) → atI v l 0 = atI v (l.drop i) i
 | l,0,_=>rfl
 | [],i + 1,_=>by simp [atI]
 | y :: l, i + 1, h => by
   have gen : ∀ (l : List Int) (i k : Nat),(∀ x ∈ l.take i,v ≠ x) → atI v l k = atI v (l.drop i) (k + i):=by
    intro l
    induction l with
    | nil=>intro i k _;simp [atI]
    | cons z l ih =>
      intro i k hz
      cases i with
      | zero=>rfl
      | succ i =>
        have h0:=hz z (by simp)
        rw [atI,if_neg h0,ih i (k + 1) (fun x hx=>hz x (by simp [hx]))]
        simp only [List.drop_succ_cons]
        congr 1;omega
   have:=gen (y :: l) (i + 1) 0 h
   rwa [Nat.zero_add] at this
theorem index_ok (v : Int) (l : List Int) (hl : l.length ≤ 1000) : ACalls Try.prog 63 [ints l,i64 v] (i64 (atI v l 0)):=by
 refine zas (rs:=[i64 (atI v l 0)]) [.tmp 4] Try.func63 rfl (by kernel_rfl) Try.ntmps63 rfl (by simp) rfl fun C vs=>?_
 repeat apply zq
 refine zb fun K hK=>?_;simp only [go_sem];(try simp (disch:=omega) only [zI]);repeat first | intro _ | refine ⟨by omega,?_⟩
 apply hK;apply zw (zk [0,1]);simp only [go_sem]
 repeat apply zq
 refine zb fun K hK=>?_;simp only [go_sem,List.length_map];(try simp (disch:=omega) only [zI]);repeat first | intro _ | refine ⟨by omega,?_⟩
 apply hK;apply zw (zk [0,1,7,8]);simp only [go_sem]
 repeat apply zq
 apply zd
 refine zup (n:=19) l.length (fun i vs=>[(0,.r (ints l)),(1,.r (i64 v)),(7,.r (i64 l.length)),(8,.r (i64 (i : Int)))]) (fun _=>[]) (fun i=>∀ x ∈ l.take i,v ≠ x) 0 (zfo [] ?_ ?_) (Nat.zero_le _) (by simp) ?_
 · try simp only [go_sem]
 · try simp only [go_sem]
 intro i vs hi hI
 by_cases hc0 : i < l.length
 · obtain ⟨y,hy⟩:=zol hc0
   have hst:=atI_step v l i hI
   rw [drop_of_opt hy] at hst
   repeat apply zq
   refine zb fun K hK=>?_;simp only [go_sem,hc0];(try simp (disch:=omega) only [zI]);repeat first | intro _ | refine ⟨by omega,?_⟩
   apply hK;apply zw (zk [0,1,7,8,9]);simp only [go_sem]
   repeat apply zq
   apply zc rfl <;> intro hc <;> (try simp only [go_sem] at hc)
   apply zx
   try simp only [go_sem]
   repeat apply zq
   apply zd
   repeat apply zq
   refine zb fun K hK=>?_;simp only [go_sem];(try simp (disch:=omega) only [zI]);repeat first | intro _ | refine ⟨by omega,?_⟩
   apply hK;apply zw (zk [0,1,5,7,8]);simp only [go_sem]
   repeat apply zq
   refine zb fun K hK=>?_;simp only [go_sem,hy,hc0,List.length_map];(try simp (disch:=omega) only [zI]);repeat first | intro _ | refine ⟨by omega,?_⟩
   apply hK;apply zw (zk [0,1,5,7,8,16]);simp only [go_sem]
   by_cases hvy : v = y
   · have e1 : (v == y) = true:=by simpa using hvy
     rw [e1]
     repeat apply zq
     apply zc rfl <;> intro hc <;> (try simp only [go_sem] at hc)
     repeat apply zq
     refine zb fun K hK=>?_;simp only [go_sem];(try simp (disch:=omega) only [zI]);repeat first | intro _ | refine ⟨by omega,?_⟩
     apply hK;apply zw (zk [4]);simp only [go_sem];apply ze;simp only [go_sem];rw [hst,atI,if_pos hvy]
   · have e1 : (v == y) = false:=by simpa using hvy
     rw [e1]
     repeat apply zq
     apply zc rfl <;> intro hc <;> (try simp only [go_sem] at hc)
     apply zx
     try simp only [go_sem]
     repeat apply zq
     refine zb fun K hK=>?_;simp only [go_sem];(try simp (disch:=omega) only [zI]);repeat first | intro _ | refine ⟨by omega,?_⟩
     apply hK
     try simp only [go_sem]
     refine ⟨hc0,?_,zfo [] ?_ ?_⟩
     · intro x hx
       rw [zto hy] at hx
       rcases List.mem_append.1 hx with hx | hx
       · exact hI x hx
       · simp at hx;subst hx;exact hvy
     · try simp only [go_sem]
     · try simp only [go_sem]
 · have hie : i = l.length:=by omega
   subst hie
   have hst:=atI_step v l l.length hI
   rw [List.drop_length] at hst
   repeat apply zq
   refine zb fun K hK=>?_;simp only [go_sem,Nat.lt_irrefl];(try simp (disch:=omega) only [zI]);repeat first | intro _ | refine ⟨by omega,?_⟩
   apply hK;apply zw (zk [0,1,7,8,9]);simp only [go_sem]
   repeat apply zq
   apply zc rfl <;> intro hc <;> (try simp only [go_sem] at hc)
   apply zf;simp only [go_sem]
   repeat apply zq
   refine zb fun K hK=>?_;simp only [go_sem];(try simp (disch:=omega) only [zI]);repeat first | intro _ | refine ⟨by omega,?_⟩
   apply hK;apply zw (zk [4]);simp only [go_sem];apply ze;simp only [go_sem]
   rw [hst];rfl
def aimL (l : List Int) : Int × Int × Int:=if leastA l = 2000000000 then (0,0,7) else (atI (leastA l) l 0,leastA l,0)
def aimQ (r : Rk) (p : Ps) : Int × Int × Int:=if openR r p = 0 then aimL (At.atV r false (tabT r false) p.st.toNat p.left.toNat (p.darts - 1).toNat) else (0,0,openR r p)
theorem openR_zero {r : Rk} {p : Ps} (h : openR r p = 0) : ROk r ∧ posOk r p = true:=by
 unfold openR at h
 by_cases h0 : checkR r = 0
 · rw [if_pos h0] at h
   refine ⟨(checkR_zero h0).2,?_⟩
   cases hp : posOk r p
   · rw [hp] at h;simp at h
   · rfl
 · rw [if_neg h0] at h;exact (h0 h).elim
theorem aim_ok (r : Rk) (p : Ps) (hw : WfL r.d r.aims) : ACalls Try.prog 26 [rkR r,psR p] (.tu [i64 (aimQ r p).1,i64 (aimQ r p).2.1,i64 (aimQ r p).2.2]):=by
 have hop:=open_ok r p hw
 refine zas (rs:=[i64 (aimQ r p).1,i64 (aimQ r p).2.1,i64 (aimQ r p).2.2]) [.tmp 4,.tmp 5,.tmp 6] Try.func26 rfl (by kernel_rfl) Try.ntmps26 rfl (by simp) rfl fun C vs=>?_
 repeat apply zq
 refine zb fun K hK=>?_;simp only [go_sem];(try simp (disch:=omega) only [zI]);repeat first | intro _ | refine ⟨by omega,?_⟩
 apply hK;refine zw (zfP 2 2 [i64 r.d,aimsR r.aims,i64 r.start,i64 r.out] (by omega) rfl rfl) ?_;refine zw (zfP 3 3 [i64 p.st,i64 p.left,i64 p.darts] (by omega) rfl rfl) ?_;apply zw (zk [2,3]);simp only [go_sem]
 repeat apply zq
 refine zb fun K hK=>?_;simp only [go_sem];(try simp (disch:=omega) only [zI])
 refine zh (hop) rfl (by simp only [go_sem,i64,ints]) (by simp only [go_sem,i64,ints]) ?_
 (try simp only [go_sem]);(try simp (disch:=omega) only [zI]);repeat first | intro _ | refine ⟨by omega,?_⟩
 apply hK;apply zw (zk [2,3,7]);simp only [go_sem]
 repeat apply zq
 refine zb fun K hK=>?_;simp only [go_sem];(try simp (disch:=omega) only [zI]);repeat first | intro _ | refine ⟨by omega,?_⟩
 apply hK;apply zw (zk [2,3,7,13]);simp only [go_sem]
 by_cases h0 : openR r p = 0
 · have e0 : (openR r p != 0) = false:=by simp [h0]
   have hA : aimQ r p = aimL (At.atV r false (tabT r false) p.st.toNat p.left.toNat (p.darts - 1).toNat):=by unfold aimQ;rw [if_pos h0]
   obtain ⟨hr,hp⟩:=openR_zero h0
   simp only [posOk,decide_eq_true_eq] at hp
   have hlg:=lowG_le r.out
   have hrs:=hr.start
   have hat:=At.at_ok hr false p.st.toNat p.left.toNat (p.darts - 1).toNat (by omega) (by omega) (by omega) (by omega)
   have g1 : ((p.st.toNat : Nat) : Int) = p.st:=by omega
   have g2 : ((p.left.toNat : Nat) : Int) = p.left:=by omega
   have g3 : (((p.darts - 1).toNat : Nat) : Int) + 1 = p.darts:=by omega
   rw [g1,g2,g3] at hat
   have hlen : (At.atV r false (tabT r false) p.st.toNat p.left.toNat (p.darts - 1).toNat).length = r.aims.length:=by simp [At.atV]
   have htt:=tab_eq hr false (cntA r) (Nat.le_refl _)
   have hLv : ∀ y ∈ At.atV r false (tabT r false) p.st.toNat p.left.toNat (p.darts - 1).toNat,VOk y:=fun y hy=>by
    obtain ⟨a,ha,rfl⟩:=List.mem_map.1 hy
    exact meanA_vok (getD_vok htt.2.2 _) (valA_vok hr htt.2.2 (getD_vok htt.2.2 _) _) (hr.aims a ha)
   rw [hA,e0]
   generalize At.atV r false (tabT r false) p.st.toNat p.left.toNat (p.darts - 1).toNat = L at *
   have hLl : L.length ≤ 20:=by rw [hlen];exact hr.len
   obtain ⟨x,L',rfl⟩ : ∃ x L',L = x :: L':=by
    cases L with
    | nil=>exact absurd (List.length_eq_zero_iff.1 hlen.symm) hr.ne
    | cons x L'=>exact ⟨x,L',rfl⟩
   have hmin:=min_ok x L' (by simp at hLl;omega)
   have hleast : leastA (x :: L') = min 2000000000 (L'.foldl min x):=by
    unfold leastA
    simp only [List.foldl_cons]
    have : ∀ (l : List Int) (a b : Int),l.foldl min (min a b) = min a (l.foldl min b):=by
     intro l
     induction l with
     | nil=>intro a b;rfl
     | cons y l ih=>intro a b;simp only [List.foldl_cons];rw [← ih];congr 1;omega
    exact this L' 2000000000 x
   repeat apply zq
   apply zc rfl <;> intro hc <;> (try simp only [go_sem] at hc)
   apply zx
   try simp only [go_sem]
   repeat apply zq
   refine zb fun K hK=>?_;simp only [go_sem];(try simp (disch:=omega) only [zI])
   refine zh (hat) rfl (by simp only [go_sem,i64,ints]) (by simp only [go_sem,i64,ints]) ?_
   (try simp only [go_sem]);(try simp (disch:=omega) only [zI]);repeat first | intro _ | refine ⟨by omega,?_⟩
   apply hK;apply zw (zk [8]);simp only [go_sem]
   repeat apply zq
   refine zb fun K hK=>?_;simp only [go_sem];(try simp (disch:=omega) only [zI])
   refine zh (hmin) rfl (by simp only [go_sem,i64,ints]) (by simp only [go_sem,i64,ints]) ?_
   (try simp only [go_sem]);(try simp (disch:=omega) only [zI]);repeat first | intro _ | refine ⟨by omega,?_⟩
   apply hK;apply zw (zk [5,8]);simp only [go_sem]
   have hx:=hLv x (by simp)
   have hfm:=foldl_min L' x
   have hm : leastA (x :: L') = L'.foldl min x:=by rw [hleast];unfold VOk at hx;omega
   have hix:=index_ok (leastA (x :: L')) (x :: L') (by omega)
   rw [← hm]
   unfold aimL
   generalize leastA (x :: L') = m at *
   repeat apply zq
   refine zb fun K hK=>?_;simp only [go_sem];(try simp (disch:=omega) only [zI]);repeat first | intro _ | refine ⟨by omega,?_⟩
   apply hK;apply zw (zk [5,8,21]);simp only [go_sem]
   by_cases hN : m = 2000000000
   · have eN : (m == 2000000000) = true:=by simpa using hN
     rw [eN,if_pos hN]
     repeat apply zq
     apply zc rfl <;> intro hc <;> (try simp only [go_sem] at hc)
     repeat apply zq
     refine zb fun K hK=>?_;simp only [go_sem];(try simp (disch:=omega) only [zI]);repeat first | intro _ | refine ⟨by omega,?_⟩
     apply hK;apply zw (zk [4,5,6]);simp only [go_sem];apply ze;simp only [go_sem]
   · have eN : (m == 2000000000) = false:=by simpa using hN
     rw [eN,if_neg hN]
     repeat apply zq
     apply zc rfl <;> intro hc <;> (try simp only [go_sem] at hc)
     apply zx
     try simp only [go_sem]
     repeat apply zq
     refine zb fun K hK=>?_;simp only [go_sem];(try simp (disch:=omega) only [zI])
     refine zh (hix) rfl (by simp only [go_sem,i64,ints]) (by simp only [go_sem,i64,ints]) ?_
     (try simp only [go_sem]);(try simp (disch:=omega) only [zI]);repeat first | intro _ | refine ⟨by omega,?_⟩
     apply hK;apply zw (zk [4,5,6]);simp only [go_sem];apply ze;simp only [go_sem]
 · have e0 : (openR r p != 0) = true:=by simpa using h0
   have hA : aimQ r p = (0,0,openR r p):=by unfold aimQ;rw [if_neg h0]
   rw [hA,e0]
   repeat apply zq
   apply zc rfl <;> intro hc <;> (try simp only [go_sem] at hc)
   repeat apply zq
   refine zb fun K hK=>?_;simp only [go_sem];(try simp (disch:=omega) only [zI]);repeat first | intro _ | refine ⟨by omega,?_⟩
   apply hK;apply zw (zk [4,5,6]);simp only [go_sem];apply ze;simp only [go_sem]
theorem atI_mem (v : Int) : ∀ (l : List Int) (k : Nat),v ∈ l → ∃ i,i < l.length ∧ atI v l k = ((k + i : Nat) : Int) ∧ l[i]? = some v
 | [],_,h=>by simp at h
 | x :: l, k, h => by
   by_cases hx : v = x
   · exact ⟨0,by simp,by unfold atI;rw [if_pos hx];simp,by simp [hx]⟩
   · have hm : v ∈ l:=by simpa [hx] using h
     obtain ⟨i,h1,h2,h3⟩:=atI_mem v l (k + 1) hm
     refine ⟨i + 1,by simp;omega,?_,by simpa using h3⟩
     unfold atI;rw [if_neg hx,h2];congr 1;omega
structure OthOk (n : Nat) (L : List (Int × Int)) (Y : List Int) (a w e : Int) : Prop where
 err : e = 0 ∨ e = 7
 len : L.length = n
 ne : 1 ≤ Y.length
 lenY : Y.length ≤ n
 found : e = 0 → a ∈ Y
 each : ∀ x ∈ L,0 ≤ x.1 ∧ x.1 ≤ x.2 ∧ (e = 0 → w ≤ x.2) ∧ (e ≠ 0 → x.2 = 2000000000)
 pos : e = 0 → ∃ (i : Nat) (x : Int),a = i ∧ i < L.length ∧ L[i]? = some (x,w)
set_option maxHeartbeats 8000000
theorem lwithin1_ok (n a b : Int) : ACalls Try.prog 107 [i64 n,.rp [i64 a],.rp [i64 b]] (.bo (decide (n < a) || decide (b < n))):=by
 refine zas (rs:=[.bo (decide (n < a) || decide (b < n))]) [.tmp 4] Try.func107 rfl (by kernel_rfl) Try.ntmps107 rfl (by simp) rfl fun C vs=>?_
 repeat apply zq
 refine zb fun K hK=>?_;simp only [go_sem];(try simp (disch:=omega) only [zI]);repeat first | intro _ | refine ⟨by omega,?_⟩
 apply hK
 repeat apply zq
 refine zb fun K hK=>?_;simp only [go_sem];(try simp (disch:=omega) only [zI])
 refine ⟨fun h=>?_,fun h=>?_⟩ <;>
 · repeat first | intro _ | refine ⟨by omega,?_⟩
   apply hK;apply ze;simp only [go_sem]
   try simp [h]
theorem lwithin_ok (a b : Int) (l : List Int) : ACalls Try.prog 79 [i64 a,i64 b,ints l] (.bo (withinL a b l)):=by
 refine zas (rs:=[.bo (withinL a b l)]) [.tmp 6] Try.func79 rfl (by kernel_rfl) Try.ntmps79 rfl (by simp) rfl fun C vs=>?_
 repeat apply zq
 refine zb fun K hK=>?_;simp only [go_sem];(try simp (disch:=omega) only [zI]);repeat first | intro _ | refine ⟨by omega,?_⟩
 apply hK
 repeat apply zq
 refine zb fun K hK=>?_;simp only [go_sem];(try simp (disch:=omega) only [zI])
 refine zh (contains_ok (fun n=>decide (n < a) || decide (b < n)) 107 [.rp [i64 a],.rp [i64 b]] l fun x _=>lwithin1_ok x a b) rfl (by simp only [go_sem,i64,ints]) (by simp only [go_sem,i64,ints]) ?_
 (try simp only [go_sem]);(try simp (disch:=omega) only [zI]);repeat first | intro _ | refine ⟨by omega,?_⟩
 apply hK;apply ze;simp only [go_sem];rw [← withinL_not]
theorem lfactor_ok (b : Int) (hb : 0 ≤ b ∧ b ≤ 499) : ACalls Try.prog 140 [.ag [i64 b]] (i64 (b / 100)):=by
 have e1 : Int.tdiv b 100 = b / 100:=Int.tdiv_eq_ediv_of_nonneg hb.1
 have w1 : IntKind.i64.wrap (b / 100) = b / 100:=by rw [zI] <;> omega
 refine zas (rs:=[i64 (b / 100)]) [.tmp 2] Try.func140 rfl (by kernel_rfl) Try.ntmps140 rfl (by simp) rfl fun C vs=>?_
 repeat apply zq
 refine zb fun K hK=>?_;simp only [go_sem];(try simp (disch:=omega) only [zI]);repeat first | intro _ | refine ⟨by omega,?_⟩
 apply hK;apply zw (zk [1]);simp only [go_sem]
 repeat apply zq
 refine zb fun K hK=>?_;simp only [go_sem,e1,w1];(try simp (disch:=omega) only [zI]);repeat first | intro _ | refine ⟨by omega,?_⟩
 repeat first | intro _ | refine ⟨by omega,?_⟩
 apply hK;apply zw (zk [2]);simp only [go_sem];apply ze;simp only [go_sem]
theorem lnumber_ok (b : Int) (hb : 0 ≤ b ∧ b ≤ 499) : ACalls Try.prog 141 [.ag [i64 b]] (i64 (b % 100)):=by
 have e1 : Int.tmod b 100 = b % 100:=Int.tmod_eq_emod_of_nonneg hb.1
 have w1 : IntKind.i64.wrap (b % 100) = b % 100:=by rw [zI] <;> omega
 refine zas (rs:=[i64 (b % 100)]) [.tmp 2] Try.func141 rfl (by kernel_rfl) Try.ntmps141 rfl (by simp) rfl fun C vs=>?_
 repeat apply zq
 refine zb fun K hK=>?_;simp only [go_sem];(try simp (disch:=omega) only [zI]);repeat first | intro _ | refine ⟨by omega,?_⟩
 apply hK;apply zw (zk [1]);simp only [go_sem]
 repeat apply zq
 refine zb fun K hK=>?_;simp only [go_sem,e1,w1];(try simp (disch:=omega) only [zI]);repeat first | intro _ | refine ⟨by omega,?_⟩
 repeat first | intro _ | refine ⟨by omega,?_⟩
 apply hK;apply zw (zk [2]);simp only [go_sem];apply ze;simp only [go_sem]
theorem lworth_ok (b : Int) (hb : 0 ≤ b ∧ b ≤ 499) : ACalls Try.prog 143 [.ag [i64 b]] (i64 (scoreOf b)):=by
 have hf:=lfactor_ok b hb
 have hn:=lnumber_ok b hb
 have h1 : 0 ≤ b / 100 ∧ b / 100 ≤ 4:=by omega
 have h2 : 0 ≤ b % 100 ∧ b % 100 ≤ 99:=by omega
 have h3:=Int.mul_nonneg h1.1 h2.1
 have h4:=Int.mul_le_mul h1.2 h2.2 h2.1 (show (0 : Int) ≤ 4 by omega)
 have w3 : IntKind.i64.wrap (b / 100 * (b % 100)) = b / 100 * (b % 100):=by rw [zI] <;> omega
 have hs : scoreOf b = b / 100 * (b % 100):=rfl
 rw [hs]
 refine zas (rs:=[i64 (b / 100 * (b % 100))]) [.tmp 2] Try.func143 rfl (by kernel_rfl) Try.ntmps143 rfl (by simp) rfl fun C vs=>?_
 repeat apply zq
 refine zb fun K hK=>?_;simp only [go_sem];(try simp (disch:=omega) only [zI]);repeat first | intro _ | refine ⟨by omega,?_⟩
 apply hK;refine zw (zfP 1 1 [i64 b] (by omega) rfl rfl) ?_;apply zw (zk [1]);simp only [go_sem]
 repeat apply zq
 refine zg follows (by decide +kernel) (by kernel_rfl) fun K hK=>?_;simp only [go_sem,w3];(try simp (disch:=omega) only [zI])
 refine zh (hf) rfl (by simp only [go_sem,i64,ints]) (by simp only [go_sem,i64,ints]) ?_
 (try simp only [go_sem]);(try simp (disch:=omega) only [zI])
 refine zh (hn) rfl (by simp only [go_sem,i64,ints,w3]) (by simp only [go_sem,i64,ints,w3]) ?_
 (try simp only [go_sem,w3]);(try simp (disch:=omega) only [zI]);repeat first | intro _ | refine ⟨by omega,?_⟩
 repeat first | intro _ | refine ⟨by omega,?_⟩
 apply hK;apply zw (zk [2]);simp only [go_sem];apply ze;simp only [go_sem]
theorem bindex_ok (v : Int) (l : List Int) (hl : l.length ≤ 1000) : ACalls Try.prog 156 [ints l,i64 v] (i64 (atI v l 0)):=by
 refine zas (rs:=[i64 (atI v l 0)]) [.tmp 4] Try.func156 rfl (by kernel_rfl) Try.ntmps156 rfl (by simp) rfl fun C vs=>?_
 repeat apply zq
 refine zb fun K hK=>?_;simp only [go_sem];(try simp (disch:=omega) only [zI]);repeat first | intro _ | refine ⟨by omega,?_⟩
 apply hK;apply zw (zk [0,1]);simp only [go_sem]
 repeat apply zq
 refine zb fun K hK=>?_;simp only [go_sem,List.length_map];(try simp (disch:=omega) only [zI]);repeat first | intro _ | refine ⟨by omega,?_⟩
 apply hK;apply zw (zk [0,1,7,8]);simp only [go_sem]
 repeat apply zq
 apply zd
 refine zup (n:=19) l.length (fun i vs=>[(0,.r (ints l)),(1,.r (i64 v)),(7,.r (i64 l.length)),(8,.r (i64 (i : Int)))]) (fun _=>[]) (fun i=>∀ x ∈ l.take i,v ≠ x) 0 (zfo [] ?_ ?_) (Nat.zero_le _) (by simp) ?_
 · try simp only [go_sem]
 · try simp only [go_sem]
 intro i vs hi hI
 by_cases hc0 : i < l.length
 · obtain ⟨y,hy⟩:=zol hc0
   have hst:=atI_step v l i hI
   rw [drop_of_opt hy] at hst
   repeat apply zq
   refine zb fun K hK=>?_;simp only [go_sem,hc0];(try simp (disch:=omega) only [zI]);repeat first | intro _ | refine ⟨by omega,?_⟩
   apply hK;apply zw (zk [0,1,7,8,9]);simp only [go_sem]
   repeat apply zq
   apply zc rfl <;> intro hc <;> (try simp only [go_sem] at hc)
   apply zx
   try simp only [go_sem]
   repeat apply zq
   apply zd
   repeat apply zq
   refine zb fun K hK=>?_;simp only [go_sem];(try simp (disch:=omega) only [zI]);repeat first | intro _ | refine ⟨by omega,?_⟩
   apply hK;apply zw (zk [0,1,5,7,8]);simp only [go_sem]
   repeat apply zq
   refine zb fun K hK=>?_;simp only [go_sem,hy,hc0,List.length_map];(try simp (disch:=omega) only [zI]);repeat first | intro _ | refine ⟨by omega,?_⟩
   apply hK;apply zw (zk [0,1,5,7,8,16]);simp only [go_sem]
   by_cases hvy : v = y
   · have e1 : (v == y) = true:=by simpa using hvy
     rw [e1]
     repeat apply zq
     apply zc rfl <;> intro hc <;> (try simp only [go_sem] at hc)
     repeat apply zq
     refine zb fun K hK=>?_;simp only [go_sem];(try simp (disch:=omega) only [zI]);repeat first | intro _ | refine ⟨by omega,?_⟩
     apply hK;apply zw (zk [4]);simp only [go_sem];apply ze;simp only [go_sem];rw [hst,atI,if_pos hvy]
   · have e1 : (v == y) = false:=by simpa using hvy
     rw [e1]
     repeat apply zq
     apply zc rfl <;> intro hc <;> (try simp only [go_sem] at hc)
     apply zx
     try simp only [go_sem]
     repeat apply zq
     refine zb fun K hK=>?_;simp only [go_sem];(try simp (disch:=omega) only [zI]);repeat first | intro _ | refine ⟨by omega,?_⟩
     apply hK
     try simp only [go_sem]
     refine ⟨hc0,?_,zfo [] ?_ ?_⟩
     · intro x hx
       rw [zto hy] at hx
       rcases List.mem_append.1 hx with hx | hx
       · exact hI x hx
       · simp at hx;subst hx;exact hvy
     · try simp only [go_sem]
     · try simp only [go_sem]
 · have hie : i = l.length:=by omega
   subst hie
   have hst:=atI_step v l l.length hI
   rw [List.drop_length] at hst
   repeat apply zq
   refine zb fun K hK=>?_;simp only [go_sem,Nat.lt_irrefl];(try simp (disch:=omega) only [zI]);repeat first | intro _ | refine ⟨by omega,?_⟩
   apply hK;apply zw (zk [0,1,7,8,9]);simp only [go_sem]
   repeat apply zq
   apply zc rfl <;> intro hc <;> (try simp only [go_sem] at hc)
   apply zf;simp only [go_sem]
   repeat apply zq
   refine zb fun K hK=>?_;simp only [go_sem];(try simp (disch:=omega) only [zI]);repeat first | intro _ | refine ⟨by omega,?_⟩
   apply hK;apply zw (zk [4]);simp only [go_sem];apply ze;simp only [go_sem]
   rw [hst];rfl
theorem bcont_ok (l : List Int) (v : Int) (hl : l.length ≤ 1000) : ACalls Try.prog 139 [ints l,i64 v] (.bo (decide (0 ≤ atI v l 0))):=by
 have h:=bindex_ok v l hl
 refine zas (rs:=[.bo (decide (0 ≤ atI v l 0))]) [.tmp 4] Try.func139 rfl (by kernel_rfl) Try.ntmps139 rfl (by simp) rfl fun C vs=>?_
 repeat apply zq
 refine zb fun K hK=>?_;simp only [go_sem];(try simp (disch:=omega) only [zI]);repeat first | intro _ | refine ⟨by omega,?_⟩
 apply hK;apply zw (zk [0,1]);simp only [go_sem]
 repeat apply zq
 refine zb fun K hK=>?_;simp only [go_sem];(try simp (disch:=omega) only [zI])
 refine zh (h) rfl (by simp only [go_sem,i64,ints]) (by simp only [go_sem,i64,ints]) ?_
 (try simp only [go_sem]);(try simp (disch:=omega) only [zI]);repeat first | intro _ | refine ⟨by omega,?_⟩
 apply hK;apply zw (zk [4]);simp only [go_sem];apply ze;simp only [go_sem]
theorem lvalid_ok (b : Int) (hb : 0 ≤ b ∧ b ≤ 499) (hv : bedOk b = true) : ACalls Try.prog 109 [.ag [i64 b]] (.bo true):=by
 have hf:=lfactor_ok b hb
 have hn:=lnumber_ok b hb
 have hc:=bcont_ok [0,125,225] b (by simp)
 have hv':=hv
 simp only [bedOk,Bool.or_eq_true,Bool.and_eq_true,decide_eq_true_eq] at hv'
 refine zas (rs:=[.bo true]) [.tmp 2] Try.func109 rfl (by kernel_rfl) Try.ntmps109 rfl (by simp) rfl fun C vs=>?_
 repeat apply zq
 refine zb fun K hK=>?_;simp only [go_sem];(try simp (disch:=omega) only [zI]);repeat first | intro _ | refine ⟨by omega,?_⟩
 apply hK;refine zw (zfP 1 1 [i64 b] (by omega) rfl rfl) ?_;apply zw (zk [1]);simp only [go_sem]
 by_cases hq : 0 ≤ atI b [0,125,225] 0
 · rw [decide_eq_true hq] at hc
   repeat apply zq
   refine zb fun K hK=>?_;simp only [go_sem];(try simp (disch:=omega) only [zI])
   refine zh (hc) rfl (by simp only [go_sem,i64,ints]) (by simp only [go_sem,i64,ints]) ?_
   (try simp only [go_sem]);(try simp (disch:=omega) only [zI]);repeat first | intro _ | refine ⟨by omega,?_⟩
   apply hK;apply zw (zk [2]);simp only [go_sem];apply ze;simp only [go_sem]
 · have n1 : b ≠ 125:=fun e=>hq (by subst e;decide)
   have n2 : b ≠ 225:=fun e=>hq (by subst e;decide)
   have w1 : withinL 1 4 [b / 100] = true:=by simp [withinL];omega
   have w2 : withinL 1 20 [b % 100] = true:=by simp [withinL];omega
   have c1:=lwithin_ok 1 4 [b / 100]
   have c2:=lwithin_ok 1 20 [b % 100]
   rw [w1] at c1
   rw [w2] at c2
   rw [decide_eq_false hq] at hc
   repeat apply zq
   refine zb fun K hK=>?_;simp only [go_sem];(try simp (disch:=omega) only [zI])
   refine zh (hc) rfl (by simp only [go_sem,i64,ints]) (by simp only [go_sem,i64,ints]) ?_
   (try simp only [go_sem]);(try simp (disch:=omega) only [zI])
   refine zh (hf) rfl (by simp only [go_sem,i64,ints]) (by simp only [go_sem,i64,ints]) ?_
   (try simp only [go_sem]);(try simp (disch:=omega) only [zI])
   refine zh (c1) rfl (by simp only [go_sem,i64,ints]) (by simp only [go_sem,i64,ints]) ?_
   (try simp only [go_sem]);(try simp (disch:=omega) only [zI])
   refine zh (hn) rfl (by simp only [go_sem,i64,ints]) (by simp only [go_sem,i64,ints]) ?_
   (try simp only [go_sem]);(try simp (disch:=omega) only [zI])
   refine zh (c2) rfl (by simp only [go_sem,i64,ints]) (by simp only [go_sem,i64,ints]) ?_
   (try simp only [go_sem]);(try simp (disch:=omega) only [zI]);repeat first | intro _ | refine ⟨by omega,?_⟩
   apply hK;apply zw (zk [2]);simp only [go_sem];apply ze;simp only [go_sem]
theorem lgate_ok (g : Int) (h : 0 ≤ g ∧ g ≤ 2) : ACalls Try.prog 106 [i64 g] (.bo true):=by
 have w : withinL 0 2 [g] = true:=by simp [withinL];omega
 have c:=lwithin_ok 0 2 [g]
 rw [w] at c
 refine zas (rs:=[.bo true]) [.tmp 2] Try.func106 rfl (by kernel_rfl) Try.ntmps106 rfl (by simp) rfl fun C vs=>?_
 repeat apply zq
 refine zb fun K hK=>?_;simp only [go_sem];(try simp (disch:=omega) only [zI]);repeat first | intro _ | refine ⟨by omega,?_⟩
 apply hK;apply zw (zk [0]);simp only [go_sem]
 repeat apply zq
 refine zb fun K hK=>?_;simp only [go_sem];(try simp (disch:=omega) only [zI])
 refine zh (c) rfl (by simp only [go_sem,i64,ints]) (by simp only [go_sem,i64,ints]) ?_
 (try simp only [go_sem]);(try simp (disch:=omega) only [zI]);repeat first | intro _ | refine ⟨by omega,?_⟩
 apply hK;apply zw (zk [2]);simp only [go_sem];apply ze;simp only [go_sem]
abbrev cntR (st g : Int) : RV:=.ag [i64 st,i64 0,i64 g]
theorem lcount_ok (st g : Int) (hs : 2 ≤ st ∧ st ≤ 1001) (hg : 0 ≤ g ∧ g ≤ 2) : ACalls Try.prog 78 [cntR st g] (.bo true):=by
 have w : withinL 2 1001 [st] = true:=by simp [withinL];omega
 have c:=lwithin_ok 2 1001 [st]
 rw [w] at c
 have g1:=lgate_ok 0 (by omega)
 have g2:=lgate_ok g hg
 refine zas (rs:=[.bo true]) [.tmp 2] Try.func78 rfl (by kernel_rfl) Try.ntmps78 rfl (by simp) rfl fun C vs=>?_
 repeat apply zq
 refine zb fun K hK=>?_;simp only [go_sem];(try simp (disch:=omega) only [zI]);repeat first | intro _ | refine ⟨by omega,?_⟩
 apply hK;refine zw (zfP 1 1 [i64 st,i64 0,i64 g] (by omega) rfl rfl) ?_;apply zw (zk [1]);simp only [go_sem]
 repeat apply zq
 refine zb fun K hK=>?_;simp only [go_sem];(try simp (disch:=omega) only [zI])
 refine zh (c) rfl (by simp only [go_sem,i64,ints]) (by simp only [go_sem,i64,ints]) ?_
 (try simp only [go_sem]);(try simp (disch:=omega) only [zI])
 refine zh (g1) rfl (by simp only [go_sem,i64,ints]) (by simp only [go_sem,i64,ints]) ?_
 (try simp only [go_sem]);(try simp (disch:=omega) only [zI])
 refine zh (g2) rfl (by simp only [go_sem,i64,ints]) (by simp only [go_sem,i64,ints]) ?_
 (try simp only [go_sem]);(try simp (disch:=omega) only [zI]);repeat first | intro _ | refine ⟨by omega,?_⟩
 apply hK;apply zw (zk [2]);simp only [go_sem];apply ze;simp only [go_sem]
abbrev lbox (st g left dk : Int) (bu wo : Bool) : RowC:=.box [.r (i64 st),.r (i64 0),.r (i64 g),.r (i64 left),.r (i64 0),.r (i64 dk),.r (.bo true),.r (.bo bu),.r (.bo wo)]
def overB (dk : Int) (bu wo : Bool) : Bool:=dk == 3 || wo || bu
theorem isover_ok (st g left dk : Int) (bu wo : Bool) : MCalls Try.prog 108 [(1000,lbox st g left dk bu wo)] [(1000,lbox st g left dk bu wo)] [.pt 1000 0 0] (.r (.bo (overB dk bu wo))):=by
 refine mcalls_st (n:=23) (rs:=[.r (.bo (overB dk bu wo))]) _ _ [.tmp 2] Try.func108 rfl (by kernel_rfl) Try.ntmps108 rfl (by simp) rfl rfl fun C=>?_
 repeat apply zq
 refine zb fun K hK=>?_;simp only [go_sem];(try simp (disch:=omega) only [zI]);repeat first | intro _ | refine ⟨by omega,?_⟩
 apply hK;apply zw (zk [0]);simp only [go_sem]
 unfold overB
 cases h1 : (dk == 3) <;> cases wo
 all_goals (
  repeat apply zq
  refine zb fun K hK=>?_;simp only [go_sem,h1];(try simp (disch:=omega) only [zI]);repeat first | intro _ | refine ⟨by omega,?_⟩
  apply hK;apply zw (zk [2]);simp only [go_sem];apply ze;simp only [go_sem]
  try rfl)
theorem lopens_ok (b g : Int) (hb : 0 ≤ b ∧ b ≤ 499) (hv : bedOk b = true) (hg : 0 ≤ g ∧ g ≤ 2) : ACalls Try.prog 142 [.ag [i64 b],i64 g] (.bo (opensD g b)):=by
 have hf:=lfactor_ok b hb
 have hv':=hv
 simp only [bedOk,Bool.or_eq_true,Bool.and_eq_true,decide_eq_true_eq] at hv'
 refine zas (rs:=[.bo (opensD g b)]) [.tmp 4] Try.func142 rfl (by kernel_rfl) Try.ntmps142 rfl (by simp) rfl fun C vs=>?_
 repeat apply zq
 refine zb fun K hK=>?_;simp only [go_sem];(try simp (disch:=omega) only [zI]);repeat first | intro _ | refine ⟨by omega,?_⟩
 apply hK;refine zw (zfP 2 2 [i64 b] (by omega) rfl rfl) ?_;apply zw (zk [1,2]);simp only [go_sem]
 repeat apply zq
 refine zb fun K hK=>?_;simp only [go_sem];(try simp (disch:=omega) only [zI]);repeat first | intro _ | refine ⟨by omega,?_⟩
 apply hK;apply zw (zk [1,2,5,6]);simp only [go_sem]
 repeat apply zq
 refine zb fun K hK=>?_;simp only [go_sem];(try simp (disch:=omega) only [zI]);repeat first | intro _ | refine ⟨by omega,?_⟩
 apply hK;apply zw (zk [2,5,6,7]);simp only [go_sem]
 repeat apply zq
 apply zd
 repeat apply zq
 apply zd
 repeat apply zq
 apply zd
 repeat apply zq
 refine zb fun K hK=>?_;simp only [go_sem];(try simp (disch:=omega) only [zI]);repeat first | intro _ | refine ⟨by omega,?_⟩
 apply hK;apply zw (zk [2,5,6,7,8]);simp only [go_sem]
 by_cases h1 : g = 1
 · subst h1
   have e : withinL 2 2 [b / 100] = opensD 1 b:=by
    rw [Bool.eq_iff_iff];simp [withinL,opensD];omega
   have hw:=lwithin_ok 2 2 [b / 100]
   rw [e] at hw
   repeat apply zq
   apply zc rfl <;> intro hc <;> (try simp only [go_sem] at hc)
   apply zf;simp only [go_sem]
   repeat apply zq
   refine zb fun K hK=>?_;simp only [go_sem];(try simp (disch:=omega) only [zI]);repeat first | intro _ | refine ⟨by omega,?_⟩
   apply hK;apply zw (zk [2,6]);simp only [go_sem]
   repeat apply zq
   refine zb fun K hK=>?_;simp only [go_sem];(try simp (disch:=omega) only [zI]);repeat first | intro _ | refine ⟨by omega,?_⟩
   apply hK;apply zw (zk [2,5,6]);simp only [go_sem];apply zf;simp only [go_sem]
   repeat apply zq
   refine zb fun K hK=>?_;simp only [go_sem];(try simp (disch:=omega) only [zI])
   refine zh (hf) rfl (by simp only [go_sem,i64,ints]) (by simp only [go_sem,i64,ints]) ?_
   (try simp only [go_sem]);(try simp (disch:=omega) only [zI])
   refine zh (hw) rfl (by simp only [go_sem,i64,ints]) (by simp only [go_sem,i64,ints]) ?_
   (try simp only [go_sem]);(try simp (disch:=omega) only [zI]);repeat first | intro _ | refine ⟨by omega,?_⟩
   apply hK;apply zw (zk [4]);simp only [go_sem];apply ze;simp only [go_sem]
 · have e1 : (g == 1) = false:=by simpa using h1
   rw [e1]
   repeat apply zq
   apply zc rfl <;> intro hc <;> (try simp only [go_sem] at hc)
   apply zx
   try simp only [go_sem]
   repeat apply zq
   refine zb fun K hK=>?_;simp only [go_sem];(try simp (disch:=omega) only [zI]);repeat first | intro _ | refine ⟨by omega,?_⟩
   apply hK;apply zw (zk [2,5,6,10]);simp only [go_sem]
   by_cases h2 : g = 2
   · subst h2
     have e : withinL 2 4 [b / 100] = opensD 2 b:=by
      rw [Bool.eq_iff_iff];simp [withinL,opensD];omega
     have hw:=lwithin_ok 2 4 [b / 100]
     rw [e] at hw
     repeat apply zq
     apply zc rfl <;> intro hc <;> (try simp only [go_sem] at hc)
     apply zf;simp only [go_sem]
     repeat apply zq
     refine zb fun K hK=>?_;simp only [go_sem];(try simp (disch:=omega) only [zI]);repeat first | intro _ | refine ⟨by omega,?_⟩
     apply hK;apply zw (zk [2,5,6]);simp only [go_sem];apply zf;simp only [go_sem]
     repeat apply zq
     refine zb fun K hK=>?_;simp only [go_sem];(try simp (disch:=omega) only [zI])
     refine zh (hf) rfl (by simp only [go_sem,i64,ints]) (by simp only [go_sem,i64,ints]) ?_
     (try simp only [go_sem]);(try simp (disch:=omega) only [zI])
     refine zh (hw) rfl (by simp only [go_sem,i64,ints]) (by simp only [go_sem,i64,ints]) ?_
     (try simp only [go_sem]);(try simp (disch:=omega) only [zI]);repeat first | intro _ | refine ⟨by omega,?_⟩
     apply hK;apply zw (zk [4]);simp only [go_sem];apply ze;simp only [go_sem]
   · have e2 : (g == 2) = false:=by simpa using h2
     rw [e2]
     have e : withinL 1 4 [b / 100] = opensD g b:=by
      rw [Bool.eq_iff_iff];simp [withinL,opensD,h1,h2];omega
     have hw:=lwithin_ok 1 4 [b / 100]
     rw [e] at hw
     repeat apply zq
     apply zc rfl <;> intro hc <;> (try simp only [go_sem] at hc)
     apply zx
     try simp only [go_sem]
     apply zf;simp only [go_sem]
     repeat apply zq
     refine zb fun K hK=>?_;simp only [go_sem];(try simp (disch:=omega) only [zI])
     refine zh (hf) rfl (by simp only [go_sem,i64,ints]) (by simp only [go_sem,i64,ints]) ?_
     (try simp only [go_sem]);(try simp (disch:=omega) only [zI])
     refine zh (hw) rfl (by simp only [go_sem,i64,ints]) (by simp only [go_sem,i64,ints]) ?_
     (try simp only [go_sem]);(try simp (disch:=omega) only [zI]);repeat first | intro _ | refine ⟨by omega,?_⟩
     apply hK;apply zw (zk [4]);simp only [go_sem];apply ze;simp only [go_sem]
theorem hit_on (st g left dk b : Int) (hb : 0 ≤ b ∧ b ≤ 499) (hv : bedOk b = true) (hg : 0 ≤ g ∧ g ≤ 2) (hl : 1 ≤ left ∧ left ≤ 1001) (hd : 0 ≤ dk ∧ dk ≤ 2) (hon : lowG g ≤ left - scoreOf b) :
 MCalls Try.prog 110 [(1000,lbox st g left dk false false)] [(1000,lbox st g (left - scoreOf b) (dk + 1) false false)] [.pt 1000 0 0,.r (.ag [i64 b])] (.tu []):=by
 have hw:=lworth_ok b hb
 have hs:=score_le hb.1 hb.2
 have w1 : IntKind.i64.wrap (dk + 1) = dk + 1:=by rw [zI] <;> omega
 obtain ⟨y,hy⟩ : ∃ y,y = left - scoreOf b:=⟨_,rfl⟩
 have w2 : IntKind.i64.wrap (left - scoreOf b) = y:=by rw [zI] <;> omega
 rw [← hy] at hon ⊢
 have hlg:=lowG_le g
 have n0 : (b == 0) = false:=by
  rw [beq_eq_false_iff_ne];intro e;subst e;exact absurd hv (by decide)
 have hy0 : (y == 0) = false:=by rw [beq_eq_false_iff_ne];omega
 have hlo : g = 0 ∨ 2 ≤ y:=by unfold lowG at hon;split at hon <;> omega
 refine mcalls_st (n:=99) (rs:=[]) _ _ [] Try.func110 rfl (by kernel_rfl) Try.ntmps110 rfl (by simp) rfl rfl fun C=>?_
 repeat apply zq
 refine zb fun K hK=>?_;simp only [go_sem];(try simp (disch:=omega) only [zI]);repeat first | intro _ | refine ⟨by omega,?_⟩
 apply hK;refine zw (zfP 3 3 [i64 b] (by omega) rfl rfl) ?_;apply zw (zk [0,3]);simp only [go_sem]
 repeat apply zq
 refine zb fun K hK=>?_;simp only [go_sem,w1];(try simp (disch:=omega) only [zI]);repeat first | intro _ | refine ⟨by omega,?_⟩
 apply hK;apply zw (zk [0,3]);simp only [go_sem]
 repeat apply zq
 refine awp_dreg2 [(0,some 1000),(3,none)] follows (by decide +kernel) (by kernel_rfl) (by simp only [keysOk,List.mem_cons,List.not_mem_nil,forall_eq_or_imp,Oc.keyOf,go_sem];simp) fun K hK=>?_
 simp only [go_sem,n0];(try simp (disch:=omega) only [zI]);repeat first | intro _ | refine ⟨by omega,?_⟩
 apply hK;apply zw (zk [0,3,34]);simp only [go_sem]
 repeat apply zq
 apply zc rfl <;> intro hc <;> (try simp only [go_sem] at hc)
 apply zx
 try simp only [go_sem]
 repeat apply zq
 refine awp_dreg2 [(0,some 1000),(3,none)] follows (by decide +kernel) (by kernel_rfl) (by simp only [keysOk,List.mem_cons,List.not_mem_nil,forall_eq_or_imp,Oc.keyOf,go_sem];simp) fun K hK=>?_
 simp only [go_sem,w2];(try simp (disch:=omega) only [zI])
 refine zh (hw) rfl (by simp only [go_sem,i64,ints,w2]) (by simp only [go_sem,i64,ints,w2]) ?_
 (try simp only [go_sem,w2]);(try simp (disch:=omega) only [zI]);repeat first | intro _ | refine ⟨by omega,?_⟩
 repeat first | intro _ | refine ⟨by omega,?_⟩
 apply hK;apply zw (zk [0,3,4]);simp only [go_sem]
 repeat apply zq
 refine awp_dreg2 [(0,some 1000),(3,none)] follows (by decide +kernel) (by kernel_rfl) (by simp only [keysOk,List.mem_cons,List.not_mem_nil,forall_eq_or_imp,Oc.keyOf,go_sem];simp) fun K hK=>?_
 simp only [go_sem,hy0];(try simp (disch:=omega) only [zI]);repeat first | intro _ | refine ⟨by omega,?_⟩
 apply hK;apply zw (zk [0,4]);simp only [go_sem]
 rcases hlo with rfl | h2
 · have c3 : ((0 : Int) != 0) = false:=rfl
   by_cases h2 : y < 2
   · have c1 : decide (y < 2) = true:=decide_eq_true h2
     have c2 : (y != 1) = false:=by
      have : y = 1:=by unfold lowG at hon;split at hon <;> omega
      subst this;rfl
     repeat apply zq
     refine zb fun K hK=>?_;simp only [go_sem,c1,c2,c3];(try simp (disch:=omega) only [zI]);repeat first | intro _ | refine ⟨by omega,?_⟩
     apply hK;apply zw (zk [0,4]);simp only [go_sem]
     repeat apply zq
     refine zb fun K hK=>?_;simp only [go_sem];(try simp (disch:=omega) only [zI]);repeat first | intro _ | refine ⟨by omega,?_⟩
     apply hK;apply zw (zk [0,4,89]);simp only [go_sem]
     repeat apply zq
     apply zc rfl <;> intro hc <;> (try simp only [go_sem] at hc)
     repeat apply zq
     refine zb fun K hK=>?_;simp only [go_sem];(try simp (disch:=omega) only [zI]);repeat first | intro _ | refine ⟨by omega,?_⟩
     apply hK
     try simp only [go_sem]
   · have c1 : decide (y < 2) = false:=decide_eq_false h2
     repeat apply zq
     refine zb fun K hK=>?_;simp only [go_sem,c1];(try simp (disch:=omega) only [zI]);repeat first | intro _ | refine ⟨by omega,?_⟩
     apply hK;apply zw (zk [0,4]);simp only [go_sem]
     repeat apply zq
     refine zb fun K hK=>?_;simp only [go_sem];(try simp (disch:=omega) only [zI]);repeat first | intro _ | refine ⟨by omega,?_⟩
     apply hK;apply zw (zk [0,4,89]);simp only [go_sem]
     repeat apply zq
     apply zc rfl <;> intro hc <;> (try simp only [go_sem] at hc)
     repeat apply zq
     refine zb fun K hK=>?_;simp only [go_sem];(try simp (disch:=omega) only [zI]);repeat first | intro _ | refine ⟨by omega,?_⟩
     apply hK
     try simp only [go_sem]
 · have c1 : decide (y < 2) = false:=decide_eq_false (by omega)
   repeat apply zq
   refine zb fun K hK=>?_;simp only [go_sem,c1];(try simp (disch:=omega) only [zI]);repeat first | intro _ | refine ⟨by omega,?_⟩
   apply hK;apply zw (zk [0,4]);simp only [go_sem]
   repeat apply zq
   refine zb fun K hK=>?_;simp only [go_sem];(try simp (disch:=omega) only [zI]);repeat first | intro _ | refine ⟨by omega,?_⟩
   apply hK;apply zw (zk [0,4,89]);simp only [go_sem]
   repeat apply zq
   apply zc rfl <;> intro hc <;> (try simp only [go_sem] at hc)
   repeat apply zq
   refine zb fun K hK=>?_;simp only [go_sem];(try simp (disch:=omega) only [zI]);repeat first | intro _ | refine ⟨by omega,?_⟩
   apply hK
   try simp only [go_sem]
theorem hit_win (st g left dk b : Int) (hb : 0 ≤ b ∧ b ≤ 499) (hv : bedOk b = true) (hg : 0 ≤ g ∧ g ≤ 2) (hl : 1 ≤ left ∧ left ≤ 1001) (hd : 0 ≤ dk ∧ dk ≤ 2) (hon : left - scoreOf b = 0) (ho : opensD g b = true) :
 MCalls Try.prog 110 [(1000,lbox st g left dk false false)] [(1000,lbox st g 0 (dk + 1) false true)] [.pt 1000 0 0,.r (.ag [i64 b])] (.tu []):=by
 have hw:=lworth_ok b hb
 have hop:=lopens_ok b g hb hv hg
 rw [ho] at hop
 have hs:=score_le hb.1 hb.2
 have w1 : IntKind.i64.wrap (dk + 1) = dk + 1:=by rw [zI] <;> omega
 have w2 : IntKind.i64.wrap (left - scoreOf b) = 0:=by rw [hon];rfl
 have n0 : (b == 0) = false:=by
  rw [beq_eq_false_iff_ne];intro e;subst e;exact absurd hv (by decide)
 have z0 : ((0 : Int) == 0) = true:=rfl
 refine mcalls_st (n:=99) (rs:=[]) _ _ [] Try.func110 rfl (by kernel_rfl) Try.ntmps110 rfl (by simp) rfl rfl fun C=>?_
 repeat apply zq
 refine zb fun K hK=>?_;simp only [go_sem];(try simp (disch:=omega) only [zI]);repeat first | intro _ | refine ⟨by omega,?_⟩
 apply hK;refine zw (zfP 3 3 [i64 b] (by omega) rfl rfl) ?_;apply zw (zk [0,3]);simp only [go_sem]
 repeat apply zq
 refine zb fun K hK=>?_;simp only [go_sem,w1];(try simp (disch:=omega) only [zI]);repeat first | intro _ | refine ⟨by omega,?_⟩
 apply hK;apply zw (zk [0,3]);simp only [go_sem]
 repeat apply zq
 refine awp_dreg2 [(0,some 1000),(3,none)] follows (by decide +kernel) (by kernel_rfl) (by simp only [keysOk,List.mem_cons,List.not_mem_nil,forall_eq_or_imp,Oc.keyOf,go_sem];simp) fun K hK=>?_
 simp only [go_sem,n0];(try simp (disch:=omega) only [zI]);repeat first | intro _ | refine ⟨by omega,?_⟩
 apply hK;apply zw (zk [0,3,34]);simp only [go_sem]
 repeat apply zq
 apply zc rfl <;> intro hc <;> (try simp only [go_sem] at hc)
 apply zx
 try simp only [go_sem]
 repeat apply zq
 refine awp_dreg2 [(0,some 1000),(3,none)] follows (by decide +kernel) (by kernel_rfl) (by simp only [keysOk,List.mem_cons,List.not_mem_nil,forall_eq_or_imp,Oc.keyOf,go_sem];simp) fun K hK=>?_
 simp only [go_sem,w2];(try simp (disch:=omega) only [zI])
 refine zh (hw) rfl (by simp only [go_sem,i64,ints,w2]) (by simp only [go_sem,i64,ints,w2]) ?_
 (try simp only [go_sem,w2]);(try simp (disch:=omega) only [zI]);repeat first | intro _ | refine ⟨by omega,?_⟩
 repeat first | intro _ | refine ⟨by omega,?_⟩
 apply hK;apply zw (zk [0,3,4]);simp only [go_sem]
 repeat apply zq
 refine awp_dreg2 [(0,some 1000),(3,none)] follows (by decide +kernel) (by kernel_rfl) (by simp only [keysOk,List.mem_cons,List.not_mem_nil,forall_eq_or_imp,Oc.keyOf,go_sem];simp) fun K hK=>?_
 simp only [go_sem,z0];(try simp (disch:=omega) only [zI])
 refine zh (hop) rfl (by simp only [go_sem,i64,ints,z0]) (by simp only [go_sem,i64,ints,z0]) ?_
 (try simp only [go_sem,z0]);(try simp (disch:=omega) only [zI]);repeat first | intro _ | refine ⟨by omega,?_⟩
 apply hK;apply zw (zk [0,4]);simp only [go_sem]
 repeat apply zq
 refine zb fun K hK=>?_;simp only [go_sem];(try simp (disch:=omega) only [zI]);repeat first | intro _ | refine ⟨by omega,?_⟩
 apply hK;apply zw (zk [0,4]);simp only [go_sem]
 repeat apply zq
 refine zb fun K hK=>?_;simp only [go_sem];(try simp (disch:=omega) only [zI]);repeat first | intro _ | refine ⟨by omega,?_⟩
 apply hK;apply zw (zk [0,4,89]);simp only [go_sem]
 repeat apply zq
 apply zc rfl <;> intro hc <;> (try simp only [go_sem] at hc)
 repeat apply zq
 refine zb fun K hK=>?_;simp only [go_sem];(try simp (disch:=omega) only [zI]);repeat first | intro _ | refine ⟨by omega,?_⟩
 apply hK
 try simp only [go_sem]
theorem relV_ofL {w : World} {p : Plan} {ver : Nat → Nat} : ∀ {xs : List RV} {vs : List Value},AV.relV w p ver (xs.map .r) vs → RV.relV w p.R xs vs
 | [],_,h=>by simp only [List.map_nil,AV.relV] at h;simp only [RV.relV];exact h
 | x :: xs, _, h => by
   simp only [List.map_cons,AV.relV,AV.rel] at h
   obtain ⟨u,us,e,h1,h2⟩:=h
   simp only [RV.relV];exact ⟨u,us,e,h1,relV_ofL h2⟩
theorem mcalls_agL {P : Program} {f : FuncId} {L L' : List (Nat × RowC)} {a : AV} {xs : List RV} {r : AV} (h : MCalls P f L L' [a,.r (.ag xs)] r) : MCalls P f L L' [a,.ag (xs.map .r)] r :=
 ⟨h.1,fun w p vs hp h1 h2 h3 h4 h5 h6=>h.2 w p vs hp h1 h2 h3 h4 h5 (by
  simp only [AV.relV] at h6 ⊢
  obtain ⟨u,us,e,g1,u2,us2,e2,g2,g3⟩:=h6
  refine ⟨u,us,e,g1,u2,us2,e2,?_,g3⟩
  simp only [AV.rel] at g2
  simp only [AV.rel,RV.rel]
  obtain ⟨vs,q1,q2,q3⟩:=g2
  exact ⟨vs,q1,q2,relV_ofL q3⟩)⟩
structure VisO (g left : Int) (B : List Int) (L : Nat → Int) : Prop where
 l0 : L 0 = left
 step : ∀ (i : Nat) (b : Int),B[i]? = some b → L (i + 1) = L i - scoreOf b
 beds : ∀ b ∈ B,bedOk b = true
 on : ∀ i : Nat,i + 1 < B.length → lowG g ≤ L (i + 1)
 last : (B.length = 3 ∧ lowG g ≤ L B.length) ∨ (L B.length = 0 ∧ ∀ b,B[B.length - 1]? = some b → opensD g b = true)
 len : 1 ≤ B.length ∧ B.length ≤ 3
theorem bed_range {b : Int} (h : bedOk b = true) : 0 ≤ b ∧ b ≤ 499:=by
 simp only [bedOk,Bool.or_eq_true,Bool.and_eq_true,decide_eq_true_eq] at h
 omega
abbrev thrV (l s d : Int) (w : Bool) : RV:=.ag [i64 l,i64 s,i64 d,.bo true,.bo false,.bo w]
theorem VisO.low {g left : Int} {B : List Int} {L : Nat → Int} (h : VisO g left B L) (hl : 1 ≤ left ∧ left ≤ 1001) : ∀ i,i < B.length → 1 ≤ L i ∧ L i ≤ 1001
 | 0,_=>by rw [h.l0];exact hl
 | i + 1, hi => by
   have h1:=h.low hl i (by omega)
   obtain ⟨b,hb⟩:=zol (show i < B.length by omega)
   have h2:=h.step i b hb
   have h3:=h.on i hi
   have hr:=bed_range (h.beds b (zmo hb))
   have h4:=score_le hr.1 hr.2
   have:=lowG_le g
   omega
theorem throw_ok {st g left : Int} {B : List Int} {L : Nat → Int} (h : VisO g left B L) (hg : 0 ≤ g ∧ g ≤ 2) (hl : 1 ≤ left ∧ left ≤ 1001) :
 ACalls Try.prog 80 [cntR st g,.bo true,i64 left,ints B] (.tu [thrV (L B.length) (left - L B.length) B.length (decide (L B.length = 0)),i64 (-1),i64 0]):=by
 have hlow:=h.low hl
 obtain ⟨n,hn⟩ : ∃ n,n = B.length:=⟨_,rfl⟩
 have hlen:=h.len
 have hlg:=lowG_le g
 have hlast : 0 ≤ L n ∧ L n ≤ 1001:=by
  obtain ⟨m,hm⟩ : ∃ m,n = m + 1:=⟨n - 1,by omega⟩
  obtain ⟨b,hb⟩:=zol (show m < B.length by omega)
  have h2:=h.step m b hb
  have hr:=bed_range (h.beds b (zmo hb))
  have h4:=score_le hr.1 hr.2
  have h5:=hlow m (by omega)
  have h6:=h.last
  rw [← hn] at h6
  rw [hm] at h6 ⊢
  rcases h6 with ⟨_,h6⟩ | ⟨h6,_⟩ <;> omega
 have ws : IntKind.i64.wrap (left - L n) = left - L n:=by rw [zI] <;> omega
 have hpos : ∀ i,i < n → (decide (L i = 0)) = false:=fun i hi=>decide_eq_false (by have:=hlow i (by omega);omega)
 rw [← hn]
 refine zas (rs:=[thrV (L n) (left - L n) n (decide (L n = 0)),i64 (-1),i64 0]) [.cell 8 94,.tmp 9,.tmp 10] Try.func80 rfl (by kernel_rfl) Try.ntmps80 rfl (by simp) rfl fun C vs=>?_
 repeat apply zq
 refine zb fun K hK=>?_;simp only [go_sem];(try simp (disch:=omega) only [zI]);repeat first | intro _ | refine ⟨by omega,?_⟩
 apply hK;refine zw (zfP 4 4 [i64 st,i64 0,i64 g] (by omega) rfl rfl) ?_;apply zw (zk [1,2,3,4,8]);simp only [go_sem]
 repeat apply zq
 refine zb fun K hK=>?_;simp only [go_sem];(try simp (disch:=omega) only [zI]);repeat first | intro _ | refine ⟨by omega,?_⟩
 apply hK;apply zw (zk [1,2,3,8,11]);simp only [go_sem]
 repeat apply zq
 refine zb fun K hK=>?_;simp only [go_sem,List.length_map];(try simp (disch:=omega) only [zI]);repeat first | intro _ | refine ⟨by omega,?_⟩
 apply hK;apply zw (zk [1,2,8,11,19,20,21]);simp only [go_sem]
 repeat apply zq
 apply zd
 refine zuv (n:=62) n (fun i vs=>[(1,.r (.bo true)),(2,.r (i64 left)),(8,.pt 8 (vs 8) 0),(11,.pt 11 (vs 11) 0),(19,.r (ints B)),(20,.r (i64 (n : Int))),(21,.r (i64 (i : Int)))])
  (fun i vs=>[(8,.box [.r (i64 0),.r (i64 0),.r (i64 0),.r (.bo false),.r (.bo false),.r (.bo false)]),(11,lbox st g (L i) i false (decide (L i = 0)))]) (fun _=>True) 0 (zj [] ?_ ?_) (Nat.zero_le _) trivial ?_
 · try simp only [go_sem]
   try rw [hn]
   try rfl
 · try simp only [go_sem]
   rw [hpos 0 (by omega),h.l0]
   try rfl
 intro i vs hi _
 by_cases hin : i < n
 · obtain ⟨b,hb⟩:=zol (show i < B.length by omega)
   have hbl : i < B.length:=by omega
   have hv:=h.beds b (zmo hb)
   have hr:=bed_range hv
   have hst:=h.step i b hb
   have hli:=hlow i hbl
   have hov:=isover_ok st g (L i) i false false
   have eo : overB (i : Int) false false = false:=by
    unfold overB
    have : ((i : Int) == 3) = false:=by rw [beq_eq_false_iff_ne];omega
    rw [this];rfl
   rw [eo] at hov
   have hva:=lvalid_ok b hr hv
   have wi : IntKind.i64.wrap ((i : Int) + 1) = (i : Int) + 1:=by rw [zI] <;> omega
   have d1 : decide ((i : Int) < (n : Int)) = true:=decide_eq_true (by omega)
   rw [hpos i hin]
   repeat apply zq
   refine zb fun K hK=>?_;simp only [go_sem,d1,hin];(try simp (disch:=omega) only [zI]);repeat first | intro _ | refine ⟨by omega,?_⟩
   apply hK;apply zw (zk [1,2,8,11,19,20,21,22]);simp only [go_sem]
   repeat apply zq
   apply zc rfl <;> intro hc <;> (try simp only [go_sem] at hc)
   apply zx
   try simp only [go_sem]
   repeat apply zq
   apply zd
   repeat apply zq
   refine zb fun K hK=>?_;simp only [go_sem,hb,hbl,List.length_map];(try simp (disch:=omega) only [zI]);repeat first | intro _ | refine ⟨by omega,?_⟩
   apply hK;apply zw (zk [1,2,8,11,12,13,19,20,21]);simp only [go_sem]
   repeat apply zq
   apply zd
   repeat apply zq
   refine zb fun K hK=>?_;simp only [go_sem];(try simp (disch:=omega) only [zI])
   refine xcall_mut (hov) [(1000,11)] rfl (by simp only [go_sem,i64,ints]) (by simp only [go_sem,i64,ints]) (by rfl) (by rfl) ?_
   (try simp only [go_sem]);(try simp (disch:=omega) only [zI]);repeat first | intro _ | refine ⟨by omega,?_⟩
   apply hK;apply zw (zk [1,2,8,11,12,13,19,20,21,26]);simp only [go_sem]
   repeat apply zq
   apply zc rfl <;> intro hc <;> (try simp only [go_sem] at hc)
   repeat apply zq
   refine zb fun K hK=>?_;simp only [go_sem];(try simp (disch:=omega) only [zI])
   refine zh (hva) rfl (by simp only [go_sem,i64,ints]) (by simp only [go_sem,i64,ints]) ?_
   (try simp only [go_sem]);(try simp (disch:=omega) only [zI]);repeat first | intro _ | refine ⟨by omega,?_⟩
   apply hK;apply zw (zk [1,2,8,11,12,13,19,20,21,30]);simp only [go_sem]
   repeat apply zq
   apply zc rfl <;> intro hc <;> (try simp only [go_sem] at hc)
   apply zx
   try simp only [go_sem]
   by_cases hw : L (i + 1) = 0
   · have hlst : i + 1 = n:=by
      refine Nat.le_antisymm (by omega) (Nat.not_lt.1 fun hlt=>?_)
      have:=hlow (i + 1) (by omega)
      omega
     have hop : opensD g b = true:=by
      rcases h.last with ⟨_,h6⟩ | ⟨_,h6⟩
      · rw [← hn,← hlst] at h6;omega
      · exact h6 b (by rw [← hn,show n - 1 = i by omega];exact hb)
     have hhit:=hit_win st g (L i) i b hr hv hg hli (by omega) (by omega) hop
     rw [hw,decide_eq_true rfl]
     repeat apply zq
     refine zb fun K hK=>?_;simp only [go_sem];(try simp (disch:=omega) only [zI])
     refine xcall_mut (mcalls_agL hhit) [(1000,11)] rfl (by simp only [go_sem,i64,ints]) (by simp only [go_sem,i64,ints]) (by rfl) (by rfl) ?_
     (try simp only [go_sem]);(try simp (disch:=omega) only [zI]);repeat first | intro _ | refine ⟨by omega,?_⟩
     apply hK;apply zw (zk [1,2,8,11,19,20,21]);simp only [go_sem]
     repeat apply zq
     refine zb fun K hK=>?_;simp only [go_sem,wi];(try simp (disch:=omega) only [zI]);repeat first | intro _ | refine ⟨by omega,?_⟩
     apply hK
     try simp only [go_sem]
     refine ⟨by omega,zj [] ?_ ?_⟩
     · try simp only [go_sem]
     · try simp only [go_sem]
   · have hon : lowG g ≤ L i - scoreOf b:=by
      rw [← hst]
      by_cases hlt : i + 1 < n
      · exact h.on i (by omega)
      · rcases h.last with ⟨_,h6⟩ | ⟨h6,_⟩
        · rw [← hn,show n = i + 1 by omega] at h6;exact h6
        · rw [← hn,show n = i + 1 by omega] at h6;exact absurd h6 hw
     have hhit:=hit_on st g (L i) i b hr hv hg hli (by omega) hon
     rw [← hst] at hhit
     rw [decide_eq_false hw]
     repeat apply zq
     refine zb fun K hK=>?_;simp only [go_sem];(try simp (disch:=omega) only [zI])
     refine xcall_mut (mcalls_agL hhit) [(1000,11)] rfl (by simp only [go_sem,i64,ints]) (by simp only [go_sem,i64,ints]) (by rfl) (by rfl) ?_
     (try simp only [go_sem]);(try simp (disch:=omega) only [zI]);repeat first | intro _ | refine ⟨by omega,?_⟩
     apply hK;apply zw (zk [1,2,8,11,19,20,21]);simp only [go_sem]
     repeat apply zq
     refine zb fun K hK=>?_;simp only [go_sem,wi];(try simp (disch:=omega) only [zI]);repeat first | intro _ | refine ⟨by omega,?_⟩
     apply hK
     try simp only [go_sem]
     refine ⟨by omega,zj [] ?_ ?_⟩
     · try simp only [go_sem]
     · try simp only [go_sem]
 have hin2 : i = n:=by omega
 subst hin2
 have hov:=isover_ok st g (L i) i false (decide (L i = 0))
 have eo : overB (i : Int) false (decide (L i = 0)) = true:=by
  unfold overB
  rcases h.last with ⟨h6,_⟩ | ⟨h6,_⟩
  · have : ((i : Int) == 3) = true:=by rw [beq_iff_eq];omega
    rw [this];rfl
  · rw [← hn] at h6
    rw [decide_eq_true h6]
    simp
 rw [eo] at hov
 generalize hwo : decide (L i = 0) = wo at *
 repeat apply zq
 refine zb fun K hK=>?_;simp only [go_sem,Nat.lt_irrefl];(try simp (disch:=omega) only [zI]);repeat first | intro _ | refine ⟨by omega,?_⟩
 apply hK;apply zw (zk [1,2,8,11,19,20,21,22]);simp only [go_sem]
 repeat apply zq
 apply zc rfl <;> intro hc <;> (try simp only [go_sem] at hc)
 apply zf;simp only [go_sem]
 repeat apply zq
 refine zb fun K hK=>?_;simp only [go_sem];(try simp (disch:=omega) only [zI])
 refine xcall_mut (hov) [(1000,11)] rfl (by simp only [go_sem,i64,ints]) (by simp only [go_sem,i64,ints]) (by rfl) (by rfl) ?_
 (try simp only [go_sem]);(try simp (disch:=omega) only [zI]);repeat first | intro _ | refine ⟨by omega,?_⟩
 apply hK;apply zw (zk [1,2,8,11,42]);simp only [go_sem]
 repeat apply zq
 apply zc rfl <;> intro hc <;> (try simp only [go_sem] at hc)
 apply zx
 try simp only [go_sem]
 repeat apply zq
 refine zb fun K hK=>?_;simp only [go_sem];(try simp (disch:=omega) only [zI]);repeat first | intro _ | refine ⟨by omega,?_⟩
 apply hK;apply zw (zk [1,2,8,11,46]);simp only [go_sem]
 repeat apply zq
 apply zc rfl <;> intro hc <;> (try simp only [go_sem] at hc)
 apply zx
 try simp only [go_sem]
 repeat apply zq
 refine zb fun K hK=>?_;simp only [go_sem,ws];(try simp (disch:=omega) only [zI]);repeat first | intro _ | refine ⟨by omega,?_⟩
 repeat first | intro _ | refine ⟨by omega,?_⟩
 apply hK;apply zw (zk [8,11]);simp only [go_sem]
 repeat apply zq
 refine zb fun K hK=>?_;simp only [go_sem];(try simp (disch:=omega) only [zI]);repeat first | intro _ | refine ⟨by omega,?_⟩
 apply hK;apply zw (zk [8,9,10]);simp only [go_sem];apply ze;simp only [go_sem]
theorem tabT0 (r : Rk) (s : Bool) (h : 1 ≤ lowG r.out) : (tabT r s).getD 0 0 = 0:=tab_below r s (by omega) _
theorem val_start {bs : List Int} {st g : Int} (hB : ∀ b ∈ bs,bedOk b = true) (hne : bs ≠ []) (hr : ROk (suK bs st g)) (sd : Bool) {s v : Nat} (h1 : lowG g ≤ s) (h2 : (s : Int) ≤ st) (hv : (tabT (suK bs st g) sd).getD s 0 = (v : Int) * 1000000) (hv60 : v ≤ 60) :
 1 ≤ v ∧ valA (suK bs st g) sd (tabT (suK bs st g) sd) ((v : Int) * 1000000) 3 s = ((v - 1 : Nat) : Int) * 1000000:=by
 have hnv : nvS sd = 1000000000 ∨ nvS sd = 2000000000:=by unfold nvS;cases sd <;> simp
 rcases sure_at hB hne hr sd s h1 h2 with ⟨w,w1,w2,w3,w4⟩ | ⟨w2,w3⟩
 · have hwv : w = v:=by rw [hv] at w2;omega
   subst hwv
   refine ⟨w1,?_⟩
   have hT : ∀ x ∈ tabT (suK bs st g) sd,VOk x:=(tab_eq hr sd (cntA (suK bs st g)) (Nat.le_refl _)).2.2
   have hvs:=val_sure hB hne (sd:=sd) (T:=tabT (suK bs st g) sd) (n:=(w : Int) * 1000000) (Nv:=nvS sd) (s:=s) hr hT (by unfold VOk;omega) (fun y y1 y2=>sure_at hB hne hr sd y y1 (by omega)) 3 s h1 (Nat.le_refl _) (fun h=>by omega)
   obtain ⟨a1,a2⟩:=hvs
   have b1:=a1 (w - 1) (by rw [show 3 + 3 * (w - 1) = 3 * w by omega];exact w3)
   rcases a2 with a2 | a2 | ⟨W,e1,e2⟩
   · omega
   · omega
   · have hw : w - 1 ≤ W:=by
      refine Nat.not_lt.1 fun hlt=>?_
      have:=end_le e2 (show 3 + 3 * W ≤ 3 * (w - 1) by omega)
      rw [w4] at this;cases this
     omega
 · rw [hv] at w2;omega
theorem vok_mul {v : Nat} (h : v ≤ 60) : VOk ((v : Int) * 1000000):=by unfold VOk;omega
theorem aim_step {bs : List Int} {st g : Int} (hB : ∀ b ∈ bs,bedOk b = true) (hck : checkR (suK bs st g) = 0) (hr : ROk (suK bs st g)) {s v left d : Nat} (h1 : lowG g ≤ left) (h2 : left ≤ s) (h3 : (s : Int) ≤ st) (hd : d ≤ 2) (hd2 : d = 2 → left = s)
 (hv : (tabT (suK bs st g) false).getD s 0 = (v : Int) * 1000000) (hv60 : v ≤ 60) (hv1 : 1 ≤ v) (hw : valA (suK bs st g) false (tabT (suK bs st g) false) ((v : Int) * 1000000) (d + 1) left = ((v - 1 : Nat) : Int) * 1000000) :
 ∃ (i : Nat) (b : Int), bs[i]? = some b ∧ aimQ (suK bs st g) ⟨s, left, (d : Int) + 1⟩ = ((i : Int), ((v - 1 : Nat) : Int) * 1000000, 0) ∧
   (((left : Int) - scoreOf b = 0 ∧ opensD g b = true ∧ v = 1) ∨
    (lowG g ≤ (left : Int) - scoreOf b ∧ valA (suK bs st g) false (tabT (suK bs st g) false) ((v : Int) * 1000000) d ((left : Int) - scoreOf b) = ((v - 1 : Nat) : Int) * 1000000)):=by
 have hlg:=lowG_le g
 have hT : ∀ x ∈ tabT (suK bs st g) false,VOk x:=(tab_eq hr false (cntA (suK bs st g)) (Nat.le_refl _)).2.2
 have hval:=valA_vok (r:=suK bs st g) (s:=false) hr hT (vok_mul hv60) d
 have hpos : posOk (suK bs st g) ⟨s,left,(d : Int) + 1⟩ = true:=by
  unfold posOk
  refine decide_eq_true ?_
  show (lowG g ≤ (s : Int) ∧ (s : Int) ≤ st) ∧ (lowG g ≤ (left : Int) ∧ (left : Int) ≤ s) ∧ (1 ≤ (d : Int) + 1 ∧ (d : Int) + 1 ≤ 3) ∧ ((d : Int) + 1 < 3 ∨ (left : Int) = s)
  refine ⟨by omega,by omega,by omega,?_⟩
  by_cases e : d = 2
  · right;have:=hd2 e;omega
  · left;omega
 have hop : openR (suK bs st g) ⟨s,left,(d : Int) + 1⟩ = 0:=by
  unfold openR;rw [if_pos hck,if_pos hpos]
 have hat : At.atV (suK bs st g) false (tabT (suK bs st g) false) s left d = bs.map (nextA g ((v : Int) * 1000000) left (valA (suK bs st g) false (tabT (suK bs st g) false) ((v : Int) * 1000000) d)):=by
  unfold At.atV
  rw [hv]
  show (bs.map sureA).map _ = _
  rw [List.map_map]
  refine List.map_congr_left fun b hb=>?_
  refine sure_mean (hB b hb) ?_
  unfold nextA
  split
  · unfold VOk;omega
  · split
    · exact vok_mul hv60
    · exact hval _
 have hle : leastA (bs.map (nextA g ((v : Int) * 1000000) left (valA (suK bs st g) false (tabT (suK bs st g) false) ((v : Int) * 1000000) d))) = ((v - 1 : Nat) : Int) * 1000000:=by
  rw [← hat,← hw]
  unfold At.atV
  rw [hv]
  rfl
 have hmem : ((v - 1 : Nat) : Int) * 1000000 ∈ bs.map (nextA g ((v : Int) * 1000000) left (valA (suK bs st g) false (tabT (suK bs st g) false) ((v : Int) * 1000000) d)):=by
  rcases (foldl_min (bs.map (nextA g ((v : Int) * 1000000) left (valA (suK bs st g) false (tabT (suK bs st g) false) ((v : Int) * 1000000) d))) 2000000000).2.2 with h | h
  · unfold leastA at hle;omega
  · unfold leastA at hle;rwa [hle] at h
 obtain ⟨i,i1,i2,i3⟩:=atI_mem _ _ 0 hmem
 rw [List.length_map] at i1
 obtain ⟨b,hb⟩:=zol i1
 have hnx : nextA g ((v : Int) * 1000000) left (valA (suK bs st g) false (tabT (suK bs st g) false) ((v : Int) * 1000000) d) b = ((v - 1 : Nat) : Int) * 1000000:=by
  rw [List.getElem?_map,hb] at i3
  injection i3
 refine ⟨i,b,hb,?_,?_⟩
 · unfold aimQ
   rw [if_pos hop]
   have e : ((d : Int) + 1 - 1).toNat = d:=by omega
   show aimL (At.atV (suK bs st g) false (tabT (suK bs st g) false) ((s : Int)).toNat ((left : Int)).toNat ((d : Int) + 1 - 1).toNat) = _
   rw [e,Int.toNat_natCast,Int.toNat_natCast,hat]
   unfold aimL
   rw [hle,if_neg (by omega),i2,Nat.zero_add]
 · have hvb:=hB b (zmo hb)
   unfold nextA at hnx
   rw [op_eq hvb] at hnx
   by_cases c1 : (left : Int) - scoreOf b = 0 ∧ opensD g b = true
   · left
     rw [if_pos (by simp [c1.1,c1.2])] at hnx
     exact ⟨c1.1,c1.2,by omega⟩
   · rw [if_neg (by simpa using c1)] at hnx
     by_cases c2 : (left : Int) - scoreOf b < lowG g
     · rw [if_pos c2] at hnx;omega
     · rw [if_neg c2] at hnx
       exact .inr ⟨by omega,hnx⟩
def dartS (r : Rk) (bs : List Int) (s : Int) : Nat → List Int × Int
 | 0=>([],s)
 | i + 1 => if (dartS r bs s i).2 = 0 then dartS r bs s i
   else ((dartS r bs s i).1 ++ [bs.getD (aimQ r ⟨s,(dartS r bs s i).2,3 - (i : Int)⟩).1.toNat 0],(dartS r bs s i).2 - scoreOf (bs.getD (aimQ r ⟨s,(dartS r bs s i).2,3 - (i : Int)⟩).1.toNat 0))
structure DartI (bs : List Int) (st g : Int) (s v i : Nat) (x : List Int × Int) : Prop where
 len : x.1.length ≤ i
 full : x.2 ≠ 0 → x.1.length = i
 ex : ∃ L : Nat → Int,L 0 = s ∧ L x.1.length = x.2 ∧ (∀ (j : Nat) (b : Int),x.1[j]? = some b → L (j + 1) = L j - scoreOf b) ∧ ∀ j,j + 1 < x.1.length → lowG g ≤ L (j + 1)
 beds : ∀ b ∈ x.1,b ∈ bs
 now : (lowG g ≤ x.2 ∧ x.2 ≤ s ∧ valA (suK bs st g) false (tabT (suK bs st g) false) ((v : Int) * 1000000) (3 - i) x.2 = ((v - 1 : Nat) : Int) * 1000000) ∨
  (x.2 = 0 ∧ 1 ≤ x.1.length ∧ v = 1 ∧ ∀ b,x.1[x.1.length - 1]? = some b → opensD g b = true)
theorem dart_step {bs : List Int} {st g : Int} (hB : ∀ b ∈ bs,bedOk b = true) (hck : checkR (suK bs st g) = 0) (hr : ROk (suK bs st g)) {s v i : Nat} (hi : i < 3) (h3 : (s : Int) ≤ st)
 (hv : (tabT (suK bs st g) false).getD s 0 = (v : Int) * 1000000) (hv60 : v ≤ 60) (hv1 : 1 ≤ v) {x : List Int × Int} (h : DartI bs st g s v i x) (hs : i = 0 → x.2 = s) (h0 : x.2 ≠ 0) :
 ∃ (k : Nat) (b : Int), bs[k]? = some b ∧ aimQ (suK bs st g) ⟨s, x.2, 3 - (i : Int)⟩ = ((k : Int), ((v - 1 : Nat) : Int) * 1000000, 0) ∧ DartI bs st g s v (i + 1) (x.1 ++ [b], x.2 - scoreOf b) ∧
   ((x.2 - scoreOf b = 0 ∧ opensD g b = true) ∨ lowG g ≤ x.2 - scoreOf b) ∧ lowG g ≤ x.2 ∧ x.2 ≤ s:=by
 have hlg:=lowG_le g
 obtain ⟨B,y⟩:=x
 rcases h.now with ⟨n1,n2,n3⟩ | ⟨n1,_⟩
 · simp only at n1 n2 n3 h0 hs
   obtain ⟨left,hleft⟩ : ∃ left : Nat,y = left:=⟨y.toNat,by omega⟩
   subst hleft
   obtain ⟨d,hd⟩ : ∃ d,3 - i = d + 1:=⟨2 - i,by omega⟩
   rw [hd] at n3
   obtain ⟨k,b,hb,ha,hc⟩:=aim_step hB hck hr (s:=s) (v:=v) (left:=left) (d:=d) n1 (by omega) h3 (by omega) (fun e=>by have:=hs (by omega);omega) hv hv60 hv1 n3
   have ed : (3 : Int) - (i : Int) = (d : Int) + 1:=by omega
   have hbm:=zmo hb
   have hrg:=bed_range (hB b hbm)
   have hsc:=score_le hrg.1 hrg.2
   have hlen:=h.full h0
   simp only at hlen
   obtain ⟨L,l0,l1,l2,l3⟩:=h.ex
   simp only at l0 l1 l2 l3
   refine ⟨k,b,hb,by simp only;rw [ed];exact ha,⟨by simp only [List.length_append,List.length_cons,List.length_nil];omega,fun _=>by simp only [List.length_append,List.length_cons,List.length_nil];omega,?_,fun c hcm=>?_,?_⟩,?_,n1,n2⟩
   · refine ⟨fun j=>if j ≤ i then L j else (left : Int) - scoreOf b,by simp [l0],by simp [hlen];omega,fun j c hj=>?_,fun j hj=>?_⟩
     · simp only at hj ⊢
       by_cases hji : j < i
       · rw [List.getElem?_append_left (by omega)] at hj
         rw [if_pos (by omega),if_pos (by omega)]
         exact l2 j c hj
       · have hje : j = i:=by
          have:=(List.getElem?_eq_some_iff.1 hj).1
          simp only [List.length_append,List.length_cons,List.length_nil] at this
          omega
         subst hje
         rw [List.getElem?_append_right (by omega),hlen,Nat.sub_self] at hj
         injection hj with hj
         subst hj
         rw [if_neg (by omega),if_pos (by omega)]
         rw [← hlen,l1]
     · simp only [List.length_append,List.length_cons,List.length_nil] at hj ⊢
       rw [if_pos (by omega)]
       by_cases hje : j + 1 < B.length
       · exact l3 j hje
       · have : j + 1 = B.length:=by omega
         rw [this,l1];exact n1
   · simp only at hcm
     rcases List.mem_append.1 hcm with hcm | hcm
     · exact h.beds c hcm
     · rw [List.mem_singleton] at hcm;rw [hcm];exact hbm
   · rcases hc with ⟨c1,c2,c3⟩ | ⟨c1,c2⟩
     · right
       refine ⟨c1,by simp,c3,fun c hcc=>?_⟩
       simp only [List.length_append,List.length_cons,List.length_nil] at hcc
       rw [List.getElem?_append_right (by omega),show B.length + (0 + 1) - 1 - B.length = 0 by omega] at hcc
       injection hcc with hcc
       rw [← hcc];exact c2
     · left
       simp only
       refine ⟨c1,by omega,?_⟩
       rw [show 3 - (i + 1) = d by omega]
       exact c2
   · rcases hc with ⟨c1,c2,_⟩ | ⟨c1,_⟩
     · exact .inl ⟨c1,c2⟩
     · exact .inr c1
 · exact absurd n1 h0
end Go.Proofs.Ytgfbenanljjgaaa.Du.Th.Ai
