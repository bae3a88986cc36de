/- Part 5 of the texts of this claim. -/
import Derived.Test.YtobokbhpeaakjaaVM4
import Derived.Lib.EndianBits
namespace Go.Oc
open Go Go.RowKit
theorem sub_freeze (s : AS) (t k v sz off m : Nat) (hk0 : k < 1000) (ht : s.tm t = .os k v sz off m) (hv : v = s.ver k) (hc : match (s.rows k).c with | .arr _ sz' es=>sz = sz' ∧ off + m ≤ es.length | .arc _ sz' es _=>sz = sz' ∧ off + m ≤ es.length | _=>False) :
 Sub s { s with tm:=upd s.tm t (.r (match (s.rows k).c with | .arr _ _ es=>RV.sl sz ((es.drop off).take m) | .arc _ _ es _=>RV.sl sz ((es.drop off).take m) | _=>.un)),rows:=upd s.rows k ⟨(s.rows k).ver + 1,.dead⟩ }:=fun _ _ _ ⟨_,hp⟩=>hp.freeze t k v sz off m hk0 ht hv hc
section
variable {n : Nat} {l : List (Nat × AV)} {vs : Nat → Nat} {cs : List (Nat × RowC)}
theorem sub_frz (t k : Nat) {sz off m ty : Nat} {es : List (List RV)} (hk0 : k < 1000) (ht : look l t = .os k (vs k) sz off m) (hc : lookc cs k = .arr ty sz es) (hle : off + m ≤ es.length) :
 Sub (st n l vs cs) (st n ((t,.r (.sl sz ((es.drop off).take m))) :: l) (upd vs k (vs k + 1)) (delc cs k)):=by
 have:=sub_freeze (st n l vs cs) t k (vs k) sz off m hk0 ht rfl (by show match lookc cs k with | .arr _ sz' es=>sz = sz' ∧ off + m ≤ es.length | .arc _ sz' es _=>sz = sz' ∧ off + m ≤ es.length | _=>False; rw [hc]; exact ⟨rfl,hle⟩)
 have e : ({ st n l vs cs with tm:=upd (st n l vs cs).tm t (.r (match ((st n l vs cs).rows k).c with | .arr _ _ es=>RV.sl sz ((es.drop off).take m) | .arc _ _ es _=>RV.sl sz ((es.drop off).take m) | _=>.un)),rows:=upd (st n l vs cs).rows k ⟨((st n l vs cs).rows k).ver + 1,.dead⟩ } : AS)
  = st n ((t,.r (.sl sz ((es.drop off).take m))) :: l) (upd vs k (vs k + 1)) (delc cs k):=by
  simp only [st,AS.mk.injEq,true_and]
  constructor
  · funext j
    show upd (look l) t (.r (match lookc cs k with | .arr _ _ es=>RV.sl sz ((es.drop off).take m) | .arc _ _ es _=>RV.sl sz ((es.drop off).take m) | _=>.un)) j = look ((t,.r (.sl sz ((es.drop off).take m))) :: l) j
    rw [hc]; rfl
  · funext j
    rw [lookc_delc]
    unfold upd
    split <;> rfl
 rwa [e] at this
def FitV (n : Nat) (F : (Nat → Nat) → List (Nat × AV)) (R : (Nat → Nat) → List (Nat × RowC)) (s : AS) : Prop:=∃ vs,Sub s (st n (F vs) vs (R vs))
theorem zj (ks : List Nat) {F : (Nat → Nat) → List (Nat × AV)} {R : (Nat → Nat) → List (Nat × RowC)} (h1 : allEq l (F (killV vs ks))) (h2 : killC cs ks = R (killV vs ks)) (h3 : small ks = true:=by rfl) : FitV n F R (st n l vs cs):=by
 refine ⟨killV vs ks,(sub_kills ks vs cs h3).trans ?_⟩
 rw [← h2]
 exact sub_look _ (allEq_mem h1)
theorem awp_whileV {P : Program} {C : Ctx} {c : Code} {Q : Exit → AS → Prop} {s : AS} {α : Type} (F : α → (Nat → Nat) → List (Nat × AV)) (R : α → (Nat → Nat) → List (Nat × RowC)) (I : α → Prop) (m : α → Nat) (x0 : α)
 (h0 : FitV n (F x0) (R x0) s) (hI : I x0)
 (round : ∀ x vs,I x → awp P C c (andThen (fun s'=>∃ y,I y ∧ m y < m x ∧ FitV n (F y) (R y) s') Q) (st n (F x vs) vs (R x vs))) : awp P C (.loop c) Q s:=by
 refine awp_loop (fun k s=>∃ x,I x ∧ m x = k ∧ FitV n (F x) (R x) s) (m x0) ⟨x0,hI,rfl,h0⟩ ?_
 rintro k s ⟨x,hx,rfl,vs,hs⟩
 refine zw hs (awp_mono ?_ (round x vs hx))
 intro e s' hq
 cases e with
 | normal =>
   obtain ⟨y,hy,hlt,hf⟩:=hq
   exact ⟨m y,hlt,y,hy,rfl,hf⟩
 | _=>exact hq
end
end Go.Oc

namespace Go.Oc
open Go Go.RowKit
set_option linter.unusedVariables false
theorem relV_set {w : World} {p : Plan} {ver : Nat → Nat} {y : AV} : ∀ {xs : List AV} {vs : List Value} {i : Nat},AV.relV w p ver xs vs → (∀ u,vs[i]? = some u → y.rel w p ver u) → AV.relV w p ver (xs.set i y) vs
 | [],vs,i,h,_=>by simpa using h
 | x :: xs, vs, 0, h, hy => by
   simp only [AV.relV] at h
   obtain ⟨u,us,rfl,h1,h2⟩:=h
   simp only [List.set_cons_zero,AV.relV];exact ⟨u,us,rfl,hy u rfl,h2⟩
 | x :: xs, vs, i + 1, h, hy => by
   simp only [AV.relV] at h
   obtain ⟨u,us,rfl,h1,h2⟩:=h
   simp only [List.set_cons_succ,AV.relV];exact ⟨u,us,rfl,h1,relV_set h2 fun v hv=>hy v (by simpa using hv)⟩
theorem SR.cell {C : Ctx} {p : Plan} {a : Act} {w : World} {s : AS} (hp : SR C p s a w) (kb i : Nat) {cells : List AV} {x y : AV} (hbox : (s.rows kb).c = .box cells) (hi : cells[i]? = some x)
 (hy : ∀ {u : Value},x.rel w p s.ver u → y.rel w p s.ver u) : SR C p { s with rows:=upd s.rows kb ⟨(s.rows kb).ver,.box (cells.set i y)⟩ } a w:=by
 have hr:=hp.rw kb
 rw [hbox] at hr
 simp only [rowRel] at hr
 obtain ⟨b,cs,t,h1,h2,h3,h4⟩:=hr
 refine hp.setRow (w':=w) kb _ (by rw [hbox]; rfl) (fun _ _ _ _ h=>by cases h) h1 rfl rfl rfl rfl (fun _ _=>rfl) fun _=>?_
 simp only [rowRel]
 refine ⟨b,cs,t,h1,h2,relV_set h3 (fun u hu=>?_),h4⟩
 obtain ⟨u',hu',hx⟩:=AV.relV_get h3 hi
 rw [hu] at hu'
 injection hu' with e
 subst e
 exact hy hx
theorem sub_freezeB (s : AS) (kb i k v sz off m : Nat) {cells : List AV} (hk0 : k < 1000) (hne : kb ≠ k) (hbox : (s.rows kb).c = .box cells) (hi : cells[i]? = some (.os k v sz off m)) (hv : v = s.ver k)
 (hc : match (s.rows k).c with | .arr _ sz' es=>sz = sz' ∧ off + m ≤ es.length | .arc _ sz' es _=>sz = sz' ∧ off + m ≤ es.length | _=>False) :
 Sub s { s with rows:=upd (upd s.rows k ⟨(s.rows k).ver + 1,.dead⟩) kb ⟨(s.rows kb).ver,.box (cells.set i (.r (match (s.rows k).c with | .arr _ _ es=>RV.sl sz ((es.drop off).take m) | .arc _ _ es _=>RV.sl sz ((es.drop off).take m) | _=>.un)))⟩ }:=fun C a w ⟨p,hp⟩=>by
 have h1:=hp.reRow (w':=w) k hk0 .dead rfl none 1 (by simp [maxLen]) rfl rfl rfl (Nat.le_refl _) (fun _ _ _=>rfl) (fun _ h=>by cases h) (fun p' ver' _ hβ hγ _=>by simp only [rowRel]; exact ⟨hβ,hγ⟩)
 have hr:=hp.rw kb
 rw [hbox] at hr
 simp only [rowRel] at hr
 obtain ⟨b,cs,t,g1,g2,g3,g4⟩:=hr
 obtain ⟨u,hu,hval⟩:=AV.relV_get g3 hi
 have put : ∀ {p2 : Plan},SR C p2 { s with rows:=upd s.rows k ⟨(s.rows k).ver + 1,.dead⟩ } a w → p2.β kb = p.β kb → (∀ b,p.R b → p2.R b) → (∀ b,p.β k = some b → p2.R b) →
  SRel C { s with rows:=upd (upd s.rows k ⟨(s.rows k).ver + 1,.dead⟩) kb ⟨(s.rows kb).ver,.box (cells.set i (.r (match (s.rows k).c with | .arr _ _ es=>RV.sl sz ((es.drop off).take m) | .arc _ _ es _=>RV.sl sz ((es.drop off).take m) | _=>.un)))⟩ } a w:=fun {p2} h2 hβ2 hR hR2=>by
  have hr2:=h2.rw kb
  rw [show (upd s.rows k ⟨(s.rows k).ver + 1,.dead⟩ kb).c = .box cells by rw [upd_other _ _ hne]; exact hbox] at hr2
  simp only [rowRel] at hr2
  obtain ⟨b',cs',t',f1,f2,f3,f4⟩:=hr2
  have eb : b' = b:=by rw [hβ2,g1] at f1; injection f1 with e; exact e.symm
  subst eb
  rw [g2] at f2
  injection f2 with e
  injection e with e1 e2 e3
  subst e1
  have:=h2.setRow (w':=w) kb (.box (cells.set i (.r (match (s.rows k).c with | .arr _ _ es=>RV.sl sz ((es.drop off).take m) | .arc _ _ es _=>RV.sl sz ((es.drop off).take m) | _=>.un))))
   (by rw [show (upd s.rows k ⟨(s.rows k).ver + 1,.dead⟩ kb).c = .box cells by rw [upd_other _ _ hne]; exact hbox]; rfl) (fun _ _ _ _ h=>by cases h) f1 rfl rfl rfl rfl (fun _ _=>rfl) (fun _=>by
    simp only [rowRel]
    refine ⟨b',cs,t',f1,by rw [g2,e2],relV_set f3 (fun u' hu'=>?_),f4⟩
    rw [hu] at hu'
    injection hu' with e
    subst e
    simp only [AV.rel];exact snap_os hp hv hc hval hR hR2)
  rw [show (upd s.rows k ⟨(s.rows k).ver + 1,.dead⟩ kb).ver = (s.rows kb).ver by rw [upd_other _ _ hne]] at this
  exact ⟨p2,this⟩
 cases hβ : p.β k with
 | none=>exact put h1 (upd_other _ _ hne) (fun _ h=>h) (fun b hb=>by rw [hβ] at hb; cases hb)
 | some b =>
   obtain ⟨g1,_,g2⟩:=hp.bl k b hβ
   have h2:=h1.publish (b:=b) g1 (g2.imp id fun h=>h.resolve_left (fun h=>by omega)) (fun j hj=>by
    have hj' : upd p.β k none j = some b:=hj
    by_cases e : j = k
    · subst e; rw [upd_same] at hj'; cases hj'
    · rw [upd_other _ _ e] at hj'; exact e (hp.ij j k b hj' hβ)) (hp.ex.publish hβ)
   exact put h2 (upd_other _ _ hne) (fun _ h=>.inl h) (fun b' hb'=>by rw [hβ] at hb'; injection hb' with e; exact .inr e.symm)
section
variable {n : Nat} {l : List (Nat × AV)} {vs : Nat → Nat} {cs : List (Nat × RowC)}
theorem sub_frzB (kb i k : Nat) {cells : List AV} {sz off m ty : Nat} {es : List (List RV)} (hk0 : k < 1000) (hne : kb ≠ k) (hb : lookc cs kb = .box cells) (hi : cells[i]? = some (.os k (vs k) sz off m)) (hc : lookc cs k = .arr ty sz es) (hle : off + m ≤ es.length) :
 Sub (st n l vs cs) (st n l (upd vs k (vs k + 1)) (insc (delc cs k) kb (.box (cells.set i (.r (.sl sz ((es.drop off).take m))))))):=by
 have:=sub_freezeB (st n l vs cs) kb i k (vs k) sz off m hk0 hne hb hi rfl (by show match lookc cs k with | .arr _ sz' es=>sz = sz' ∧ off + m ≤ es.length | .arc _ sz' es _=>sz = sz' ∧ off + m ≤ es.length | _=>False; rw [hc]; exact ⟨rfl,hle⟩)
 have e : ({ st n l vs cs with rows:=upd (upd (st n l vs cs).rows k ⟨((st n l vs cs).rows k).ver + 1,.dead⟩) kb ⟨((st n l vs cs).rows kb).ver,.box (cells.set i (.r (match ((st n l vs cs).rows k).c with | .arr _ _ es=>RV.sl sz ((es.drop off).take m) | .arc _ _ es _=>RV.sl sz ((es.drop off).take m) | _=>.un)))⟩ } : AS)
  = st n l (upd vs k (vs k + 1)) (insc (delc cs k) kb (.box (cells.set i (.r (.sl sz ((es.drop off).take m)))))):=by
  simp only [st,AS.mk.injEq,true_and]
  funext j
  rw [lookc_insc,lookc_delc,hc]
  unfold upd
  split
  · rename_i e; subst e; rw [if_neg hne]
  · split <;> rfl
 rwa [e] at this
def Lent (vs : Nat → Nat) : Prop:=∀ k,1000 ≤ k → vs k = 0
theorem lent_zero : Lent (fun _=>0):=fun _ _=>rfl
theorem lent_upd {vs : Nat → Nat} {k m : Nat} (hk : k < 1000) (h : Lent vs) : Lent (upd vs k m):=fun j hj=>by
 rw [upd_other _ _ (by omega)]; exact h j hj
theorem lent_kill : ∀ {ks : List Nat} {vs : Nat → Nat},small ks = true → Lent vs → Lent (killV vs ks)
 | [],_,_,h=>h
 | k :: ks, vs, hs, h => by
   simp only [small,Bool.and_eq_true,decide_eq_true_eq] at hs
   show Lent (killV (upd vs k (vs k + 1)) ks)
   exact lent_kill hs.2 (lent_upd hs.1 h)
def Fit0 (n : Nat) (F : (Nat → Nat) → List (Nat × AV)) (R : List (Nat × RowC)) (s : AS) : Prop:=∃ vs,Lent vs ∧ Sub s (st n (F vs) vs R)
theorem fit0_of (ks : List Nat) (h0 : Lent vs) {F : (Nat → Nat) → List (Nat × AV)} {R : List (Nat × RowC)} (h1 : allEq l (F (killV vs ks))) (h2 : killC cs ks = R) (h3 : small ks = true:=by rfl) : Fit0 n F R (st n l vs cs):=by
 refine ⟨killV vs ks,lent_kill h3 h0,(sub_kills ks vs cs h3).trans ?_⟩
 subst h2
 exact sub_look _ (allEq_mem h1)
theorem awp_upto0 {P : Program} {C : Ctx} {c : Code} {Q : Exit → AS → Prop} {s : AS} (N : Nat) (F : Nat → (Nat → Nat) → List (Nat × AV)) (R : Nat → List (Nat × RowC)) (I : Nat → Prop) (i0 : Nat)
 (h0 : Fit0 n (F i0) (R i0) s) (hi : i0 ≤ N) (hI : I i0)
 (round : ∀ i vs,Lent vs → i ≤ N → I i → awp P C c (andThen (fun s'=>i < N ∧ I (i + 1) ∧ Fit0 n (F (i + 1)) (R (i + 1)) s') Q) (st n (F i vs) vs (R i))) : awp P C (.loop c) Q s:=by
 refine awp_loop (fun k s=>∃ i,(i ≤ N ∧ I i) ∧ N - i = k ∧ Fit0 n (F i) (R i) s) (N - i0) ⟨i0,⟨hi,hI⟩,rfl,h0⟩ ?_
 rintro k s ⟨i,⟨hi,hI⟩,rfl,vs,hv,hs⟩
 refine zw hs (awp_mono ?_ (round i vs hv hi hI))
 intro e s' hq
 cases e with
 | normal =>
   obtain ⟨h1,h2,h3⟩:=hq
   exact ⟨N - (i + 1),by omega,i + 1,⟨h1,h2⟩,rfl,h3⟩
 | _=>exact hq
end
end Go.Oc

namespace Go.Oc
open Go Go.RowKit
set_option linter.unusedVariables false
theorem sub_adoptB (s : AS) (kb i k e sz : Nat) {cells : List AV} (hk0 : k < 1000) (hne : kb ≠ k) (hbox : (s.rows kb).c = .box cells) (hi : cells[i]? = some (.r .ns)) :
 Sub s { s with rows:=upd (upd s.rows k ⟨(s.rows k).ver + 1,.arr e sz []⟩) kb ⟨(s.rows kb).ver,.box (cells.set i (.os k ((s.rows k).ver + 1) sz 0 0))⟩ }:=fun C a w ⟨p,hp⟩=>by
 have h1:=hp.reRow (w':=w) k hk0 (.arr e sz []) rfl none 0 (Nat.zero_le _) rfl rfl rfl (Nat.le_refl _) (fun _ _ _=>rfl) (fun _ h=>by cases h) (fun p' ver' _ hβ hγ _=>by simp [rowRel,hβ,hγ])
 have:=h1.cell (x:=.r .ns) (y:=.os k ((s.rows k).ver + 1) sz 0 0) kb i (cells:=cells) (by show (upd s.rows k ⟨(s.rows k).ver + 1,.arr e sz []⟩ kb).c = _; rw [upd_other _ _ hne]; exact hbox) hi (fun {u} hx=>by
  simp only [AV.rel,RV.rel] at hx
  obtain ⟨A,hA⟩:=hx
  simp only [AV.rel,AS.ver,upd_same];exact ⟨Nat.le_refl _,fun _=>.inl ⟨trivial,trivial,trivial,trivial,A,hA⟩⟩)
 rw [show (upd s.rows k ⟨(s.rows k).ver + 1,.arr e sz []⟩ kb).ver = (s.rows kb).ver by rw [upd_other _ _ hne]] at this
 exact ⟨_,this⟩
section
variable {n : Nat} {l : List (Nat × AV)} {vs : Nat → Nat} {cs : List (Nat × RowC)}
theorem sub_ownB (kb i k e sz : Nat) {cells : List AV} (hk0 : k < 1000) (hne : kb ≠ k) (hb : lookc cs kb = .box cells) (hi : cells[i]? = some (.r .ns)) :
 Sub (st n l vs cs) (st n l (upd vs k (vs k + 1)) (insc (insc cs k (.arr e sz [])) kb (.box (cells.set i (.os k (vs k + 1) sz 0 0))))):=by
 have:=sub_adoptB (st n l vs cs) kb i k e sz hk0 hne hb hi
 have e : ({ st n l vs cs with rows:=upd (upd (st n l vs cs).rows k ⟨((st n l vs cs).rows k).ver + 1,.arr e sz []⟩) kb ⟨((st n l vs cs).rows kb).ver,.box (cells.set i (.os k (((st n l vs cs).rows k).ver + 1) sz 0 0))⟩ } : AS)
  = st n l (upd vs k (vs k + 1)) (insc (insc cs k (.arr e sz [])) kb (.box (cells.set i (.os k (vs k + 1) sz 0 0)))):=by
  simp only [st,AS.mk.injEq,true_and]
  funext j
  rw [lookc_insc,lookc_insc]
  unfold upd
  split
  · rename_i e; subst e; rw [if_neg hne]
  · split <;> rfl
 rwa [e] at this
def FitW (n : Nat) (F : (Nat → Nat) → List (Nat × AV)) (R : (Nat → Nat) → List (Nat × RowC)) (s : AS) : Prop:=∃ vs,Lent vs ∧ Sub s (st n (F vs) vs (R vs))
end
def agIs (ks : List (Nat × RowC)) (rows : Nat → Row) : AV → List AV → Prop
 | .ag cs,cs0=>frzPL ks rows cs ∧ frzL ks rows cs = cs0
 | _,_=>False
theorem agIs_ag {ks : List (Nat × RowC)} {rows : Nat → Row} {cs cs0 : List AV} : agIs ks rows (.ag cs) cs0 = (frzPL ks rows cs ∧ frzL ks rows cs = cs0):=rfl
def mpostG (P : Program) (rv : ResultVar) (cs0 : List AV) (L L' : List (Nat × RowC)) : Exit → AS → Prop
 | .normal,s=>resC (resA P s rv) (fun x=>agIs L s.rows x cs0) ∧ mfin L s.rows L L'
 | .ret,s=>resC (resA P s rv) (fun x=>agIs L s.rows x cs0) ∧ mfin L s.rows L L'
 | _,_=>False
theorem mpostG_normal {P : Program} {s : AS} {rv : ResultVar} {cs0 : List AV} {L L' : List (Nat × RowC)} : mpostG P rv cs0 L L' .normal s = (resC (resA P s rv) (fun x=>agIs L s.rows x cs0) ∧ mfin L s.rows L L'):=rfl
theorem mpostG_ret {P : Program} {s : AS} {rv : ResultVar} {cs0 : List AV} {L L' : List (Nat × RowC)} : mpostG P rv cs0 L L' .ret s = (resC (resA P s rv) (fun x=>agIs L s.rows x cs0) ∧ mfin L s.rows L L'):=rfl
section
variable {P : Program} {C : Ctx} {p p0 : Plan} {s : AS} {a : Act} {w : World}
end
attribute [go_sem] agIs_ag mpostG_normal mpostG_ret
end Go.Oc

namespace Go.Oc
open Go Go.RowKit
set_option linter.unusedVariables false
theorem relC_plain {w : World} {p : Plan} {ver : Nat → Nat} {R' : Nat → Prop} (hR : ∀ b,p.R b → R' b) {b : Nat} {cells : Array Value} {ty : TypeId} (hh : w.heap[b]? = some (.cells cells ty (0,0))) (h1 : ∀ u ∈ cells.toList,u.oneCell' = true) :
 ∀ (cs : List RV) (us : List Value) (j : Nat),(∀ i u,us[i]? = some u → cells[j + i]? = some u) → AV.relV w p ver (cs.map .r) us → RV.relC w R' cs ⟨b,0,none⟩ j
 | [],_,_,_,_=>by simp [RV.relC]
 | c :: cs, us, j, hget, hV => by
   simp only [List.map_cons,AV.relV] at hV
   obtain ⟨u,us,rfl,hu,hV⟩:=hV
   simp only [RV.relC]
   have hc0 : cells[j]? = some u:=by simpa using hget 0 u (by simp)
   refine ⟨⟨u,?_,h1 u (by simpa using List.mem_of_getElem? (by simpa using hc0 : cells.toList[j]? = some u)),?_⟩,?_⟩
   · rw [add_at,Nat.zero_add,cell_of_row w b j cells ty (0,0) hh]; exact hc0
   · simp only [AV.rel] at hu
     exact RV.rel_mono hR (fun _ _=>rfl) _ _ hu
   · exact relC_plain hR hh h1 cs us (j + 1) (fun i u hi=>by
      have:=hget (i + 1) u (by simpa using hi)
      rwa [show j + 1 + i = j + (i + 1) by omega]) hV
theorem sub_freezeP (s : AS) (t k : Nat) {rs : List RV} (hk0 : k < 1000) (ht : s.tm t = .pt k (s.ver k) 0) (hc : (s.rows k).c = .box (rs.map .r)) :
 Sub s { s with tm:=upd s.tm t (.r (.rp rs)),rows:=upd s.rows k ⟨(s.rows k).ver + 1,.dead⟩ }:=fun C a w ⟨p,hp⟩=>by
 have h1:=hp.reRow (w':=w) k hk0 .dead rfl none 1 (by simp [maxLen]) rfl rfl rfl (Nat.le_refl _) (fun _ _ _=>rfl) (fun _ h=>by cases h) (fun p' ver' _ hβ hγ _=>by simp only [rowRel]; exact ⟨hβ,hγ⟩)
 have hval:=hp.tm t
 rw [ht] at hval
 have hr:=hp.rw k
 rw [hc] at hr
 simp only [rowRel] at hr
 obtain ⟨b,cs,ty,g1,g2,g3,g4⟩:=hr
 simp only [AV.rel] at hval
 obtain ⟨b',e1,e2⟩:=hval.2 trivial
 rw [g1] at e1
 injection e1 with e1
 subst e1
 obtain ⟨q1,_,q2⟩:=hp.bl k b g1
 have h2:=h1.publish (b:=b) q1 (q2.imp id fun h=>h.resolve_left (fun h=>by omega)) (fun j hj=>by
  have hj' : upd p.β k none j = some b:=hj
  by_cases e : j = k
  · subst e; rw [upd_same] at hj'; cases hj'
  · rw [upd_other _ _ e] at hj'; exact e (hp.ij j k b hj' g1)) (hp.ex.publish g1)
 refine ⟨_,{ h2 with tm:=fun j=>?_ }⟩
 show AV.rel w _ _ (upd s.tm t _ j) _
 by_cases hj : j = t
 · subst hj
   rw [upd_same]
   simp only [AV.rel,RV.rel]
   refine ⟨_,e2,.inr rfl,?_⟩
   exact relC_plain (fun _ h=>.inl h) g2 g4 _ _ _ (fun i u h=>by simpa using h) g3
 · rw [upd_other _ _ hj]
   exact h2.tm j
section
variable {n : Nat} {l : List (Nat × AV)} {vs : Nat → Nat} {cs : List (Nat × RowC)}
theorem sub_frzP (t k : Nat) (rs : List RV) (hk0 : k < 1000) (ht : look l t = .pt k (vs k) 0) (hc : lookc cs k = .box (rs.map .r)) :
 Sub (st n l vs cs) (st n ((t,.r (.rp rs)) :: l) (upd vs k (vs k + 1)) (delc cs k)):=by
 have:=sub_freezeP (st n l vs cs) t k hk0 ht hc
 have e : ({ st n l vs cs with tm:=upd (st n l vs cs).tm t (.r (.rp rs)),rows:=upd (st n l vs cs).rows k ⟨((st n l vs cs).rows k).ver + 1,.dead⟩ } : AS) = st n ((t,.r (.rp rs)) :: l) (upd vs k (vs k + 1)) (delc cs k):=by
  simp only [st,AS.mk.injEq,true_and]
  constructor
  · funext j
    show upd (look l) t (.r (.rp rs)) j = look ((t,.r (.rp rs)) :: l) j
    rfl
  · funext j
    rw [lookc_delc]
    unfold upd
    split <;> rfl
 rwa [e] at this
end
end Go.Oc

namespace Go.Oc
open Go Go.RowKit
set_option linter.unusedSimpArgs false
set_option linter.unusedVariables false
set_option linter.unnecessarySimpa false
section
variable {P : Program} {C : Ctx} {s : AS} {ops : Array Oper}
theorem aops_seq2 {Q : AS → Prop} {Q' : Exit → Act → World → Prop} {l2 : List Oper} {n : Nat} (hQ : ∀ s a w,s.n = n → Q s → SRel C s a w → wpListIn (fnc C.rd) 0 P ops Q' l2 a w) : ∀ (l : List Oper) (s : AS) (a : Act) (w : World),s.n = n → dstOk l.toArray s.n = true → aops P false ops l Q s → SRel C s a w → wpListIn (fnc C.rd) 0 P ops Q' (l ++ l2) a w
 | [],s,a,w,hn0,_,h,hs=>hQ s a w hn0 h hs
 | o :: l, s, a, w, hn0, hd, h, hs => by
   rw [List.cons_append]
   have hd0 : ∀ t,o.dst = some t → t < s.n:=dstOk_get (i:=0) hd (by simp)
   have hdl : dstOk l.toArray s.n = true:=by
    unfold dstOk at hd ⊢
    simp only [List.all_toArray,List.all_cons,Bool.and_eq_true] at hd ⊢
    exact hd.2
   obtain ⟨p,hp⟩:=hs
   have run : ∀ {s1 : AS},s1 = s → xop P false o (aops P false ops l Q) s1 → wantA ops s o = some true → wpListIn (fnc C.rd) 0 P ops Q' (o :: (l ++ l2)) a w:=fun e hop hw=>by
    subst e
    unfold wpListIn
    rw [if_pos (wantA_sound hp hw)]
    refine xop_sound hp hop hd0 (fun a' w' p' s' hs' hn hK=>?_) (dstOk_nd (i:=0) hd (by simp))
    exact aops_seq2 hQ l _ a' w' (hn.trans hn0) (by rw [hn]; exact hdl) hK ⟨p',hs'⟩
   have skip : ∀ {s1 : AS},s1 = s → aops P false ops l Q (s1.put o.dst (.r .ud)) → wantA ops s o = some false → wpListIn (fnc C.rd) 0 P ops Q' (o :: (l ++ l2)) a w:=fun e hop hw=>by
    subst e
    unfold wpListIn
    rw [wantA_sound hp hw]
    simp only [Bool.false_eq_true,if_false]
    refine ⟨fun _ _=>trivial,?_⟩
    have:=hp.put' (d:=o.dst) (av:=.r .ud) (v:=undef) (by simp only [AV.rel,RV.rel]) hd0
    exact aops_seq2 hQ l _ _ w ((put_n _ _ _).trans hn0) (by rw [put_n]; exact hdl) hop ⟨p,this⟩
   unfold aops at h
   split at h
   · rename_i hg
     exact run rfl h (by simp [wantA,hg])
   · rename_i g want hg
     split at h
     · rename_i ht
       exact skip rfl h (by simp [wantA,hg,ht])
     · rename_i t ht
       split at h
       · rename_i b hb
         by_cases hw : b = want
         · subst hw
           exact run (put_self hb) (h.1 rfl) (by simp [wantA,hg,ht,hb])
         · have hw' : b = !want:=by cases b <;> cases want <;> simp_all
           subst hw'
           exact skip (put_self hb) (h.2 rfl) (by simp [wantA,hg,ht,hb])
       · rename_i hb
         exact skip rfl h (by simp [wantA,hg,ht,hb])
       · exact h.elim
def sops (P : Program) (C : Ctx) (ops : Array Oper) (l : List Oper) (Q : Exit → AS → Prop) (s : AS) : Prop:=∀ a w,SRel C s a w → wpListIn (fnc C.rd) 0 P ops (fun e a' w'=>∃ s',SRel C s' a' w' ∧ Q e s') l a w
variable {Q : Exit → AS → Prop}
theorem awp_long {id : Nat} {l : List Oper} (h : sops P C l.toArray l Q s) : awp P C (.region id l.toArray false) Q s:=fun a w hs=>wpIn_region_list (h a w hs)
theorem sops_take (k : Nat) {l : List Oper} (hd : dstOk (l.take k).toArray s.n = true) (h : ∀ K : AS → Prop,(∀ s',s'.n = s.n → sops P C ops (l.drop k) Q s' → K s') → aops P false ops (l.take k) K s) : sops P C ops l Q s:=fun a w hs=>by
 have h1:=h (fun s'=>s'.n = s.n → sops P C ops (l.drop k) Q s') (fun s' _ hq _=>hq)
 have:=aops_seq2 (Q':=fun e a' w'=>∃ s',SRel C s' a' w' ∧ Q e s') (l2:=l.drop k) (n:=s.n) (fun s' a' w' hn hq hs'=>hq hn a' w' hs') (l.take k) s a w rfl hd h1 hs
 rwa [List.take_append_drop] at this
theorem sops_sub {l : List Oper} {s' : AS} (h : Sub s s') (hq : sops P C ops l Q s') : sops P C ops l Q s:=fun a w hs=>hq a w (h C a w hs)
theorem sops_end {l : List Oper} (hd : dstOk l.toArray s.n = true) (h : ∀ K : AS → Prop,(∀ s,Q .normal s → K s) → aops P false ops l K s) : sops P C ops l Q s:=fun a w hs =>
 aops_seq (fun s a w hq hs=>⟨s,hs,hq⟩) l s a w hd (h _ fun _ h=>h) hs
theorem awp_fitV {c : Code} {n : Nat} {F : (Nat → Nat) → List (Nat × AV)} {R : (Nat → Nat) → List (Nat × RowC)} (h : FitV n F R s) (k : ∀ vs,awp P C c Q (st n (F vs) vs (R vs))) : awp P C c Q s:=by
 obtain ⟨vs,h⟩:=h
 exact zw h (k vs)
theorem awp_joinV {n : Nat} {c d : Code} {Q1 : Exit → AS → Prop} {α : Type} (F : α → (Nat → Nat) → List (Nat × AV)) (R : α → (Nat → Nat) → List (Nat × RowC)) (I : α → Prop)
 (h0 : ∀ s,awp P C d Q1 s → Q .normal s) (h1 : awp P C c (andThen (fun s'=>∃ z,I z ∧ FitV n (F z) (R z) s') Q) s) (h2 : ∀ z vs,I z → awp P C d Q1 (st n (F z vs) vs (R z vs))) : awp P C c Q s:=by
 refine awp_mono ?_ h1
 intro e s' hq
 cases e with
 | normal =>
   obtain ⟨z,hz,hf⟩:=hq
   exact h0 s' (awp_fitV hf fun vs=>h2 z vs hz)
 | _=>exact hq
end
end Go.Oc

namespace Go.Oc
open Go Go.RowKit
set_option linter.unusedSimpArgs false
set_option linter.unusedVariables false
def ICalls (P : Program) (z : Bool) (F : FuncId) (caps : List RV) (xs : List (List RV)) : Prop :=
 callable P F = true ∧ ∀ (w : World) (R : Nat → Prop) (vs : Array Value) (X : XS) (Ψ Θ : Nat → Prop),(∀ b,R b → b < w.heap.size) → RV.relV w R caps vs.toList → X.z = z → (z = false → ∀ b,R b → X.R b) → X.n0 ≤ w.heap.size → YOk P X →
  (∀ b,Ψ b → b < w.heap.size) → (∀ b,Θ b → b < w.heap.size) → (∀ b,R b → ¬ Θ b) → X.X (some xs) w Ψ Θ →
  Calls P F (#[.func (.yield X.l) #[] #[]] ++ vs) w fun e w'=>(∃ v,e = .returned v) ∧ (∃ Ψ' Θ',X.X (some []) w' Ψ' Θ' ∨ X.X none w' Ψ' Θ')
def ipost (P : Program) : Exit → AS → Prop
 | .normal,s=>∃ l z,(s.rows 999).c = .gh P l z (some []) ∨ (s.rows 999).c = .gh P l z none
 | .ret,s=>∃ l z,(s.rows 999).c = .gh P l z (some []) ∨ (s.rows 999).c = .gh P l z none
 | _,_=>False
section
variable {P : Program} {C : Ctx} {p p1 p3 : Plan} {s s1 s3 : AS} {a a1 a3 : Act} {w w1 w2 w3 : World} {L : Nat} {R : Nat → Prop}
def Cin (C : Ctx) (p : Plan) (R : Nat → Prop) (w : World) (rd : Option Nat) (Hd : Nat → Prop) : Ctx :=
 { w0:=w,R0:=fun b=>p.R b ∨ R b,bor:=fun b=>C.bor b ∧ ∃ k,1000 ≤ k ∧ p.β k = some b,pin:=C.pin,own:=fun b=>∃ k,p.β k = some b ∧ ¬ (1000 ≤ k ∧ C.bor b),X:=C.X,rd:=rd,hd:=Hd }
theorem own_of {k b : Nat} (h : p.β k = some b) : (1000 ≤ k ∧ (C.bor b ∧ ∃ k,1000 ≤ k ∧ p.β k = some b)) ∨ ∃ k,p.β k = some b ∧ ¬ (1000 ≤ k ∧ C.bor b):=by
 by_cases e : 1000 ≤ k ∧ C.bor b
 · exact .inl ⟨e.1,e.2,k,e.1,h⟩
 · exact .inr ⟨k,h,e⟩
theorem SR.into (h : SR C p s a w) (hn : ∀ o w Ψ Θ,¬ C.X.X o w Ψ Θ) (hos : w2.os = w.os) (htape : w2.tape = w.tape) (hout : w2.output = w.output) (hsize : w2.heap.size = w.heap.size) (hoth : ∀ b,b ≠ L → w2.heap[b]? = w.heap[b]?)
 (hLR : ¬ p.R L) (hLβ : ∀ k,p.β k ≠ some L) (hR : ∀ b,R b → b < w.heap.size ∧ ∀ k,p.β k ≠ some b) {a' : Act} {tm' : Nat → AV} (htm : ∀ t,(tm' t).rel w2 { p with R:=fun b=>p.R b ∨ R b } s.ver (a'.tmps.getD t undef))
 (hsz : a'.tmps.size = s.n) (hdf : a'.defers = []) {rd : Option Nat} {Hd : Nat → Prop} (hHd : ∀ b,Hd b → b < w.heap.size ∧ ¬ C.bor b ∧ ¬ p.R b ∧ ¬ R b ∧ ∀ k,p.β k ≠ some b) (hC : C.X = XS.none) :
 SR (Cin C p R w2 rd Hd) { p with R:=fun b=>p.R b ∨ R b } { s with tm:=tm' } a' w2:=by
 have hk : Kept w w2 p { p with R:=fun b=>p.R b ∨ R b } s.ver s.ver :=
  ⟨fun _ h=>.inl h,fun ad hr=>World.cell?_of_block (hoth _ fun e=>hLR (e ▸ hr)),fun _=>Nat.le_refl _,fun _ _=>⟨rfl,rfl⟩⟩
 have hψ:=h.ex.ψn hn
 exact {
  base:=⟨rfl,rfl,rfl,Nat.le_refl _,fun _ _ _ _=>rfl⟩
  r0:=fun _ h=>h
  rn:=fun _ h=>.inl h
  rb:=fun b hb=>by rw [hsize]; exact hb.elim (h.rb b) (fun hb=>(hR b hb).1)
  tm:=htm
  sz:=hsz
  ex:={
   px:=h.ex.px
   n0:=by show C.X.n0 ≤ _; rw [hC]; exact Nat.zero_le _
   ψ0:=fun hz=>by have : C.X.z = false:=hz; rw [hC] at this; cases this
   ψl:=fun b hb=>((hψ b).1 hb).elim
   θl:=fun b hb=>((hψ b).2 hb).elim
   ψb:=fun k b _=>hψ b
   ψr:=fun b _=>(hψ b).2
   ψo:=fun b _=>by show C.X.n0 ≤ _; rw [hC]; exact Nat.zero_le _
   θo:=fun b hb=>((hψ b).2 hb).elim
   bo:=fun b hb=>by
    show b < w2.heap.size
    rw [hsize]
    rcases hb with ⟨_,k,_,hk⟩ | ⟨k,hk,_⟩
    · exact (h.bl k b hk).1
    · exact (h.bl k b hk).1
   ψn:=fun _ b=>hψ b
   hd:=fun b hb=>by
    obtain ⟨g1,g2,g3,g4,g5⟩:=hHd b hb
    exact ⟨by show b < w2.heap.size; rw [hsize]; exact g1,fun ⟨g,_⟩=>g2 g,fun ⟨k,g,_⟩=>g5 k g,by rw [hsize]; exact g1,fun g=>g.elim g3 g4,(hψ b).1,(hψ b).2,g5⟩
   rm:=fun _=>hdf
   df:=⟨[],hdf,List.nodup_nil,fun D hD=>by cases hD⟩ }
  rw:=fun k=>by
   by_cases e : k = 999
   · have hr:=h.rw k
     show rowRel w2 _ s.ver k (s.rows k).c
     cases hc : (s.rows k).c with
     | gh P' l z left =>
       rw [hc] at hr
       simp only [rowRel] at hr
       exact (hn _ _ _ _ (h.ex.px ▸ hr.2.2.2.2.2.2)).elim
     | _ =>
       refine rowRel_mono hk (.inr ⟨rfl,rfl,rfl,hos,htape,hout,Nat.le_of_eq hsize.symm,fun b hb=>((hψ b).1 hb).elim⟩) rfl rfl (fun b hb=>hoth b fun e=>hLβ k (e ▸ hb)) _ (fun km _ _ _ _ _ b hb=>hoth b fun e=>hLβ km (e ▸ hb)) (by rw [hc] at hr; exact hr)
   · exact rowRel_mono hk (.inl e) rfl rfl (fun b hb=>hoth b fun e=>hLβ k (e ▸ hb)) _ (fun km _ _ _ _ _ b hb=>hoth b fun e=>hLβ km (e ▸ hb)) (h.rw k)
  bl:=fun k b hb=>⟨by rw [hsize]; exact (h.bl k b hb).1,fun hr=>hr.elim (h.bl k b hb).2.1 (fun hr=>(hR b hr).2 k hb),.inr (own_of hb)⟩
  ij:=h.ij
  cap:=h.cap
  pn:=h.pn
  lk:=h.lk }
structure Hop (C : Ctx) (p : Plan) (w : World) (L : Nat) (R : Nat → Prop) (p3 : Plan) (w3 : World) : Prop where
 os : w3.os = w.os
 tape : w3.tape = w.tape
 output : w3.output = w.output
 size : w.heap.size ≤ w3.heap.size
 heap : ∀ b,b < w.heap.size → (∀ k,p.β k ≠ some b) → b ≠ L → w3.heap[b]? = w.heap[b]?
 r : ∀ b,p.R b → p3.R b
 rn : ∀ b,p3.R b → p.R b ∨ R b ∨ w.heap.size ≤ b ∨ ∃ k,p.β k = some b ∧ ¬ (1000 ≤ k ∧ C.bor b)
 bl : ∀ k b,p3.β k = some b → w.heap.size ≤ b ∨ (1000 ≤ k ∧ C.bor b ∧ ∃ k,1000 ≤ k ∧ p.β k = some b) ∨ ∃ k,p.β k = some b ∧ ¬ (1000 ≤ k ∧ C.bor b)
theorem Hop.of (hos : w2.os = w.os) (htape : w2.tape = w.tape) (hout : w2.output = w.output) (hsize : w2.heap.size = w.heap.size) (hoth : ∀ b,b ≠ L → w2.heap[b]? = w.heap[b]?) {rd : Option Nat} {Hd : Nat → Prop}
 (h : SR (Cin C p R w2 rd Hd) p3 s3 a3 w3) : Hop C p w L R p3 w3 where
 os:=h.base.os.trans hos
 tape:=h.base.tape.trans htape
 output:=h.base.output.trans hout
 size:=hsize ▸ h.base.size
 heap:=fun b hb hn hl=>(h.base.block b (by show b < w2.heap.size; rw [hsize]; exact hb) (fun ⟨_,k,_,hk⟩=>hn k hk) (fun ⟨k,hk,_⟩=>hn k hk)).trans (hoth b hl)
 r:=fun b hb=>h.r0 b (.inl hb)
 rn:=fun b hb=>by
  rcases h.rn b hb with g | g | g
  · exact g.elim .inl (fun g=>.inr (.inl g))
  · exact .inr (.inr (.inl (by rw [← hsize]; exact g)))
  · exact .inr (.inr (.inr g))
 bl:=fun k b hb=>by
  rcases (h.bl k b hb).2.2 with g | ⟨g1,g2,k',g3,g4⟩ | g
  · exact .inl (by rw [← hsize]; exact g)
  · exact .inr (.inl ⟨g1,g2,k',g3,g4⟩)
  · exact .inr (.inr g)
theorem Hop.trans (h : Hop C p w L R p1 w1) {C' : Ctx} (hCb : ∀ b,C'.bor b ↔ C.bor b ∧ ∃ k,1000 ≤ k ∧ p.β k = some b) (h' : Hop C' p1 w1 L (fun _=>False) p3 w3) : Hop C p w L R p3 w3 where
 os:=h'.os.trans h.os
 tape:=h'.tape.trans h.tape
 output:=h'.output.trans h.output
 size:=Nat.le_trans h.size h'.size
 heap:=fun b hb hn hl=>by
  refine (h'.heap b (Nat.lt_of_lt_of_le hb h.size) (fun k hk=>?_) hl).trans (h.heap b hb hn hl)
  rcases h.bl k b hk with g | ⟨_,_,k',_,g⟩ | ⟨k',g,_⟩
  · omega
  · exact hn k' g
  · exact hn k' g
 r:=fun b hb=>h'.r b (h.r b hb)
 rn:=fun b hb=>by
  rcases h'.rn b hb with g | g | g | ⟨k,g,g'⟩
  · exact h.rn b g
  · exact g.elim
  · exact .inr (.inr (.inl (Nat.le_trans h.size g)))
  · rcases h.bl k b g with g1 | ⟨g1,g2,g3⟩ | g1
    · exact .inr (.inr (.inl g1))
    · exact (g' ⟨g1,(hCb b).2 ⟨g2,g3⟩⟩).elim
    · exact .inr (.inr (.inr g1))
 bl:=fun k b hb=>by
  rcases h'.bl k b hb with g | ⟨g1,g2,_⟩ | ⟨k',g1,g2⟩
  · exact .inl (Nat.le_trans h.size g)
  · exact .inr (.inl ⟨g1,((hCb b).1 g2).1,((hCb b).1 g2).2⟩)
  · rcases h.bl k' b g1 with q | ⟨q1,q2,q3⟩ | q
    · exact .inl q
    · exact (g2 ⟨q1,(hCb b).2 ⟨q2,q3⟩⟩).elim
    · exact .inr (.inr q)
theorem Hop.put (h : Hop C p w L R p3 w3) {o : Obj} : Hop C p w L R p3 (w3.putObj L o) where
 os:=h.os
 tape:=h.tape
 output:=h.output
 size:=by rw [World.putObj_size]; exact h.size
 heap:=fun b hb hn hl=>(World.putObj_heap_other hl).trans (h.heap b hb hn hl)
 r:=h.r
 rn:=h.rn
 bl:=h.bl
theorem SR.land (h0 : SR C p s a w) (hn : ∀ o w Ψ Θ,¬ C.X.X o w Ψ Θ) (hL0 : C.w0.heap.size ≤ L) (hLm : ∀ d ∈ a.defers,d.target ≠ .collected L) (hop : Hop C p w L R p3 w3)
 (hR : ∀ b,R b → b < w.heap.size ∧ (∀ d ∈ a.defers,d.target ≠ .collected b) ∧ ¬ C.hd b ∧ (C.R0 b ∨ C.w0.heap.size ≤ b ∨ C.own b)) {C' : Ctx} (hpin : C'.pin = C.pin) (hX : C'.X = C.X) (h3 : SR C' p3 s3 a3 w2) (hLR : ¬ p3.R L) (hLβ : ∀ k,p3.β k ≠ some L)
 (hos : w3.os = w2.os) (htape : w3.tape = w2.tape) (hout : w3.output = w2.output) (hsize : w3.heap.size = w2.heap.size) (hoth : ∀ b,b ≠ L → w3.heap[b]? = w2.heap[b]?) :
 SR C p3 { n:=s.n,tm:=fun _=>.r .un,rows:=s3.rows } a w3:=by
 have hψ:=h3.ex.ψn (by rw [hX]; exact hn)
 have hk : Kept w2 w3 p3 p3 s3.ver s3.ver:=⟨fun _ h=>h,fun ad hr=>World.cell?_of_block (hoth _ fun e=>hLR (e ▸ hr)),fun _=>Nat.le_refl _,fun _ _=>⟨rfl,rfl⟩⟩
 have hx : KX w2 w3 p3 p3:=⟨rfl,rfl,rfl,hos,htape,hout,Nat.le_of_eq hsize.symm,fun b hb=>((hψ b).1 hb).elim⟩
 have hβC : ∀ k b,p3.β k = some b → C.w0.heap.size ≤ b ∨ (1000 ≤ k ∧ C.bor b) ∨ C.own b:=fun k b hb=>by
  rcases hop.bl k b hb with g | ⟨g1,g2,_⟩ | ⟨k',g1,g2⟩
  · exact .inl (Nat.le_trans h0.base.size g)
  · exact .inr (.inl ⟨g1,g2⟩)
  · rcases (h0.bl k' b g1).2.2 with q | q | q
    · exact .inl q
    · exact (g2 q).elim
    · exact .inr (.inr q)
 have hout' : ∀ b,b < w.heap.size → (∀ k,p.β k ≠ some b) → (∀ k,p3.β k = some b → 1000 ≤ k ∧ C.bor b ∧ ∃ k,1000 ≤ k ∧ p.β k = some b):=fun b hb hn k hk=>by
  rcases hop.bl k b hk with g | g | ⟨k',g1,_⟩
  · omega
  · exact g
  · exact (hn k' g1).elim
 exact {
  base:=⟨hop.os.trans h0.base.os,hop.tape.trans h0.base.tape,hop.output.trans h0.base.output,Nat.le_trans h0.base.size hop.size,fun b hb hbor hown=>by
   refine (hop.heap b (Nat.lt_of_lt_of_le hb h0.base.size) (fun k hk=>?_) (fun e=>by omega)).trans (h0.base.block b hb hbor hown)
   rcases (h0.bl k b hk).2.2 with g | g | g
   · omega
   · exact hbor g.2
   · exact hown g⟩
  r0:=fun b hb=>hop.r b (h0.r0 b hb)
  rn:=fun b hb=>by
   rcases hop.rn b hb with g | g | g | ⟨k,g1,g2⟩
   · exact h0.rn b g
   · exact (hR b g).2.2.2
   · exact .inr (.inl (Nat.le_trans h0.base.size g))
   · rcases (h0.bl k b g1).2.2 with q | q | q
     · exact .inr (.inl q)
     · exact (g2 q).elim
     · exact .inr (.inr q)
  rb:=fun b hb=>hsize ▸ h3.rb b hb
  tm:=fun t=>AV.rel_un _ _ _ _
  sz:=h0.sz
  ex:={
   px:=h3.ex.px.trans hX
   n0:=h0.ex.n0
   ψ0:=h0.ex.ψ0
   ψl:=fun b hb=>((hψ b).1 hb).elim
   θl:=fun b hb=>((hψ b).2 hb).elim
   ψb:=fun k b _=>hψ b
   ψr:=fun b _=>(hψ b).2
   ψo:=h0.ex.ψo
   θo:=fun b hb=>((hψ b).2 hb).elim
   bo:=h0.ex.bo
   ψn:=fun _ b=>hψ b
   hd:=fun b hb=>by
    obtain ⟨k1,k2,k3,k4,k5,k6,k7,k8⟩:=h0.ex.hd b hb
    refine ⟨k1,k2,k3,Nat.lt_of_lt_of_le k4 hop.size,fun g=>?_,(hψ b).1,(hψ b).2,fun k hk=>?_⟩
    · rcases hop.rn b g with g | g | g | ⟨k,g,_⟩
      · exact k5 g
      · exact (hR b g).2.2.1 hb
      · omega
      · exact k8 k g
    · exact k2 (hout' b k4 k8 k hk).2.1
   rm:=h0.ex.rm
   df:=by
    obtain ⟨Ds,g1,g2,g3⟩:=h0.ex.df
    refine ⟨Ds,g1,g2,fun D hD=>?_⟩
    have hmem : ({ target:=.collected D,args:=#[] } : Deferred) ∈ a.defers:=by rw [g1]; exact List.mem_map.2 ⟨D,hD,rfl⟩
    obtain ⟨k1,k2,k3,k4,k5,k6⟩:=g3 D hD
    have hlt : D < w.heap.size:=(Array.getElem?_eq_some_iff.1 k1).1
    refine ⟨(hop.heap D hlt k4 fun e=>hLm _ hmem (by rw [e])).trans k1,k2,fun g=>?_,fun k hk=>?_,(hψ D).1,(hψ D).2⟩
    · rcases hop.rn D g with g | g | g | ⟨k,g,_⟩
      · exact k3 g
      · exact (hR D g).2.1 _ hmem rfl
      · omega
      · exact k4 k g
    · have:=h0.ex.bo D (.inl (hout' D hlt k4 k hk).2.1); omega }
  rw:=fun k=>by
   show rowRel w3 p3 s3.ver k (s3.rows k).c
   exact rowRel_mono hk (.inr hx) rfl rfl (fun b hb=>hoth b fun e=>hLβ k (e ▸ hb)) _ (fun km _ _ _ _ _ b hb=>hoth b fun e=>hLβ km (e ▸ hb)) (h3.rw k)
  bl:=fun k b hb=>⟨by rw [hsize]; exact (h3.bl k b hb).1,(h3.bl k b hb).2.1,hβC k b hb⟩
  ij:=h3.ij
  cap:=h3.cap
  pn:=fun k x hx=>h3.pn k x (by rw [hpin]; exact hx)
  lk:=h3.lk }
end
end Go.Oc

namespace Go.Oc
open Go Go.RowKit
set_option linter.unusedSimpArgs false
set_option linter.unusedVariables false
section
variable {P : Program} {C : Ctx} {p : Plan} {s : AS} {a : Act} {w : World}
theorem SR.enter (h : SR C p s a w) (hrd : C.rd = none) (o1 : Loop) :
 SR C p s { tmps:=a.tmps,defers:={ target:=.collected w.heap.size,args:=#[] } :: a.defers } ((w.alloc (.deferred (some []))).alloc (.loop o1)):=by
 have h1 : SR C p s a ((w.alloc (.deferred (some []))).alloc (.loop o1)) :=
  h.below (R':=p.R) (((Below.refl _ w).alloc (Nat.le_refl _) _).alloc (by simp) _) (fun _ h=>h) (fun _ h=>.inl h) (fun b hb=>by have:=h.rb b hb; simp; omega)
 have hnew : ((w.alloc (.deferred (some []))).alloc (.loop o1)).heap[w.heap.size]? = some (.deferred (some [])):=(Below.heap_alloc _ _ _ (by simp)).trans (World.alloc_heap_new w _)
 refine h1.other rfl rfl rfl rfl (Nat.le_refl _) (fun _ _ _=>rfl) { h1.ex with rm:=fun hr=>absurd hr (by rw [hrd]; simp),df:=?_ }
 obtain ⟨Ds,g1,g2,g3⟩:=h.ex.df
 obtain ⟨Ds',g1',_,g3'⟩:=h1.ex.df
 have he : Ds' = Ds:=marks_inj (g1'.symm.trans g1)
 subst he
 refine ⟨w.heap.size :: Ds',by rw [g1]; rfl,List.nodup_cons.2 ⟨fun hD=>?_,g2⟩,fun D hD=>?_⟩
 · have:=(Array.getElem?_eq_some_iff.1 (g3 _ hD).1).1; omega
 · rcases List.mem_cons.1 hD with rfl | hD
   · exact ⟨hnew,h.base.size,fun hr=>by have:=h.rb _ hr; omega,fun k hk=>by have:=(h.bl k _ hk).1; omega,fun hr=>by have:=h.ex.ψl _ hr; omega,fun hr=>by have:=h.ex.θl _ hr; omega⟩
   · exact g3' D hD
theorem SR.wait (h : SR C p s a w) (hdead : (s.rows 0).c = .dead) (ts : List Nat) :
 SR C p { n:=s.n,tm:=fun _=>.r .un,rows:=upd s.rows 0 ⟨(s.rows 0).ver,.sus (ts.map s.tm) (ts.map fun t=>a.tmps.getD t undef)⟩ } a w:=by
 have hv : AS.ver { n:=s.n,tm:=fun _=>.r .un,rows:=upd s.rows 0 ⟨(s.rows 0).ver,.sus (ts.map s.tm) (ts.map fun t=>a.tmps.getD t undef)⟩ } = s.ver:=by
  funext j
  show (upd s.rows 0 _ j).ver = (s.rows j).ver
  unfold upd; split
  · rename_i e; subst e; rfl
  · rfl
 exact {
  base:=h.base
  r0:=h.r0
  rn:=h.rn
  rb:=h.rb
  tm:=fun t=>AV.rel_un _ _ _ _
  sz:=h.sz
  ex:=h.ex
  rw:=fun k=>by
   rw [hv]
   show rowRel w p s.ver k (upd s.rows 0 _ k).c
   by_cases e : k = 0
   · subst e
     rw [upd_same]
     have hr:=h.rw 0
     rw [hdead] at hr
     simp only [rowRel] at hr ⊢
     refine ⟨hr.1,hr.2,?_⟩
     clear hv hr
     induction ts with
     | nil=>simp [AV.relV]
     | cons t ts ih=>simp only [List.map_cons,AV.relV]; exact ⟨_,_,rfl,h.tm t,ih⟩
   · rw [upd_other _ _ e]; exact h.rw k
  bl:=h.bl
  ij:=h.ij
  cap:=h.cap
  pn:=fun k x hx=>by rw [hv]; exact h.pn k x hx
  lk:=fun j km n l cur hj hn=>by
   rw [hv] at hn
   show (upd s.rows 0 _ km).c.isMpi = true
   have hj' : (upd s.rows 0 ⟨(s.rows 0).ver,.sus (ts.map s.tm) (ts.map fun t=>a.tmps.getD t undef)⟩ j).c = .mi km n l cur:=hj
   by_cases e : j = 0
   · subst e; rw [upd_same] at hj'; cases hj'
   · rw [upd_other _ _ e] at hj'
     have h5:=h.lk j km n l cur hj' hn
     have e2 : km ≠ 0:=fun e2=>by rw [e2,hdead] at h5; cases h5
     rw [upd_other _ _ e2]; exact h5 }
def psA : List Nat → List RV → (Nat → AV) → Nat → AV
 | t :: ts,x :: xs,tm=>psA ts xs (upd tm t (.r x))
 | _,_,tm=>tm
theorem look_zip {ver : Nat → Nat} {f : Nat → Value} : ∀ {ts : List Nat} {avs : List AV},AV.relV w p ver avs (ts.map f) → ∀ t,(look (ts.zip avs) t).rel w p ver (f t)
 | [],_,_,t=>by simp only [List.zip_nil_left]; exact AV.rel_un _ _ _ _
 | _ :: _,[],_,t=>by simp only [List.zip_nil_right]; exact AV.rel_un _ _ _ _
 | t0 :: ts, x :: avs, h, t => by
   simp only [List.map_cons,AV.relV] at h
   obtain ⟨u,us,he,h1,h2⟩:=h
   injection he with e1 e2
   subst e1 e2
   simp only [List.zip_cons_cons]
   show ((if t = t0 then x else look (ts.zip avs) t)).rel w p ver (f t)
   split
   · rename_i e; subst e; exact h1
   · exact look_zip h2 t
theorem psA_rel {ver : Nat → Nat} : ∀ (ts : List Nat) (es : List RV) (vs : List Value) (tm : Nat → AV) (tmps : Array Value),RV.relV w p.R es vs → (∀ t ∈ ts,t < tmps.size) → (∀ t,(tm t).rel w p ver (tmps.getD t undef)) →
 ((ts.zip vs).foldl (fun tmps (x : Nat × Value)=>tmps.setIfInBounds x.1 x.2) tmps).size = tmps.size ∧ ∀ t,(psA ts es tm t).rel w p ver (((ts.zip vs).foldl (fun tmps (x : Nat × Value)=>tmps.setIfInBounds x.1 x.2) tmps).getD t undef)
 | [],_,_,tm,tmps,_,_,h=>⟨rfl,h⟩
 | t0 :: ts, [], vs, tm, tmps, hV, _, h => by
   simp only [RV.relV] at hV
   subst hV
   exact ⟨rfl,h⟩
 | t0 :: ts, x :: es, vs, tm, tmps, hV, hlt, h => by
   simp only [RV.relV] at hV
   obtain ⟨u,us,rfl,h1,h2⟩:=hV
   simp only [List.zip_cons_cons,List.foldl_cons]
   have h3:=psA_rel (ver:=ver) ts es us (upd tm t0 (.r x)) (tmps.setIfInBounds t0 u) h2 (fun t ht=>by simpa using hlt t (by simp [ht])) (fun t=>by
    by_cases e : t = t0
    · subst e
      rw [upd_same]
      have : t < tmps.size:=hlt t (by simp)
      have e2 : (tmps.setIfInBounds t u).getD t undef = u:=by simp [Array.getD,this]
      rw [e2]
      simpa only [AV.rel] using h1
    · rw [upd_other _ _ e]
      have e2 : (tmps.setIfInBounds t0 u).getD t undef = tmps.getD t undef:=by simp only [Array.getD_eq_getD_getElem?,Array.getElem?_setIfInBounds_ne (Ne.symm e)]
      rw [e2]; exact h t)
   exact ⟨h3.1.trans (by simp),h3.2⟩
theorem look_nil' : look [] = fun _=>AV.r .un:=funext fun _=>rfl
def rpost (n : Nat) (I : List (List RV) → List Value → AS → Prop) (J : Code → List Value → AS → Prop) (rest : List (List RV)) (us : List Value) : Exit → AS → Prop
 | .normal,s=>∃ s4,Sub s s4 ∧ I rest us ⟨n,look [],s4.rows⟩
 | .ret,s=>∃ s4,Sub s s4 ∧ J .ret us ⟨n,look [],s4.rows⟩
 | .exit id,s=>∃ s4,Sub s s4 ∧ J (.exit id) us ⟨n,look [],s4.rows⟩
 | .goto l,s=>∃ s4,Sub s s4 ∧ J (.goto l) us ⟨n,look [],s4.rows⟩
 | _,_=>False
def XJ (C : Ctx) (aL : Act) (L : Nat) (rec : LoopState → Option Code → Loop) (I : List (List RV) → AS → Prop) (J : Code → AS → Prop) (o : Option (List (List RV))) (w : World) (Ψ Θ : Nat → Prop) : Prop :=
 ∃ p s, SR C p s aL w ∧ s.n = aL.tmps.size ∧ (match o with
   | some left=>I left s ∧ w.heap[L]? = some (.loop (rec .ready none))
   | none=>∃ c,J c s ∧ w.heap[L]? = some (.loop (rec .done (some c)))) ∧ ¬ p.R L ∧ (∀ k,p.β k ≠ some L) ∧
   (∀ b,Ψ b ↔ p.R b ∨ (∃ k,p.β k = some b) ∨ (b < C.w0.heap.size ∧ ¬ C.bor b ∧ ¬ C.own b) ∨ b = L ∨ C.hd b ∨ ∃ d ∈ aL.defers,d.target = .collected b) ∧ (∀ b,Θ b ↔ (∃ k,p.β k = some b) ∨ b = L)
theorem XJ.st (hn : ∀ o w Ψ Θ,¬ C.X.X o w Ψ Θ) {aL : Act} {L : Nat} {rec : LoopState → Option Code → Loop} {I : List (List RV) → AS → Prop} {J : Code → AS → Prop} {o : Option (List (List RV))} {w w' : World} {Ψ Θ : Nat → Prop} (h : XJ C aL L rec I J o w Ψ Θ)
 (hos : w'.os = w.os) (htape : w'.tape = w.tape) (hout : w'.output = w.output) (hsize : w.heap.size ≤ w'.heap.size) (hh : ∀ b,Ψ b → w'.heap[b]? = w.heap[b]?) : XJ C aL L rec I J o w' Ψ Θ:=by
 obtain ⟨p,s,hS,hsn,ho,hLR,hLβ,hΨ,hΘ⟩:=h
 have hψ:=hS.ex.ψn hn
 refine ⟨p,s,hS.other rfl hos htape hout hsize (fun b hb hf=>hh b ((hΨ b).2 ?_)) ?_,hsn,?_,hLR,hLβ,hΨ,hΘ⟩
 · rcases hf with g | g | g | g
   · exact .inl g
   · exact .inr (.inl g)
   · exact .inr (.inr (.inl g))
   · exact ((hψ b).1 g).elim
 · obtain ⟨Ds,g1,g2,g3⟩:=hS.ex.df
   exact { hS.ex with
    ψl:=fun b hb=>((hψ b).1 hb).elim
    θl:=fun b hb=>((hψ b).2 hb).elim
    hd:=fun b hb=>by
     obtain ⟨k1,k2,k3,k4,k5⟩:=hS.ex.hd b hb
     exact ⟨k1,k2,k3,Nat.lt_of_lt_of_le k4 hsize,k5⟩
    df:=⟨Ds,g1,g2,fun D hD=>by
     obtain ⟨k1,k2⟩:=g3 D hD
     refine ⟨(hh D ((hΨ D).2 (.inr (.inr (.inr (.inr (.inr ⟨{ target:=.collected D,args:=#[] },?_,rfl⟩))))))).trans k1,k2⟩
     rw [g1]; exact List.mem_map.2 ⟨D,hD,rfl⟩⟩ }
 · have hL:=hh L ((hΨ L).2 (.inr (.inr (.inr (.inl rfl)))))
   cases o with
   | some left=>exact ⟨ho.1,hL.trans ho.2⟩
   | none =>
     obtain ⟨c,h1,h2⟩:=ho
     exact ⟨c,h1,hL.trans h2⟩
theorem callee_eval (h : SR C p s a w) {f : Operand} {F : FuncId} {cs : List AV} (hF : callee? (s.ev f) = some (F,cs)) : ∃ vs : Array Value,a.eval f = .func (.func F) #[] vs ∧ AV.relV w p s.ver cs vs.toList:=by
 have hx:=h.ev f
 unfold callee? at hF
 split at hF
 · rename_i g cs' e
   injection hF with hF
   injection hF with h1 h2
   subst h1 h2
   rw [e] at hx
   simp only [AV.rel,RV.rel] at hx
   obtain ⟨vs,hv,hV⟩:=hx
   exact ⟨vs,hv,AV.relV_map_r hV⟩
 · rename_i g cs' e
   injection hF with hF
   injection hF with h1 h2
   subst h1 h2
   rw [e] at hx
   simp only [AV.rel] at hx
   exact hx
 · cases hF
theorem SR.awake (h : SR C p s a w) {avs : List AV} {ts : List Nat} (hrow : (s.rows 0).c = .sus avs (ts.map fun t=>a.tmps.getD t undef)) : SR C p ⟨s.n,look (ts.zip avs),s.rows⟩ a w :=
 { h with
   tm:=fun t=>by
    have hr:=h.rw 0
    rw [hrow] at hr
    simp only [rowRel] at hr
    exact look_zip (f:=fun t=>a.tmps.getD t undef) hr.2.2 t }
theorem putObj_other {w : World} {L : Nat} {o : Obj} : ∀ b,b ≠ L → (w.putObj L o).heap[b]? = w.heap[b]?:=fun b hb=>World.putObj_heap_other hb
theorem SR.turn (h : SR C p s a w) {L : Nat} {o : Obj} (hLR : ¬ p.R L) (hLβ : ∀ k,p.β k ≠ some L) (hL0 : C.w0.heap.size ≤ L) (hψ : ∀ b,¬ p.Ψ b ∧ ¬ p.Θ b) (hLm : ∀ d ∈ a.defers,d.target ≠ .collected L) : SR C p s a (w.putObj L o):=by
 refine h.other rfl rfl rfl rfl (Nat.le_of_eq World.putObj_size.symm) (fun b _ hb=>putObj_other b fun e=>?_) ?_
 · subst e
   rcases hb with g | ⟨k,g⟩ | g | g
   · exact hLR g
   · exact hLβ k g
   · omega
   · exact (hψ b).1 g
 · obtain ⟨Ds,g1,g2,g3⟩:=h.ex.df
   exact { h.ex with
    ψl:=fun b hb=>((hψ b).1 hb).elim
    θl:=fun b hb=>((hψ b).2 hb).elim
    hd:=fun b hb=>by rw [World.putObj_size]; exact h.ex.hd b hb
    df:=⟨Ds,g1,g2,fun D hD=>by
     obtain ⟨k1,k2⟩:=g3 D hD
     refine ⟨(putObj_other D fun e=>hLm { target:=.collected D,args:=#[] } ?_ (by rw [e])).trans k1,k2⟩
     rw [g1]; exact List.mem_map.2 ⟨D,hD,rfl⟩⟩ }
set_option maxHeartbeats 400000 in
end
end Go.Oc

namespace Go.Oc
open Go Go.RowKit
theorem zI {n : Int} (h1 : -9223372036854775808 ≤ n) (h2 : n ≤ 9223372036854775807) : IntKind.i64.wrap n = n:=by
 unfold IntKind.wrap
 simp only [IntKind.bits,IntKind.signed,Bool.true_and]
 split <;> rename_i h <;> simp only [ge_iff_le,decide_eq_true_eq] at h <;> omega
theorem getD_map_opt {α : Type} {f : α → List RV} {l : List α} {i : Nat} : (l.map f).getD i [] = match l[i]? with | some x=>f x | none=>[]:=by
 rw [List.getD_eq_getElem?_getD,List.getElem?_map]
 cases l[i]? <;> rfl
abbrev i64 (n : Int) : RV:=.it .i64 n
abbrev ints (l : List Int) : RV:=.sl 1 (l.map fun x=>[.it .i64 x])
theorem mem_of_opt {α : Type} {l : List α} {i : Nat} {x : α} (h : l[i]? = some x) : x ∈ l:=List.mem_of_getElem? h
theorem drop_of_opt {α : Type} {l : List α} {i : Nat} {x : α} (h : l[i]? = some x) : l.drop i = x :: l.drop (i + 1):=by
 obtain ⟨hi,rfl⟩:=List.getElem?_eq_some_iff.1 h
 exact List.drop_eq_getElem_cons hi
theorem take_of_opt {α : Type} {l : List α} {i : Nat} {x : α} (h : l[i]? = some x) : l.take (i + 1) = l.take i ++ [x]:=by
 obtain ⟨hi,rfl⟩:=List.getElem?_eq_some_iff.1 h
 exact List.take_succ_eq_append_getElem hi
theorem opt_of_lt {α : Type} {l : List α} {i : Nat} (h : i < l.length) : ∃ x,l[i]? = some x:=⟨l[i],List.getElem?_eq_getElem h⟩
theorem snapVL_ro {rows : Nat → Row} : ∀ l : List RV,snapVL rows (l.map .r) = l
 | []=>by simp only [List.map_nil,snapVL]
 | x :: l=>by simp only [List.map_cons,snapVL,snapV,snapVL_ro l]
theorem snapPL_ro {rows : Nat → Row} : ∀ l : List RV,snapPL rows (l.map .r) ↔ True
 | []=>by simp only [List.map_nil,snapPL]
 | x :: l=>by simp only [List.map_cons,snapPL,snapP,snapPL_ro l,true_and]
theorem take_map_len {α β : Type} {f : α → β} {l : List α} : (l.map f).take l.length = l.map f:=List.take_of_length_le (by simp)
theorem toNat_add1 {n : Nat} : ((n : Int) + 1).toNat = n + 1:=rfl
def indexF {α : Type} (p : α → Bool) : List α → Int
 | []=>-1
 | x :: l=>if p x then 0 else if indexF p l < 0 then -1 else indexF p l + 1
theorem indexF_any {α : Type} (p : α → Bool) : ∀ l : List α,decide (indexF p l ≥ 0) = l.any p
 | []=>rfl
 | x :: l => by
   have ih:=indexF_any p l
   unfold indexF
   cases h : p x
   · simp only [Bool.false_eq_true,if_false,List.any_cons,h,Bool.false_or,← ih]
     split
     · rename_i h1
       have : ¬ indexF p l ≥ 0:=by omega
       simp [this]
     · rename_i h1
       have : indexF p l ≥ 0:=by omega
       have h2 : indexF p l + 1 ≥ 0:=by omega
       simp only [this,h2]
   · simp [h]
theorem indexF_ge {α : Type} (p : α → Bool) : ∀ l : List α,-1 ≤ indexF p l
 | []=>by simp [indexF]
 | x :: l => by
   have:=indexF_ge p l
   unfold indexF
   split
   · omega
   · split <;> omega
open Go
attribute [go_sem] reduceIte reduceCtorEq Nat.reduceEqDiff Nat.reduceAdd Nat.reduceSub Nat.reduceMul Nat.reduceLeDiff Nat.reduceLT Int.reduceToNat Int.reduceLE Int.reduceLT Int.reduceMul Int.reduceAdd Int.reduceSub Int.reduceNeg Int.reduceEq Int.reduceNe
attribute [go_sem] aops_nil aops_cons aops_guard gslot_zero gslot_succ gA_some gB_tt gB_ff gB_tf gB_ft gB_ud gB_bo aop_move aop_assign aop_pick aop_bin aop_un aop_conv aop_load aop_store aop_box aop_alloc aop_fieldAddr aop_field aop_indexAddr aop_index aop_slice aop_build aop_buildSlice aop_makeSlice aop_makeFunc aop_extract aop_nil aop_len aop_min aop_max aop_append aop_cap aop_clear sAppendZ sCap sClear sSlice3 lenA rowLen aop_call aop_next aop_makeMap aop_lookup aop_mapUpdate aop_mapEntry aop_entryStore sMapEntry sEntryStore bornAt aop_range aop_entry sNext sMakeMap sLookup sMapUpdate sRange sEntry mapOf valR agR sEq cmpL cmpB sameK findK keyOk allIt List.length_cons List.length_nil row_st verf_st lendA lendL lendC lendOk lendKey backA backL backC backCs pinOf aR_when aR_val aR_bad aR_mk aF_false aF_true evs evp upd_app put_st put_none app_val app_st evt_st tm_st rows_st ver_st n_st ins insc delc look_nil look_cons lookc_nil lookc_cons keepL killV killC argL allEq cond_true cond_false ev_const ev_func sPick pickA sBin sUn sConv sLoad sStore sBox sAlloc sField sFieldV sPart sIndex sIndexV sSlice sSliceA chunk bound sBuild lay sBuildSlice layE sMakeSlice news? sAppend sLen minA minF maxA maxF sMinMax sExtract sNil RV.flat1 AV.cells? roL cutR cutA need RV.ofV RV.ofV1
attribute [go_sem] opostL_normal opostL_ret resA_tmp resA_cell mpostL_normal mpostL_ret resM_nil resM_tmp resM_cell mfin frzC frzPC frzL frzPL frz1 frzP1 keyIn okC argA resC_when resC_val resOk_nil resOk_tmp resOk_cell fpostL_normal fpostL_ret andThen_normal andThen_ret andThen_exit inBlk_normal inBlk_ret inBlk_exit le_bo le_it le_ns le_sls le_ag leL_nil leL_cons le_nsns le_np snapV snapVL snapP snapPL snap1V snap1P snap1PL
attribute [go_sem] Bool.false_eq_true Bool.not_false Bool.not_true Bool.true_eq_false Int.le_refl List.append_nil List.cons_append List.drop_succ_cons List.drop_zero List.getElem?_cons_succ List.getElem?_cons_zero List.headD_cons List.length_cons List.length_nil List.map_cons List.map_nil List.nil_append List.replicate_succ List.replicate_zero List.set_cons_succ List.set_cons_zero List.take_succ_cons List.take_zero Nat.add_zero Nat.le_refl Nat.zero_add Nat.zero_le Option.bind_some Option.getD_none Option.getD_some Option.isSome_some Option.map_none Option.map_some Option.some.injEq and_false and_true decide_false decide_true eq_self false_and false_imp_iff forall_const ite_false ite_true true_and true_imp_iff
attribute [go_sem] not_false_eq_true not_true_eq_false toNat_add1 Nat.sub_zero beq_iff_eq beq_eq_false_iff_ne List.length_drop List.length_take upd_self List.drop_replicate Nat.add_sub_cancel_left take_map_len List.getD_cons_zero List.getD_cons_succ true_or or_true false_or or_false List.length_replicate Int.sub_zero Int.add_zero Int.zero_add getD_map_opt snapVL_ro snapPL_ro Int.ofNat_lt Int.ofNat_le Int.toNat_natCast Int.natCast_nonneg Int.natCast_add Int.cast_ofNat_Int Int.natCast_zero Int.natCast_one List.length_map List.mem_cons ge_iff_le gt_iff_lt decide_eq_true_eq decide_eq_false_iff_not AV.r.injEq RV.it.injEq RV.bo.injEq RV.sl.injEq
open Go Go.RowKit
set_option linter.unusedSimpArgs false
set_option linter.unusedVariables false
def psL : List Nat → List RV → List (Nat × AV) → List (Nat × AV)
 | t :: ts,x :: xs,l=>psL ts xs ((t,.r x) :: l)
 | _,_,l=>l
theorem psL_nil {l : List (Nat × AV)} : psL [] [] l = l:=rfl
theorem psL_cons {t : Nat} {ts : List Nat} {x : RV} {xs : List RV} {l : List (Nat × AV)} : psL (t :: ts) (x :: xs) l = psL ts xs ((t,.r x) :: l):=rfl
theorem psA_look : ∀ (ts : List Nat) (xs : List RV) (l : List (Nat × AV)),psA ts xs (look l) = look (psL ts xs l)
 | [],_,_=>rfl
 | _ :: _,[],_=>rfl
 | t :: ts, x :: xs, l => by
   simp only [psA,psL];rw [← psA_look ts xs]
   rfl
def rfpost (n : Nat) (ts : List Nat) (Q : Exit → AS → Prop) (N : AS → Prop) (us : List Value) : Exit → AS → Prop
 | .normal,s=>N s
 | .ret,s=>∃ avs,(s.rows 0).c = .sus avs us ∧ Q .ret ⟨n,look (ts.zip avs),s.rows⟩
 | .exit id,s=>∃ avs,(s.rows 0).c = .sus avs us ∧ Q (.exit id) ⟨n,look (ts.zip avs),s.rows⟩
 | _,_=>False
section
variable {n : Nat} {ts : List Nat} {Q : Exit → AS → Prop} {N : AS → Prop} {us : List Value} {l : List (Nat × AV)} {vs : Nat → Nat} {cs : List (Nat × RowC)}
theorem rfpost_normal {s : AS} : rfpost n ts Q N us .normal s = N s:=rfl
theorem rf_ret {avs : List AV} (h : lookc cs 0 = .sus avs us) (hq : Q .ret (st n (ts.zip avs) vs cs)) : rfpost n ts Q N us .ret (st n l vs cs):=⟨avs,h,hq⟩
end
theorem sub_wake {n : Nat} {l : List (Nat × AV)} {vs : Nat → Nat} {cs : List (Nat × RowC)} {avs : List AV} {us : List Value} (h : lookc cs 0 = .dead) : Sub (st n l vs ((0,.sus avs us) :: cs)) (st n l vs cs):=fun C a w ⟨p,hp⟩=>by
 refine ⟨p,{ hp with rw:=fun k=>?_,lk:=fun j km m l' cur hj hn=>?_ }⟩
 · have hr:=hp.rw k
   show rowRel w p vs k (lookc cs k)
   have hr' : rowRel w p vs k (lookc ((0,.sus avs us) :: cs) k):=hr
   rw [lookc_cons] at hr'
   split at hr'
   · rename_i e
     subst e
     rw [h]
     simp only [rowRel] at hr' ⊢
     exact ⟨hr'.1,hr'.2.1⟩
   · exact hr'
 · have hj' : lookc cs j = .mi km m l' cur:=hj
   have e1 : j ≠ 0:=fun e=>by subst e; rw [h] at hj'; cases hj'
   have h1:=hp.lk j km m l' cur (by show lookc ((0,.sus avs us) :: cs) j = _; rw [lookc_cons,if_neg e1]; exact hj') hn
   show (lookc cs km).isMpi = true
   have h2 : (lookc ((0,.sus avs us) :: cs) km).isMpi = true:=h1
   rw [lookc_cons] at h2
   split at h2
   · cases h2
   · exact h2
theorem upd_rows_st {n : Nat} {l : List (Nat × AV)} {vs : Nat → Nat} {cs : List (Nat × RowC)} {k : Nat} {c : RowC} : (⟨n,look [],upd (st n l vs cs).rows k ⟨((st n l vs cs).rows k).ver,c⟩⟩ : AS) = st n [] vs ((k,c) :: cs):=by
 simp only [st,AS.mk.injEq,true_and]
 funext j
 rw [lookc_cons]
 unfold upd
 split
 · rename_i e; subst e; rfl
 · rfl
theorem zip_keys : ∀ l : List (Nat × AV),(l.map (·.1)).zip (l.map (·.2)) = l
 | []=>rfl
 | _ :: l=>by simp only [List.map_cons,List.zip_cons_cons,zip_keys l]
attribute [go_sem] psL_nil psL_cons rfpost_normal List.zip_cons_cons List.zip_nil_right
theorem look_keys : ∀ l : List (Nat × AV),(l.map (·.1)).Nodup → l.map (·.2) = (l.map (·.1)).map (look l)
 | [],_=>rfl
 | (k, v) :: l, h => by
   simp only [List.map_cons,List.nodup_cons] at h ⊢
   have h1 : look ((k,v) :: l) k = v:=by rw [look_cons,if_pos rfl]
   rw [h1,look_keys l h.2]
   congr 1
   refine List.map_congr_left fun j hj=>?_
   have hne : j ≠ k:=fun e=>h.1 (e ▸ hj)
   rw [look_cons,if_neg hne]
theorem awp_uptoV {P : Program} {C : Ctx} {c : Code} {n : Nat} {Q : Exit → AS → Prop} {s : AS} (N : Nat) (F : Nat → (Nat → Nat) → List (Nat × AV)) (R : Nat → (Nat → Nat) → List (Nat × RowC)) (I : Nat → Prop) (i0 : Nat)
 (h0 : FitV n (F i0) (R i0) s) (hi : i0 ≤ N) (hI : I i0)
 (round : ∀ i vs,i ≤ N → I i → awp P C c (andThen (fun s'=>i < N ∧ I (i + 1) ∧ FitV n (F (i + 1)) (R (i + 1)) s') Q) (st n (F i vs) vs (R i vs))) : awp P C (.loop c) Q s:=by
 refine awp_whileV F R (fun i=>i ≤ N ∧ I i) (fun i=>N - i) i0 h0 ⟨hi,hI⟩ ?_
 rintro i vs ⟨hi,hI⟩
 refine awp_mono ?_ (round i vs hi hI)
 intro e s' hq
 cases e with
 | normal =>
   obtain ⟨h1,h2,h3⟩:=hq
   exact ⟨i + 1,⟨h1,h2⟩,by omega,h3⟩
 | _=>exact hq
end Go.Oc

namespace Go.Oc
open Go Go.RowKit
def cpR (s : AS) (d : Nat) (b : AV) (r : Res) (K : AS → Prop) : Prop :=
 match b,r with
 | .r .ns,⟨pre,_,⟨.os d' v sz 0 m,[(d'',⟨v',.arr _ sz' es⟩)]⟩⟩=>pre ∧ d < 1000 ∧ d' = d ∧ d'' = d ∧ v = (s.rows d).ver + 1 ∧ v' = v ∧ sz' = sz ∧ m = es.length ∧ K (AS.put (s.row d ⟨(s.rows d).ver + 2,.dead⟩) (some d) (.r (.sl sz es)))
 | _,_=>False
def cpX (P : Program) (s : AS) (d : Nat) (t : TypeId) (b : AV) (n : Option (Prop × Nat × List (List RV))) (K : AS → Prop) : Prop :=
 match tyq P t,b,n with
 | some ⟨.slice _ esz eb _, _, _, _⟩, .r (.sx sz0 es), some (c, sz, ns) => sz0 = esz ∧ d < 1000 ∧ c ∧ (sz = esz ∨ ns = []) ∧ 0 < esz ∧ (es.length + ns.length) * eb ≤ 140737488355328 ∧ es.length + ns.length ≤ 9223372036854775807 ∧
   K (AS.put (s.row d ⟨(s.rows d).ver + 2,.dead⟩) (some d) (.r (.sl esz (es ++ ns))))
 | _,_,_=>False
def isSx : AV → Bool
 | .r (.sx _ _)=>true
 | _=>false
def cpB (s : AS) (d : Option Nat) (r : Res) (K : AS → Prop) : Prop :=
 match r with
 | ⟨pre,_,⟨.r (.sl sz es),[]⟩⟩=>pre ∧ es ≠ [] ∧ K (AS.put s d (.r (.sx sz es)))
 | _=>False
def copyK (P : Program) (o : Oper) (K : AS → Prop) (s : AS) : Prop :=
 match o.op with
 | .call ⟨.builtin .append, args, ts⟩ => (match args.toList, ts.toList, o.dst with
   | [x,z],[t,t'],some d=>t = t' ∧ (if isSx (s.ev x) then cpX P s d t (s.ev x) (news? s (s.ev z)) K else cpR s d (s.ev x) (sAppend P s d t t' (s.ev x) (s.ev z)) K)
   | _,_,_=>False)
 | .buildSlice t n ps=>cpB s o.dst (sBuildSlice P s t n (ps.toList.map fun (i,x)=>(i,s.ev x))) K
 | _=>False
def isPl (pl : List Nat) (o : Oper) : Bool :=
 match o.op with
 | .call ⟨.builtin .append,_,_⟩=>(match o.dst with | some d=>pl.contains d | none=>false)
 | .buildSlice _ _ _=>(match o.dst with | some d=>pl.contains d | none=>false)
 | _=>false
def xopC (P : Program) (pl : List Nat) (o : Oper) (K : AS → Prop) (s : AS) : Prop:=if isPl pl o then copyK P o K s else xop P true o K s
def aopsC (P : Program) (pl : List Nat) (ops : Array Oper) : List Oper → (AS → Prop) → AS → Prop
 | [],K,s=>K s
 | o :: rest, K, s =>
   match o.guard with
   | none=>xopC P pl o (aopsC P pl ops rest K) s
   | some (g, want) =>
     match ((ops[g]?).bind (·.dst) : Option Nat) with
     | none=>aopsC P pl ops rest K (s.put o.dst (.r .ud))
     | some t =>
       match s.tm t with
       | .r (.bo b)=>(b = want → xopC P pl o (aopsC P pl ops rest K) (s.put (some t) (.r (.bo want)))) ∧ (b = !want → aopsC P pl ops rest K ((s.put (some t) (.r (.bo (!want)))).put o.dst (.r .ud)))
       | .r .ud=>aopsC P pl ops rest K (s.put o.dst (.r .ud))
       | _=>False
section
variable {P : Program} {C : Ctx} {s : AS} {ops : Array Oper} {pl : List Nat}
variable {n : Nat} {l : List (Nat × AV)} {vs : Nat → Nat} {cs : List (Nat × RowC)} {K : AS → Prop} {d : Option Nat} {ty : TypeId} {pos : String} {af : Array Edge}
theorem aopsC_nil {ops : Array Oper} : aopsC P pl ops [] K s ↔ K s:=Iff.rfl
theorem aopsC_cons {ops : Array Oper} {o : Op} {rest : List Oper} : aopsC P pl ops (⟨d,o,ty,pos,af,none⟩ :: rest) K s ↔ xopC P pl ⟨d,o,ty,pos,af,none⟩ (aopsC P pl ops rest K) s:=Iff.rfl
theorem row_dead {k m : Nat} : AS.row (st n l vs cs) k ⟨m,.dead⟩ = st n l (upd vs k m) (delc cs k):=by
 rw [row_st]
 unfold st
 congr 1
 funext j
 rw [lookc_insc,lookc_delc]
attribute [go_sem] Nat.reduceBEq Bool.or_false Bool.false_or Bool.or_true Bool.true_or
attribute [go_sem] aopsC_nil aopsC_cons xopC isPl copyK cpR cpB cpX isSx List.contains_cons List.contains_nil List.toList_toArray
attribute [go_sem high] row_dead
end
end Go.Oc

namespace Go.Oc
open Go Go.RowKit
set_option linter.unusedSimpArgs false
set_option linter.unusedVariables false
def YCalls (P : Program) (F : FuncId) (args : Nat → List RV) (xs : List (List RV)) : Prop :=
 callable P F = true ∧ ∀ (rest : List (List RV)) (w : World) (R : Nat → Prop) (vs : Array Value) (X : XS) (Ψ Θ : Nat → Prop),(∀ b,R b → b < w.heap.size) → RV.relV w R (args X.l) vs.toList → X.z = false → (∀ b,R b → X.R b ∨ X.n0 ≤ b) → X.n0 ≤ w.heap.size → YOk P X →
  (∀ b,Ψ b → b < w.heap.size) → (∀ b,Θ b → b < w.heap.size) → (∀ b,R b → ¬ Θ b) → X.X (some (xs ++ rest)) w Ψ Θ →
  Calls P F vs w fun e w'=>w'.os = w.os ∧ w'.tape = w.tape ∧ w'.output = w.output ∧ w.heap.size ≤ w'.heap.size ∧ (∀ b,b < w.heap.size → ¬ Θ b → w'.heap[b]? = w.heap[b]?) ∧
   ∃ Ψ' Θ' : Nat → Prop,(∀ b,Ψ' b → Ψ b ∨ R b ∨ w.heap.size ≤ b) ∧ (∀ b,Θ' b → Θ b ∨ w.heap.size ≤ b) ∧ (∀ b,Ψ' b → b < w'.heap.size) ∧ (∀ b,Θ' b → b < w'.heap.size) ∧
   ((e = .returned (.bool true) ∧ X.X (some rest) w' Ψ' Θ') ∨ (e = .returned (.bool false) ∧ X.X none w' Ψ' Θ'))
def XS.since (X : XS) (n : Nat) (R Ψ0 Θ0 : Nat → Prop) : XS where
 l:=X.l
 z:=X.z
 n0:=n
 R:=R
 X:=fun o w Ψ Θ=>X.X o w Ψ Θ ∧ n ≤ w.heap.size ∧ (∀ b,Ψ b → Ψ0 b ∨ R b ∨ n ≤ b) ∧ ∀ b,Θ b → Θ0 b ∨ n ≤ b
 st:=fun h h1 h2 h3 h4 h5=>⟨X.st h.1 h1 h2 h3 h4 h5,Nat.le_trans h.2.1 h4,h.2.2⟩
theorem YOk.since {P : Program} {X : XS} (hY : YOk P X) {n : Nat} {R Ψ0 Θ0 : Nat → Prop} (hR : ∀ b,R b → X.R b ∨ X.n0 ≤ b) (hn : X.n0 ≤ n) : YOk P (X.since n R Ψ0 Θ0):=by
 intro e rest w Ψ Θ R' vs hX hR' hV
 obtain ⟨hX1,hX2,hX3,hX4⟩:=hX
 obtain ⟨fn,tmps,assign,body,hrun,hround⟩:=hY e rest w Ψ Θ R' vs hX1 (fun b hb=>by
  obtain ⟨g1,g2,g3⟩:=hR' b hb
  refine ⟨g1,g2,?_⟩
  rcases g3 with g | g
  · exact hR b g
  · exact .inr (Nat.le_trans hn g)) hV
 refine ⟨fn,tmps,assign,body,hrun,hround.mono ?_⟩
 rintro en w' ⟨g1,g2,g3,g4,g5,Ψ',Θ',g6,g7,g8,g9,g10⟩
 have a1 : ∀ b,Ψ' b → Ψ0 b ∨ R b ∨ n ≤ b:=fun b hb=>by
  rcases g6 b hb with g | g | g
  · exact hX3 b g
  · rcases (hR' b g).2.2 with q | q
    · exact .inr (.inl q)
    · exact .inr (.inr q)
  · exact .inr (.inr (Nat.le_trans hX2 g))
 have a2 : ∀ b,Θ' b → Θ0 b ∨ n ≤ b:=fun b hb=>by
  rcases g7 b hb with g | g
  · exact hX4 b g
  · exact .inr (Nat.le_trans hX2 g)
 refine ⟨g1,g2,g3,g4,g5,Ψ',Θ',g6,g7,g8,g9,?_⟩
 rcases g10 with ⟨rfl,g⟩ | ⟨rfl,g⟩
 · exact .inl ⟨rfl,g,Nat.le_trans hX2 g4,a1,a2⟩
 · exact .inr ⟨rfl,g,Nat.le_trans hX2 g4,a1,a2⟩
def ypost (P : Program) (t : Nat) (rest : List (List RV)) : Exit → AS → Prop
 | .normal,s=>∃ b l,s.tm t = .r (.bo b) ∧ (s.rows 999).c = .gh P l false (if b then some rest else none)
 | .ret,s=>∃ b l,s.tm t = .r (.bo b) ∧ (s.rows 999).c = .gh P l false (if b then some rest else none)
 | _,_=>False
theorem ycalls_st {P : Program} {f : FuncId} {fn : Func} {c : Code} {n t : Nat} {args : Nat → List RV} {xs : List (List RV)} (hf : P.funcs[f]? = some fn) (hb : fn.body = some c) (hc : callable P f = true) (hn : fn.ntmps = n) (hres : fn.results.toList = [.tmp t])
 (hargs : ∀ l,(args l).length ≤ n) (h : ∀ C l rest,C.rd = none → awp P C c (ypost P t rest) (st n (argL 0 (args l)) (fun _=>0) [(999,.gh P l false (some (xs ++ rest)))])) : YCalls P f args xs:=by
 refine ⟨hc,fun rest w R vs X Ψ Θ hR hV hz hRX hn0 hY hΨ hΘ hRΘ hX=>?_⟩
 have hlen:=RV.relV_length hV
 simp only [Array.length_toList] at hlen
 have hal:=hargs X.l
 obtain ⟨X',hX'⟩ : ∃ X' : XS,X' = X.since w.heap.size R Ψ Θ:=⟨_,rfl⟩
 have hl' : X'.l = X.l:=by rw [hX']; rfl
 have hz' : X'.z = false:=by rw [hX']; exact hz
 have hn' : X'.n0 = w.heap.size:=by rw [hX']; rfl
 have hR' : X'.R = R:=by rw [hX']; rfl
 have hY' : YOk P X':=by rw [hX']; exact hY.since hRX hn0
 have hXX : X'.X (some (xs ++ rest)) w Ψ Θ:=by rw [hX']; exact ⟨hX,Nat.le_refl _,fun b h=>.inl h,fun b h=>.inl h⟩
 let C : Ctx:={ w0:=w,R0:=R,bor:=Θ,pin:=fun _=>none,X:=X' }
 let p : Plan:={ R:=R,β:=fun _=>none,γ:=fun _=>1,X:=X',Ψ:=Ψ,Θ:=Θ }
 have hs : SR C p (st n (argL 0 (args X.l)) (fun _=>0) [(999,.gh P X.l false (some (xs ++ rest)))]) { tmps:=vs ++ Array.replicate (fn.ntmps - vs.size) undef,defers:=[] } w:={
  base:=⟨rfl,rfl,rfl,Nat.le_refl _,fun _ _ _ _=>rfl⟩
  r0:=fun _ h=>h
  rn:=fun _ h=>.inl h
  rb:=hR
  tm:=fun t=>by
   show (look (argL 0 (args X.l)) t).rel _ _ _ _
   by_cases hmem : ∃ x,(t,x) ∈ argL 0 (args X.l)
   · cases e : (args X.l)[t]? with
     | none =>
       obtain ⟨x,hx⟩:=hmem
       obtain ⟨i,y,h1,h2⟩:=argL_mem _ hx
       simp only [Nat.zero_add,Prod.mk.injEq] at h1
       rw [← h1.1,e] at h2; cases h2
     | some x =>
       obtain ⟨u,hu,hx⟩:=RV.relV_get hV e
       have : (vs ++ Array.replicate (fn.ntmps - vs.size) undef).getD t undef = u:=by
        have ht : t < vs.size:=by have:=(List.getElem?_eq_some_iff.1 hu).1; simpa using this
        rw [Array.getD_eq_getD_getElem?,Array.getElem?_append_left ht]
        simp only [Array.getElem?_toList] at hu
        rw [hu]; rfl
       have e2:=argL_look (k:=0) e
       rw [Nat.zero_add] at e2
       rw [this,e2]
       simpa only [AV.rel] using hx
   · rw [look_none hmem]
     exact AV.rel_un _ _ _ _
  sz:=by simp only [Array.size_append,Array.size_replicate,st]; omega
  ex:={
   px:=rfl
   n0:=by show X'.n0 ≤ w.heap.size; rw [hn']; exact Nat.le_refl _
   ψ0:=fun _ b hb=>by show X'.R b; rw [hR']; exact hb
   ψl:=hΨ
   θl:=hΘ
   ψb:=fun k b h=>by cases h
   ψr:=hRΘ
   ψo:=fun b h=>h.elim
   θo:=fun b h _=>h
   bo:=fun b h=>h.elim (hΘ b) (fun h=>h.elim)
   ψn:=fun hn=>(hn _ _ _ _ hXX).elim
   hd:=fun b h=>h.elim
   rm:=fun _=>rfl
   df:=⟨[],rfl,List.nodup_nil,fun D hD=>by cases hD⟩ }
  rw:=fun k=>by
   show rowRel w p _ k (lookc [(999,RowC.gh P X.l false (some (xs ++ rest)))] k)
   rw [lookc_cons,lookc_nil]
   split
   · rename_i e
     simp only [rowRel];exact ⟨e,rfl,rfl,hl',hz',hY',hXX⟩
   · simp only [rowRel]; exact ⟨rfl,rfl⟩
  bl:=fun k b h=>by simp [p] at h
  ij:=fun k k' b h=>by simp [p] at h
  cap:=fun k=>by simp [p,maxLen]
  pn:=fun k x h=>by cases h
  lk:=fun j km n l cur h _=>by
   have h' : lookc [(999,RowC.gh P X.l false (some (xs ++ rest)))] j = .mi km n l cur:=h
   rw [lookc_cons,lookc_nil] at h'
   split at h' <;> cases h' }
 refine callsIn_wide.1 (callsIn_of_wp_marks (n:=0) hf hb trivial (wpIn_mono (h C X.l rest rfl _ w ⟨p,hs⟩) ?_))
 rintro e a' w' ⟨s',⟨p',hs'⟩,hq⟩
 have fin : ∀ (a' : Act) (w' : World),SR C p' s' a' w' → (∃ b l,s'.tm t = .r (.bo b) ∧ (s'.rows 999).c = .gh P l false (if b then some rest else none)) →
  ∃ v, (results fn a'.tmps).run P w' = .ok v w' ∧ (w'.os = w.os ∧ w'.tape = w.tape ∧ w'.output = w.output ∧ w.heap.size ≤ w'.heap.size ∧ (∀ b, b < w.heap.size → ¬ Θ b → w'.heap[b]? = w.heap[b]?) ∧
    ∃ Ψ' Θ' : Nat → Prop,(∀ b,Ψ' b → Ψ b ∨ R b ∨ w.heap.size ≤ b) ∧ (∀ b,Θ' b → Θ b ∨ w.heap.size ≤ b) ∧ (∀ b,Ψ' b → b < w'.heap.size) ∧ (∀ b,Θ' b → b < w'.heap.size) ∧
    ((Ending.returned v = .returned (.bool true) ∧ X.X (some rest) w' Ψ' Θ') ∨ (Ending.returned v = .returned (.bool false) ∧ X.X none w' Ψ' Θ'))):=fun a' w' hs' ⟨b,l,hb1,hb2⟩=>by
  have hv : a'.tmps.getD t undef = .bool b:=by
   have:=hs'.tm t
   rw [hb1] at this
   simpa only [AV.rel,RV.rel] using this
  have hu : (resOp a'.tmps (.tmp t)).run P w' = .ok (.bool b) w':=by
   simp only [resOp,Sem.run_pure,hv]
  have hm : (fn.results.mapM (resOp a'.tmps)).run P w' = .ok #[.bool b] w':=by
   rw [Array.mapM_eq_mapM_toList,hres]
   simp only [Sem.run_map,List.mapM_cons,List.mapM_nil,Sem.run_bind,hu,Result.andThen_ok,Sem.run_pure]
  have hpx : p'.X = X':=hs'.ex.px
  have hr:=hs'.rw 999
  rw [hb2] at hr
  simp only [rowRel] at hr
  rw [hpx] at hr
  have hXe:=hr.2.2.2.2.2.2
  refine ⟨.bool b,by rw [results_eq,Sem.run_bind,hm]; simp,hs'.base.os,hs'.base.tape,hs'.base.output,hs'.base.size,fun k hk ht=>hs'.base.block k hk ht (fun h=>h),p'.Ψ,p'.Θ,?_,?_,hs'.ex.ψl,hs'.ex.θl,?_⟩
  · rw [hX'] at hXe; exact hXe.2.2.1
  · rw [hX'] at hXe; exact hXe.2.2.2
  · rw [hX'] at hXe
    cases b
    · exact .inr ⟨rfl,hXe.1⟩
    · exact .inl ⟨rfl,hXe.1⟩
 cases e with
 | normal=>exact hs'.leave fun a'' w'' _ hs''=>fin a'' w'' hs'' hq
 | ret=>exact hs'.leave fun a'' w'' _ hs''=>fin a'' w'' hs'' hq
 | _=>exact hq.elim
section
variable {P : Program} {C : Ctx} {s : AS} {Q : Exit → AS → Prop} {ops : Array Oper}
end
section
variable {n : Nat} {l : List (Nat × AV)} {vs : Nat → Nat} {cs : List (Nat × RowC)}
theorem row999_st {c : RowC} : (st n l vs cs).row 999 ⟨((st n l vs cs).rows 999).ver,c⟩ = st n l vs (insc cs 999 c):=by
 rw [row_st]
 congr 1
 funext k
 unfold upd
 split
 · rename_i e; subst e; rfl
 · rfl
end
end Go.Oc

namespace Go.Oc
open Go Go.RowKit
set_option linter.unusedVariables false
set_option linter.unusedSimpArgs false
def sLitBox (P : Program) (s : AS) (d : Nat) (t : TypeId) (len : Nat) (parts : List (Nat × AV)) : Res :=
 match tyq P t with
 | some ⟨.slice e esz _ ez, _, _, _⟩ =>
   if len = 0 then .bad else
   match lay s.ver (fun i=>some (i * esz,esz)) ((List.replicate len ez).flatten.map .r) parts with
   | some cs=>⟨0 < esz ∧ len * esz ≤ 16777216 ∧ d < 1000,True,⟨.os d ((s.rows d).ver + 1) esz 0 len,[(d,⟨(s.rows d).ver + 1,.ara e esz cs⟩)]⟩⟩
   | none=>.bad
 | _=>.bad
section
variable {P : Program} {C : Ctx} {p : Plan} {s : AS} {a : Act} {w : World} {o : Oper}
theorem relV_map_r {ver : Nat → Nat} : ∀ {xs : List RV} {vs : List Value},RV.relV w p.R xs vs → AV.relV w p ver (xs.map .r) vs
 | [],vs,h=>by simp only [RV.relV] at h; simp only [List.map_nil,AV.relV]; exact h
 | x :: xs, vs, h => by
   simp only [RV.relV] at h
   obtain ⟨u,us,e,h1,h2⟩:=h
   simp only [List.map_cons,AV.relV,AV.rel];exact ⟨u,us,e,h1,relV_map_r h2⟩
theorem lay_len {ver : Nat → Nat} {place : Nat → Option (Nat × Nat)} : ∀ (parts : List (Nat × AV)) (cs cs' : List AV),lay ver place cs parts = some cs' → cs'.length = cs.length
 | [],cs,cs',h=>by simp only [lay] at h; injection h with h; rw [h]
 | (i, x) :: parts, cs, cs', h => by
   simp only [lay] at h
   split at h
   · split at h
     · rename_i o sz xs _ _ hc
       rw [lay_len parts _ _ h]
       simp
       omega
     · cases h
   · cases h
theorem good_litBox {t : TypeId} {n : Nat} {ps : Array (Nat × Operand)} (h : SR C p s a w) (ho : o.op = .buildSlice t n ps) (hp : (sLitBox P s (o.dst.getD 0) t n (ps.toList.map fun (i,x)=>(i,s.ev x))).pre) :
 Done P C o s a w (sLitBox P s (o.dst.getD 0) t n (ps.toList.map fun (i,x)=>(i,s.ev x))):=by
 have hparts:=parts_rel h ps.toList
 unfold sLitBox at hp ⊢
 split at hp
 · rename_i e esz eb ez sz agg z e1
   obtain ⟨hu,hok,hsz,_,zv,hzv,hez⟩:=tyq_slice e1
   subst hsz
   obtain ⟨i,zval,hi,hzero,hcells,hz1,hzl⟩:=zeroOf_spec hzv
   split at hp
   · exact hp.elim
   · rename_i hn0
     rw [if_neg hn0]
     split at hp
     · rename_i cs hlay
       obtain ⟨hpos,hmax,hd⟩ : 0 < P.cellsOf e ∧ n * P.cellsOf e ≤ 16777216 ∧ o.dst.getD 0 < 1000:=hp
       have hzc : zval.cells.size = P.cellsOf e:=by rw [← hzl,← hcells]; simp
       obtain ⟨cells',hf,hr,hr1⟩:=lay_rel (p:=p) (w:=w) _ _ (ps.toList.map fun x=>(x.1,a.eval x.2)) _ _ (madeCells zval.cells (n * P.cellsOf e)) hlay
        (by
         rw [← hzc,madeCells_list,hcells,hez]
         refine relV_map_r ?_
         clear hlay hn0 ho hmax
         induction n with
         | zero=>simp [RV.relV]
         | succ n ih =>
           simp only [List.replicate_succ,List.flatten_cons];exact RV.relV_append (RV.relV_ofV1 w p.R zv) ih)
        (by
         rw [← hzc,madeCells_list,hcells]
         intro u hu
         obtain ⟨l,hl,hul⟩:=List.mem_flatten.1 hu
         rw [List.eq_of_mem_replicate hl] at hul
         exact hz1 u hul)
        hparts.1 hparts.2
       have hcl : cells'.size = n * P.cellsOf e:=by
        rw [← Array.length_toList,AV.relV_length hr,lay_len _ _ _ hlay,List.length_map]
        have : ∀ m,(List.replicate m ez).flatten.length = m * P.cellsOf e:=by
         intro m
         induction m with
         | zero=>simp
         | succ m ih=>rw [List.replicate_succ,List.flatten_cons,List.length_append,ih,hez,List.length_map,hzl,Nat.add_mul]; omega
        exact this n
       have hnm : n ≤ 16777216:=Nat.le_trans (Nat.le_mul_of_pos_right n hpos) hmax
       have hn:=h.newRow (o.dst.getD 0) hd (.ara e (P.cellsOf e) cs) rfl n (by simp only [maxLen]; omega) (.cells cells' e) (fun p' ver' hR hβ hγ hk=>by
        simp only [rowRel];rw [hγ]
        exact ⟨_,_,hβ,heap_alloc_new w _,hcl,cells'.toList,[],by simp,AV.relV_mono hk _ _ hr,hr1⟩)
       refine ⟨_,.slice (some ⟨w.heap.size,0,none⟩) n n,_,_,?_,.inl rfl,trivial,by rw [rows_one]; exact hn,?_⟩
       · have hmap : (ps.map fun (x : Nat × Operand)=>(x.1,a.eval x.2)).toList = ps.toList.map fun x=>(x.1,a.eval x.2):=by simp
         have hne : ¬ (n * P.cellsOf e = 0):=by
          have:=Nat.mul_pos (show 0 < n by omega) hpos
          omega
         have hz : (zeroValue e).run P w = .ok zval w:=by simp [zeroValue,typeInfo,hi,hzero]
         have hf':=hf
         simp only [madeCells] at hf'
         simp only [execOp,ho,Instr.buildSlice,Sem.run_bind,run_underlying hu,Result.andThen_ok,run_sizeOf_ok hok,if_neg (show ¬ (n * P.cellsOf e > 2 ^ 24) by omega),if_neg hne,hz,Sem.run_pure,hmap,hf']
         simp [newRow]
       · rw [rows_one]
         simp only [AV.rel,vers,upd_same];exact ⟨Nat.le_refl _,fun _=>.inr ⟨_,_,rfl,by simp; rfl,by omega,fun _=>by simp⟩⟩
     · exact hp.elim
 · exact hp.elim
variable {Q : Exit → AS → Prop} {ops : Array Oper}
theorem sops_litB {l : List Oper} {t : TypeId} {n : Nat} {ps : List (Nat × Operand)} {d : Nat} {ty : TypeId} {pos : String} {af : Array Edge} (hdn : d < s.n)
 (h : aR s (some d) (sLitBox P s d t n (evp s ps)) (fun s'=>sops P C ops l Q s')) : sops P C ops (⟨some d,.buildSlice t n ps.toArray,ty,pos,af,none⟩ :: l) Q s:=fun a w ⟨p,hs⟩=>by
 rw [← evp_eq] at h
 unfold wpListIn
 rw [if_pos (wantA_sound hs (by simp [wantA]))]
 refine wpIn_of_wp (by intro c h; cases h) ?_
 obtain ⟨nx,v,w',p',hrun,hnx,hass,hSR,hrel⟩:=good_litBox (o:=⟨some d,.buildSlice t n ps.toArray,ty,pos,af,none⟩) hs rfl h.1
 unfold Oper.wp
 rw [hrun]
 have hput:=hSR.put' (d:=some d) hrel (fun t ht=>by injection ht with ht; subst ht; exact hdn)
 rcases hnx with rfl | ⟨rfl,rfl⟩
 · exact h.2 hass _ _ ⟨p',hput⟩
 · exact h.2 hass _ _ ⟨p',hput⟩
end
section
variable {n : Nat} {l : List (Nat × AV)} {vs : Nat → Nat} {cs : List (Nat × RowC)}
end
end Go.Oc

namespace Go.Oc
open Go Go.RowKit
set_option linter.unusedVariables false
set_option linter.unusedSimpArgs false
def unl (listed : Array Bool) : Nat → Nat
 | 0=>0
 | m + 1=>unl listed m + if listed.getD m true then 0 else 1
theorem getD_setT {listed : Array Bool} {i j : Nat} : (listed.setIfInBounds i true).getD j true = if j = i then true else listed.getD j true:=by
 split
 · rename_i e
   subst e
   simp only [Array.getD_eq_getD_getElem?,Array.getElem?_setIfInBounds]
   split
   · split <;> simp_all
   · simp_all
 · rename_i e
   simp only [Array.getD_eq_getD_getElem?,Array.getElem?_setIfInBounds];rw [if_neg (fun h=>e h.symm)]
theorem unl_same {listed : Array Bool} {i : Nat} : ∀ m,m ≤ i → unl (listed.setIfInBounds i true) m = unl listed m
 | 0,_=>rfl
 | m + 1, h => by
   have e2 : m ≠ i:=by omega
   have e3:=unl_same (listed:=listed) (i:=i) m (by omega)
   simp only [unl,getD_setT,e3,if_neg e2]
theorem unl_set {listed : Array Bool} {i : Nat} (hi : listed.getD i true = false) : ∀ m,i < m → unl (listed.setIfInBounds i true) m + 1 = unl listed m
 | 0,h=>by omega
 | m + 1, h => by
   simp only [unl,getD_setT]
   by_cases e : i = m
   · subst e
     rw [unl_same _ (Nat.le_refl _)]
     simp [hi]
   · have:=unl_set hi m (by omega)
     have e2 : m ≠ i:=fun h=>e h.symm
     rw [if_neg e2]
     omega
theorem unl_zero {listed : Array Bool} : ∀ m,unl listed m = 0 → ∀ j,j < m → listed.getD j true = true
 | 0,_,j,h=>by omega
 | m + 1, h, j, hj => by
   simp only [unl] at h
   by_cases e : j = m
   · subst e
     by_cases hx : listed.getD j true = true
     · exact hx
     · simp [hx] at h
   · exact unl_zero m (by omega) j (by omega)
def stepAll (P : Program) (ops : Array Oper) (n : Nat) (F : (Nat → Bool) → (Nat → Nat) → List (Nat × AV)) (R : (Nat → Bool) → (Nat → Nat) → List (Nat × RowC)) : Nat → List Oper → Prop
 | _,[]=>True
 | k,o :: rest=>(∀ b vs,(∀ j e,j < ops.size → (deps ops j).contains e = true → b j = true → b e = true) → b k = false → (∀ e ∈ deps ops k,b e = true) →
  xop P false o (FitV n (F (upd b k true)) (R (upd b k true))) (st n (F b vs) vs (R b vs))) ∧ stepAll P ops n F R (k + 1) rest
theorem stepAll_get {P : Program} {ops : Array Oper} {n : Nat} {F : (Nat → Bool) → (Nat → Nat) → List (Nat × AV)} {R : (Nat → Bool) → (Nat → Nat) → List (Nat × RowC)} : ∀ {l : List Oper} {k i : Nat} {o : Oper},stepAll P ops n F R k l → l[i]? = some o →
 ∀ b vs, (∀ j e, j < ops.size → (deps ops j).contains e = true → b j = true → b e = true) → b (k + i) = false → (∀ e ∈ deps ops (k + i), b e = true) →
   xop P false o (FitV n (F (upd b (k + i) true)) (R (upd b (k + i) true))) (st n (F b vs) vs (R b vs))
 | [],_,_,_,_,h=>by simp at h
 | x :: l, k, 0, o, hs, h => by
   simp only [List.getElem?_cons_zero,Option.some.injEq] at h
   subst h
   exact hs.1
 | x :: l, k, i + 1, o, hs, h => by
   have:=stepAll_get (k:=k + 1) (i:=i) hs.2 (by simpa using h)
   rwa [show k + 1 + i = k + (i + 1) by omega] at this
def upOk (ops : Array Oper) : Bool:=(List.range ops.size).all fun j=>(deps ops j).all fun e=>decide (e < j)
section
variable {P : Program} {C : Ctx} {s : AS} {a : Act} {w : World} {ops : Array Oper}
theorem ready_nil {listed : Array Bool} (hu : upOk ops = true) (h : Region.ready .any ops listed = []) (hsz : listed.size = ops.size) : ∀ j,j < ops.size → listed.getD j true = true:=by
 intro j
 induction j using Nat.strongRecOn with
 | _ j ih =>
   intro hj
   by_cases hx : listed.getD j true = true
   · exact hx
   · exfalso
     have ho : ops[j]? = some ops[j]:=Array.getElem?_eq_getElem hj
     have hr : j ∈ Region.ready .any ops listed:=by
      refine mem_ready.2 ⟨by simpa using hx,ops[j],ho,fun e he hb=>?_⟩
      have hm : e.on ∈ deps ops j:=by unfold deps; rw [ho]; exact List.mem_map.2 ⟨e,List.mem_filter.2 ⟨by simpa using he,hb⟩,rfl⟩
      have hlt:=List.all_eq_true.1 (List.all_eq_true.1 hu j (by simpa using hj)) e.on hm
      simp only [decide_eq_true_eq] at hlt
      have:=ih e.on hlt (by omega)
      have h2 : e.on < listed.size:=by omega
      simpa [h2] using this
     rw [h] at hr
     cases hr
theorem inv_any {Q : AS → Prop} {Q' : Exit → Act → World → Prop} (hQ : ∀ s a w,Q s → SRel C s a w → Q' .normal a w) {n : Nat} {F : (Nat → Bool) → (Nat → Nat) → List (Nat × AV)} {R : (Nat → Bool) → (Nat → Nat) → List (Nat × RowC)}
 (hd : dstOk ops n = true) (hg : ops.all (fun o=>o.guard.isNone) = true) (hu : upOk ops = true) (hstep : stepAll P ops n F R 0 ops.toList)
 (hend : ∀ b vs,(∀ j,b j = true) → Q (st n (F b vs) vs (R b vs))) :
 ∀ (fuel : Nat) (vs : Nat → Nat) (listed : Array Bool) (a : Act) (w : World), listed.size = ops.size → down ops listed → unl listed ops.size ≤ fuel → SRel C (st n (F (fun j => listed.getD j true) vs) vs (R (fun j => listed.getD j true) vs)) a w →
   wpAnyIn (fnc C.rd) 0 P .any ops Q' fuel listed a w:=by
 have all : ∀ {listed : Array Bool},listed.size = ops.size → (∀ j,j < ops.size → listed.getD j true = true) → ∀ j,(fun j=>listed.getD j true) j = true:=fun {listed} hsz h j=>by
  by_cases hj : j < ops.size
  · exact h j hj
  · show listed.getD j true = true
    have : ¬ j < listed.size:=by omega
    simp [this]
 intro fuel
 induction fuel with
 | zero =>
   intro vs listed a w hsz hdn hf hs
   have h0:=unl_zero (listed:=listed) ops.size (by omega)
   refine ⟨List.eq_nil_iff_forall_not_mem.2 fun j hj=>?_,hQ _ _ _ (hend _ _ (all hsz h0)) hs⟩
   obtain ⟨h1,o,ho,_⟩:=mem_ready.1 hj
   have:=h0 j (Array.getElem?_eq_some_iff.1 ho).1
   rw [this] at h1
   cases h1
 | succ fuel ih =>
   intro vs listed a w hsz hdn hf hs
   refine ⟨fun h0=>hQ _ _ _ (hend _ _ (all hsz (ready_nil hu h0 hsz))) hs,fun i hi=>?_⟩
   obtain ⟨hi1,o,ho,hall⟩:=mem_ready.1 hi
   unfold wpOpIn
   rw [ho]
   simp only
   have hil : i < ops.size:=(Array.getElem?_eq_some_iff.1 ho).1
   have hgo : o.guard = none:=by
    have:=Array.all_eq_true_iff_forall_mem.1 hg o (Array.mem_of_getElem? ho)
    simpa using this
   obtain ⟨p,hp⟩:=hs
   rw [if_pos (wantA_sound hp (by simp [wantA,hgo]))]
   have hx:=stepAll_get (k:=0) (i:=i) hstep (by rw [Array.getElem?_toList]; exact ho) (fun j=>listed.getD j true) vs (fun j e hj he hb=>?_) (by rw [Nat.zero_add]; exact hi1) (fun e he=>?_)
   · rw [Nat.zero_add] at hx
     refine xop_sound hp hx (dstOk_get hd ho) (fun a' w' p' s' hs' hn hK=>?_) (dstOk_nd hd ho)
     obtain ⟨vs',hsub⟩:=hK
     have e : upd (fun j=>listed.getD j true) i true = fun j=>(listed.setIfInBounds i true).getD j true:=by
      funext j
      rw [getD_setT]
      rfl
     rw [e] at hsub
     exact ih vs' _ a' w' (by simpa using hsz) (down_set hdn hi) (by have:=unl_set hi1 ops.size hil; omega) (hsub C a' w' ⟨p',hs'⟩)
   · have hjs : j < listed.size:=by omega
     have hb' : listed.getD j true = true:=hb
     have h2:=hdn j (by simpa [hjs] using hb') e (by simpa using he)
     show listed.getD e true = true
     by_cases hes : e < listed.size
     · simpa [hes] using h2
     · simp [hes]
   · have h2:=ready_deps hi e (by simpa using he)
     show listed.getD e true = true
     by_cases hes : e < listed.size
     · simpa [hes] using h2
     · simp [hes]
end
theorem awp_inv {P : Program} {C : Ctx} {id : Nat} {l : List Oper} {n : Nat} {Q : Exit → AS → Prop} {s : AS} (F : (Nat → Bool) → (Nat → Nat) → List (Nat × AV)) (R : (Nat → Bool) → (Nat → Nat) → List (Nat × RowC)) (hm : P.follows .mixedOrders = true)
 (hd : dstOk l.toArray n = true) (hg : l.toArray.all (fun o=>o.guard.isNone) = true) (hu : upOk l.toArray = true) (h0 : FitV n (F fun j=>decide (l.length ≤ j)) (R fun j=>decide (l.length ≤ j)) s)
 (hstep : stepAll P l.toArray n F R 0 l) (hend : ∀ b vs,(∀ j,b j = true) → Q .normal (st n (F b vs) vs (R b vs))) : awp P C (.region id l.toArray true) Q s:=fun a w hs=>by
 obtain ⟨vs,hsub⟩:=h0
 obtain ⟨p,hp⟩:=hsub C a w hs
 have hs' : SR C p _ a { w with drawn:=w.drawn + 1 }:=hp.below (w':=w.drew) ((Below.refl _ _).drew) (fun _ h=>h) (fun _ h=>.inl h) hp.rb
 refine wpIn_region_any hm ?_
 have e : (fun j=>(Array.replicate l.toArray.size false).getD j true) = fun j=>decide (l.length ≤ j):=by
  funext j
  by_cases h : j < l.length
  · have : ¬ l.length ≤ j:=by omega
    simp [h,this]
  · have : l.length ≤ j:=by omega
    simp [h,this]
 refine inv_any (Q:=fun s=>Q .normal s) (n:=n) (F:=F) (R:=R) (fun s a w hq hs=>⟨s,hs,hq⟩) hd hg hu (by simpa using hstep) hend _ vs _ _ _ (by simp) (fun j hj=>?_) ?_ ?_
 · exfalso
   simp only [Array.getD_eq_getD_getElem?,Array.getElem?_replicate] at hj
   split at hj <;> simp at hj
 · have : ∀ m,unl (Array.replicate l.toArray.size false) m ≤ m:=by
    intro m
    induction m with
    | zero=>exact Nat.le_refl _
    | succ m ih=>simp only [unl]; split <;> omega
   exact this _
 · rw [e]
   exact ⟨p,hs'⟩
def allB (b : Nat → Bool) (v : Bool) : List Nat → Prop
 | []=>True
 | e :: es=>b e = v ∧ allB b v es
def chU (ops : Array Oper) (n : Nat) : List Nat → List Nat → Bool
 | _,[]=>true
 | seen,e :: es=>((deps ops n).contains e || seen.any fun j=>decide (j < ops.size) && (deps ops j).contains e) && chU ops n (e :: seen) es
def chD (ops : Array Oper) (n : Nat) : List Nat → List Nat → Bool
 | _,[]=>true
 | seen,e :: es=>(decide (e < ops.size) && ((deps ops e).contains n || seen.any fun j=>(deps ops e).contains j)) && chD ops n (e :: seen) es
theorem upT0 {ops : Array Oper} {b : Nat → Bool} {n : Nat} (hdn : ∀ j e,j < ops.size → (deps ops j).contains e = true → b j = true → b e = true) (hde : ∀ e ∈ deps ops n,b e = true) : ∀ (es seen : List Nat),(∀ j ∈ seen,b j = true) → chU ops n seen es = true → allB b true es
 | [],_,_,_=>trivial
 | e :: es, seen, hs, h => by
   simp only [chU,Bool.and_eq_true,Bool.or_eq_true,List.any_eq_true,decide_eq_true_eq] at h
   have he : b e = true:=by
    rcases h.1 with h1 | ⟨j,hj,h1,h2⟩
    · exact hde e (by simpa using h1)
    · exact hdn j e h1 h2 (hs j hj)
   refine ⟨he,upT0 hdn hde es (e :: seen) (fun j hj=>?_) h.2⟩
   rcases List.mem_cons.1 hj with rfl | hj
   · exact he
   · exact hs j hj
theorem upT {ops : Array Oper} {b : Nat → Bool} {n : Nat} (hdn : ∀ j e,j < ops.size → (deps ops j).contains e = true → b j = true → b e = true) (hde : ∀ e ∈ deps ops n,b e = true) (es : List Nat) (h : chU ops n [] es = true) : allB b true es:=upT0 hdn hde es [] (by simp) h
theorem dnT0 {ops : Array Oper} {b : Nat → Bool} {n : Nat} (hdn : ∀ j e,j < ops.size → (deps ops j).contains e = true → b j = true → b e = true) (hbk : b n = false) : ∀ (es seen : List Nat),(∀ j ∈ seen,b j = false) → chD ops n seen es = true → allB b false es
 | [],_,_,_=>trivial
 | e :: es, seen, hs, h => by
   simp only [chD,Bool.and_eq_true,Bool.or_eq_true,List.any_eq_true,decide_eq_true_eq] at h
   have he : b e = false:=by
    cases hb : b e
    · rfl
    · rcases h.1.2 with h1 | ⟨j,hj,h2⟩
      · rw [hdn e n h.1.1 h1 hb] at hbk; cases hbk
      · have:=hs j hj
        rw [hdn e j h.1.1 h2 hb] at this; cases this
   refine ⟨he,dnT0 hdn hbk es (e :: seen) (fun j hj=>?_) h.2⟩
   rcases List.mem_cons.1 hj with rfl | hj
   · exact he
   · exact hs j hj
theorem dnT {ops : Array Oper} {b : Nat → Bool} {n : Nat} (hdn : ∀ j e,j < ops.size → (deps ops j).contains e = true → b j = true → b e = true) (hbk : b n = false) (es : List Nat) (h : chD ops n [] es = true) : allB b false es:=dnT0 hdn hbk es [] (by simp) h
end Go.Oc

namespace Go.Oc
open Go Go.RowKit
set_option linter.unusedVariables false
set_option linter.unusedSimpArgs false
def sAppB (P : Program) (s : AS) (d : Nat) (t t' : TypeId) (x y : AV) : Res :=
 match tyq P t,decide (t = t'),x,y with
 | some ⟨.slice e esz eb _, _, _, _⟩, true, .os k n sz off m, .os j n2 sz2 off2 m2 =>
   match s.rows k,s.rows j with
   | ⟨n',.ara e' sz' cs⟩,⟨n2',.ara e2 sz2' ds⟩=>⟨(n = n' ∧ n2 = n2') ∧ (e' = e ∧ e2 = e) ∧ (sz = esz ∧ sz' = esz ∧ sz2 = esz ∧ sz2' = esz) ∧ (off = 0 ∧ off2 = 0) ∧ (cs.length = m * esz ∧ ds.length = m2 * esz) ∧ (0 < m ∧ 0 < m2 ∧ 0 < esz) ∧ (m + m2) * eb ≤ 140737488355328 ∧ m + m2 ≤ 9223372036854775807 ∧ k < 1000,True,
    ⟨.os k (n' + 1) esz 0 (m + m2),[(k,⟨n' + 1,.ara e esz (cs ++ ds)⟩)]⟩⟩
   | _,_=>.bad
 | some ⟨.slice e esz eb _, _, _, _⟩, true, .r .ns, .os j n2 sz2 off2 m2 =>
   match s.rows j with
   | ⟨n2',.ara e2 sz2' ds⟩=>⟨n2 = n2' ∧ e2 = e ∧ (sz2 = esz ∧ sz2' = esz) ∧ off2 = 0 ∧ ds.length = m2 * esz ∧ (0 < m2 ∧ 0 < esz) ∧ m2 * eb ≤ 140737488355328 ∧ m2 ≤ 9223372036854775807 ∧ d < 1000,True,
    ⟨.os d ((s.rows d).ver + 1) esz 0 m2,[(d,⟨(s.rows d).ver + 1,.ara e esz ds⟩)]⟩⟩
   | _=>.bad
 | _,_,_,_=>.bad
section
variable {P : Program} {C : Ctx} {p : Plan} {s : AS} {a : Act} {w : World} {o : Oper}
theorem ara_read (h : SR C p s a w) {k n esz e m : Nat} {cs : List AV} {x : Operand} (e3 : s.ev x = .os k n esz 0 m) (e5 : s.rows k = ⟨n,.ara e esz cs⟩) (hm : cs.length = m * esz) (h0 : 0 < m) :
 ∃ b cells l rest, p.β k = some b ∧ a.eval x = .slice (some ⟨b, 0, none⟩) m (p.γ k) ∧ w.heap[b]? = some (.cells cells e (0, 0)) ∧ cells.size = p.γ k * esz ∧ cells.toList = l ++ rest ∧ AV.relV w p s.ver cs l ∧ (∀ u ∈ l, u.oneCell' = true) ∧ l.length = m * esz ∧
   m ≤ p.γ k ∧ ∀ j u,l[j]? = some u → w.cell? ((⟨b,0,none⟩ : Addr).add j) = some u:=by
 have hver : n = s.ver k:=by simp [AS.ver,e5]
 have hrow:=h.rw k
 rw [e5] at hrow
 simp only [rowRel] at hrow
 obtain ⟨b,cells,hβ,hh,hcs,l,rest,hl,hV,h1⟩:=hrow
 rcases ev_os h e3 hver with ⟨hb0,_⟩ | ⟨b',A,hβ',hv,hle,hA⟩
 · rw [hb0] at hβ; cases hβ
 · rw [hβ] at hβ'
   injection hβ' with hβ'
   subst hβ'
   obtain rfl:=hA (.inl h0)
   simp only [Nat.zero_mul,Nat.sub_zero,Nat.zero_add] at hv hle
   refine ⟨b,cells,l,rest,hβ,hv,hh,hcs,hl,hV,h1,by rw [AV.relV_length hV,hm],hle,fun j u hj=>?_⟩
   rw [add_at,Nat.zero_add,cell_of_row w b j cells e (0,0) hh,← Array.getElem?_toList,hl,List.getElem?_append_left (List.getElem?_eq_some_iff.1 hj).1]
   exact hj
theorem good_appB {x y : Operand} {t t' : TypeId} (h : SR C p s a w) (ho : o.op = .call ⟨.builtin .append,#[x,y],#[t,t']⟩) (hp : (sAppB P s (o.dst.getD 0) t t' (s.ev x) (s.ev y)).pre) :
 Done P C o s a w (sAppB P s (o.dst.getD 0) t t' (s.ev x) (s.ev y)):=by
 have go : ∀ {v : Value} {w2 : World},(Builtin.append_ #[t,t'] o.type #[a.eval x,a.eval y]).run P w = .ok v w2 → (execOp a.eval o).run P w = .ok (.value v) w2:=fun hr =>
  run_builtin_of ho (by simp only [builtin,Sem.run_bind,List.map_toArray,List.map_cons,List.map_nil,hr,Result.andThen_ok,Sem.run_pure])
 unfold sAppB at hp ⊢
 split at hp
 · rename_i e esz eb ez ssz sagg sz0 k n sz off m j n2 sz2 off2 m2 e1 e2 e3 e4
   obtain rfl : t = t':=by simpa using e2
   split at hp
   · rename_i n' e' sz' cs n2' ee sz2' ds e5 e6
     obtain ⟨⟨g1,g2⟩,⟨g3,g4⟩,⟨g5,g6,g7,g8⟩,⟨g9,g10⟩,⟨hm,hm2⟩,⟨h0,h02,hpos⟩,hb,hmax,hk0⟩:=hp
     subst g1 g2 g3 g4 g5 g6 g7 g8 g9 g10
     have hn2 : n = (s.rows k).ver:=by rw [e5]
     obtain ⟨b,cells,l,rest,hβ,hv,hh,hcs,hl,hV,h1,hll,hle,hget⟩:=ara_read h e3 e5 hm h0
     obtain ⟨bj,cellsj,vs,restj,hβj,hvj,hhj,hcsj,hlj,hVj,h1j,hlv,hlej,hgv⟩:=ara_read h e4 e6 hm2 h02
     obtain ⟨hu,hok,hco,hby,zv,hzv,hez⟩:=tyq_slice e1
     obtain ⟨i,z,hi,hzero,hcells,hz1,hzl⟩:=zeroOf_spec hzv
     rw [cellsOf_info hi] at hco
     rw [bytesOf_info hi] at hby
     by_cases hroom : m + m2 ≤ p.γ k
     · have hfit : m * sz2' + vs.length ≤ cells.size:=by
        rw [hlv,hcs,← Nat.add_mul]; exact Nat.mul_le_mul_right _ hroom
       have hr:=run_append_room (P:=P) w t o.type ee i hu hi b m (p.γ k) cells hh ⟨bj,0,none⟩ m2 (p.γ j) vs (by rw [hlv,hco]) hgv h1j hroom (by rw [hco]; exact hfit)
       rw [hco] at hr
       have htk : cells.toList.take (m * sz2') = l:=by rw [hl,← hll,List.take_left]
       have hSR:=h.reRow (w':=w.setRow b (cells.toList.take (m * sz2') ++ vs ++ cells.toList.drop (m * sz2' + vs.length)).toArray) k hk0 (.ara ee sz2' (cs ++ ds)) rfl (some b) (p.γ k) (h.cap k) rfl rfl rfl (by simp)
        (fun j _ hj=>setRow_other w b j _ (fun e=>hj (by rw [e]; exact hβ))) (fun b2 h2=>by injection h2 with h2; subst h2; exact ⟨by simpa using (h.bl k _ hβ).1,.inl hβ⟩) (fun p' ver' hR' hβ' hγ' hk=>by
        simp only [rowRel];rw [hγ']
        refine ⟨b,_,hβ',setRow_heap w b cells _ ee _ hh,?_,l ++ vs,cells.toList.drop (m * sz2' + vs.length),by rw [htk],?_,fun u hu=>(List.mem_append.1 hu).elim (h1 u) (h1j u)⟩
        · simp; omega
        · exact AV.relV_append (AV.relV_mono hk _ _ hV) (AV.relV_mono hk _ _ hVj))
       refine ⟨_,.slice (some ⟨b,0,none⟩) (m + m2) (p.γ k),_,{ p with β:=upd p.β k (some b),γ:=upd p.γ k (p.γ k) },go (by rw [hv,hvj]; exact hr),.inl rfl,trivial,?_,?_⟩
       · rw [rows_one,hn2]; exact hSR
       · rw [rows_one,hn2]
         simp only [AV.rel,vers,upd_same];exact ⟨Nat.le_refl _,fun _=>.inr ⟨b,_,rfl,by simp; rfl,by simpa using hroom,fun _=>by simp⟩⟩
     · have hr:=run_append_grow (P:=P) w t o.type ee i z hu hi hzero ⟨b,0,none⟩ m (p.γ k) l (by rw [hll,hco]) hget ⟨bj,0,none⟩ m2 (p.γ j) vs (by rw [hlv,hco]) hgv (by omega) (by omega)
        (growslice_fits (by omega) (by rw [hby]; exact hb))
       have hge:=grownCap_ge w (m + m2) (p.γ k) ee
       have hcap:=grownCap_le_maxLen w (m + m2) (p.γ k) ee (by simp only [maxLen]; omega)
       have hzc : z.cells.size = sz2':=by rw [cellsOf_info hi,hco] at hzl; rw [← hzl,← hcells]; simp
       have hd : SR C p s a w.drew:=h.below (w':=w.drew) ((Below.refl _ _).drew) (fun _ h=>h) (fun _ h=>.inl h) h.rb
       have hVd : AV.relV w.drew p s.ver cs l:=by
        obtain ⟨b3,cells3,hβ3,hh3,_,l3,rest3,hl3,hV3,_⟩ : ∃ b cells,p.β k = some b ∧ w.drew.heap[b]? = some (.cells cells ee (0,0)) ∧ cells.size = p.γ k * sz2' ∧ ∃ l rest,cells.toList = l ++ rest ∧ AV.relV w.drew p s.ver cs l ∧ ∀ u ∈ l,u.oneCell' = true:=by
         have:=hd.rw k
         rw [e5] at this
         simpa only [rowRel] using this
        rw [hβ] at hβ3; injection hβ3 with hβ3; subst hβ3
        have hh3' : w.heap[b]? = some (.cells cells3 ee (0,0)):=hh3
        rw [hh] at hh3'; injection hh3' with hh3'; injection hh3' with hh3'; subst hh3'
        have e7 : l3 = l:=by
         have e8:=AV.relV_length hV3
         rw [hl] at hl3
         have : l.length = l3.length:=by rw [hll,← hm]; exact e8.symm
         exact (List.append_inj hl3 this).1.symm
        subst e7
        exact hV3
       have hVjd : AV.relV w.drew p s.ver ds vs:=by
        obtain ⟨b3,cells3,hβ3,hh3,_,l3,rest3,hl3,hV3,_⟩ : ∃ b cells,p.β j = some b ∧ w.drew.heap[b]? = some (.cells cells ee (0,0)) ∧ cells.size = p.γ j * sz2' ∧ ∃ l rest,cells.toList = l ++ rest ∧ AV.relV w.drew p s.ver ds l ∧ ∀ u ∈ l,u.oneCell' = true:=by
         have:=hd.rw j
         rw [e6] at this
         simpa only [rowRel] using this
        rw [hβj] at hβ3; injection hβ3 with hβ3; subst hβ3
        have hh3' : w.heap[bj]? = some (.cells cells3 ee (0,0)):=hh3
        rw [hhj] at hh3'; injection hh3' with hh3'; injection hh3' with hh3'; subst hh3'
        have e7 : l3 = vs:=by
         have e8:=AV.relV_length hV3
         rw [hlj] at hl3
         have : vs.length = l3.length:=by rw [hlv,← hm2]; exact e8.symm
         exact (List.append_inj hl3 this).1.symm
        subst e7
        exact hV3
       have hn:=hd.newRow k hk0 (.ara ee sz2' (cs ++ ds)) rfl (grownCap w (m + m2) (p.γ k) ee) hcap
        (.cells (l.toArray ++ vs.toArray ++ Builtin.zeroCells z.cells (grownCap w (m + m2) (p.γ k) ee - (m + m2))) ee) (fun p' ver' _ hβ hγ hk=>by
        simp only [rowRel];rw [hγ]
        refine ⟨_,_,hβ,heap_alloc_new w.drew _,?_,l ++ vs,(Builtin.zeroCells z.cells (grownCap w (m + m2) (p.γ k) ee - (m + m2))).toList,?_,AV.relV_append (AV.relV_mono hk _ _ hVd) (AV.relV_mono hk _ _ hVjd),fun u hu=>(List.mem_append.1 hu).elim (h1 u) (h1j u)⟩
        · rw [Array.size_append,Array.size_append,size_zero,hzc,List.size_toArray,List.size_toArray,hll,hlv,← Nat.add_mul,← Nat.add_mul]
          congr 1; omega
        · simp only [Array.toList_append,List.append_assoc])
       refine ⟨_,_,_,_,go (by rw [hv,hvj]; exact hr),.inl rfl,trivial,by rw [rows_one,hn2]; exact hn,?_⟩
       rw [rows_one,hn2]
       simp only [AV.rel,vers,upd_same];exact ⟨Nat.le_refl _,fun _=>.inr ⟨_,_,rfl,by simp; rfl,by simpa using hge,fun _=>by simp⟩⟩
   · exact hp.elim
 · rename_i e esz eb ez ssz sagg sz0 j n2 sz2 off2 m2 e1 e2 e3 e4
   obtain rfl : t = t':=by simpa using e2
   split at hp
   · rename_i n2' ee sz2' ds e6
     obtain ⟨g2,g4,⟨g7,g8⟩,g10,hm2,⟨h02,hpos⟩,hb,hmax,hd0⟩:=hp
     subst g2 g4 g7 g8 g10
     obtain ⟨A,hv⟩:=ev_ns h e3
     obtain ⟨bj,cellsj,vs,restj,hβj,hvj,hhj,hcsj,hlj,hVj,h1j,hlv,hlej,hgv⟩:=ara_read h e4 e6 hm2 h02
     obtain ⟨hu,hok,hco,hby,zv,hzv,hez⟩:=tyq_slice e1
     obtain ⟨i,z,hi,hzero,hcells,hz1,hzl⟩:=zeroOf_spec hzv
     rw [cellsOf_info hi] at hco
     rw [bytesOf_info hi] at hby
     have hrun : (Builtin.append_ #[t,t] o.type #[.slice A 0 0,.slice (some ⟨bj,0,none⟩) m2 (p.γ j)]).run P w =
      .ok (.slice (some ⟨w.heap.size,0,none⟩) m2 (grownCap w m2 0 ee)) (w.drew.alloc (.cells (vs.toArray ++ Builtin.zeroCells z.cells (grownCap w m2 0 ee - m2)) ee)):=by
      cases A with
      | none=>exact run_append_nil (P:=P) w t o.type ee i z hu hi hzero ⟨bj,0,none⟩ m2 (p.γ j) vs (by rw [hlv,hco]) hgv h02 (by omega) (by rw [hby]; omega)
      | some b =>
        have:=run_append_grow (P:=P) w t o.type ee i z hu hi hzero b 0 0 [] (by simp) (by simp) ⟨bj,0,none⟩ m2 (p.γ j) vs (by rw [hlv,hco]) hgv (by omega) (by omega) (growslice_fits (by omega) (by rw [hby]; simpa using hb))
        simpa using this
     have hge:=grownCap_ge w m2 0 ee
     have hcap:=grownCap_le_maxLen w m2 0 ee (by simp only [maxLen]; omega)
     have hzc : z.cells.size = sz2':=by rw [cellsOf_info hi,hco] at hzl; rw [← hzl,← hcells]; simp
     have hd : SR C p s a w.drew:=h.below (w':=w.drew) ((Below.refl _ _).drew) (fun _ h=>h) (fun _ h=>.inl h) h.rb
     have hVjd : AV.relV w.drew p s.ver ds vs:=by
      obtain ⟨b3,cells3,hβ3,hh3,_,l3,rest3,hl3,hV3,_⟩ : ∃ b cells,p.β j = some b ∧ w.drew.heap[b]? = some (.cells cells ee (0,0)) ∧ cells.size = p.γ j * sz2' ∧ ∃ l rest,cells.toList = l ++ rest ∧ AV.relV w.drew p s.ver ds l ∧ ∀ u ∈ l,u.oneCell' = true:=by
       have:=hd.rw j
       rw [e6] at this
       simpa only [rowRel] using this
      rw [hβj] at hβ3; injection hβ3 with hβ3; subst hβ3
      have hh3' : w.heap[bj]? = some (.cells cells3 ee (0,0)):=hh3
      rw [hhj] at hh3'; injection hh3' with hh3'; injection hh3' with hh3'; subst hh3'
      have e7 : l3 = vs:=by
       have e8:=AV.relV_length hV3
       rw [hlj] at hl3
       have : vs.length = l3.length:=by rw [hlv,← hm2]; exact e8.symm
       exact (List.append_inj hl3 this).1.symm
      subst e7
      exact hV3
     have hn:=hd.newRow (o.dst.getD 0) hd0 (.ara ee sz2' ds) rfl (grownCap w m2 0 ee) hcap
      (.cells (vs.toArray ++ Builtin.zeroCells z.cells (grownCap w m2 0 ee - m2)) ee) (fun p' ver' _ hβ hγ hk=>by
      simp only [rowRel];rw [hγ]
      refine ⟨_,_,hβ,heap_alloc_new w.drew _,?_,vs,(Builtin.zeroCells z.cells (grownCap w m2 0 ee - m2)).toList,?_,AV.relV_mono hk _ _ hVjd,h1j⟩
      · rw [Array.size_append,size_zero,hzc,List.size_toArray,hlv,← Nat.add_mul]
        congr 1; omega
      · simp only [Array.toList_append])
     refine ⟨_,_,_,_,go (by rw [hv,hvj]; exact hrun),.inl rfl,trivial,by rw [rows_one]; exact hn,?_⟩
     rw [rows_one]
     simp only [AV.rel,vers,upd_same];exact ⟨Nat.le_refl _,fun _=>.inr ⟨_,_,rfl,by simp; rfl,by simpa using hge,fun _=>by simp⟩⟩
   · exact hp.elim
 · exact hp.elim
variable {Q : Exit → AS → Prop} {ops : Array Oper}
end
end Go.Oc

namespace Go.Oc
open Go Go.RowKit
set_option linter.unusedVariables false
set_option linter.unusedSimpArgs false
def xlit (P : Program) (o : Oper) (K : AS → Prop) (s : AS) : Prop :=
 match o.op,o.dst with
 | .buildSlice t n ps,some d=>aR s (some d) (sLitBox P s d t n (ps.toList.map fun (i,x)=>(i,s.ev x))) K
 | _,_=>False
def xappB (P : Program) (o : Oper) (K : AS → Prop) (s : AS) : Prop :=
 match o.op,o.dst with
 | .call ⟨.builtin .append,⟨[x,y]⟩,⟨[t,t']⟩⟩,some d=>aR s (some d) (sAppB P s d t t' (s.ev x) (s.ev y)) K
 | _,_=>False
def xopL (P : Program) (o : Oper) (K : AS → Prop) (s : AS) : Prop:=xop P false o K s ∨ xlit P o K s ∨ xappB P o K s
section
variable {P : Program} {C : Ctx} {s : AS}
theorem xopL_sound {p : Plan} {a : Act} {w : World} {o : Oper} {KA : AS → Prop} (hp : SR C p s a w) (h : xopL P o KA s) (hd0 : ∀ t,o.dst = some t → t < s.n) {K : Act → World → Prop} {Q : Exit → Act → World → Prop}
 (hK : ∀ a' w' p' s',SR C p' s' a' w' → s'.n = s.n → KA s' → K a' w') (hnd : ∀ c,o.op ≠ .defer c) : o.wpIn (fnc C.rd) 0 P a w K Q:=by
 rcases h with h | h | h
 · exact xop_sound hp h hd0 hK hnd
 · unfold xlit at h
   split at h
   · rename_i t n ps d ho hd
     refine wpIn_of_wp hnd ?_
     have hg:=good_litBox (P:=P) (o:=o) hp ho (by rw [hd]; exact h.1)
     rw [hd] at hg
     obtain ⟨nx,v,w',p',hrun,hnx,hass,hSR,hrel⟩:=hg
     unfold Oper.wp
     rw [hrun]
     have hput:=hSR.put' (d:=some d) hrel (fun t ht=>by injection ht with ht; subst ht; exact hd0 _ hd)
     rcases hnx with rfl | ⟨rfl,rfl⟩
     · show K (a.put o.dst v) w'
       rw [hd]
       exact hK _ _ p' _ hput (app_n _ _ _) (h.2 hass)
     · show K (a.put o.dst undef) w'
       rw [hd]
       exact hK _ _ p' _ hput (app_n _ _ _) (h.2 hass)
   · exact h.elim
 · unfold xappB at h
   split at h
   · rename_i x y t t' d ho hd
     refine wpIn_of_wp hnd ?_
     have hg:=good_appB (P:=P) (o:=o) hp ho (by rw [hd]; exact h.1)
     rw [hd] at hg
     obtain ⟨nx,v,w',p',hrun,hnx,hass,hSR,hrel⟩:=hg
     unfold Oper.wp
     rw [hrun]
     have hput:=hSR.put' (d:=some d) hrel (fun t ht=>by injection ht with ht; subst ht; exact hd0 _ hd)
     rcases hnx with rfl | ⟨rfl,rfl⟩
     · show K (a.put o.dst v) w'
       rw [hd]
       exact hK _ _ p' _ hput (app_n _ _ _) (h.2 hass)
     · show K (a.put o.dst undef) w'
       rw [hd]
       exact hK _ _ p' _ hput (app_n _ _ _) (h.2 hass)
   · exact h.elim
end
def stepAllL (P : Program) (ops : Array Oper) (n : Nat) (F : (Nat → Bool) → (Nat → Nat) → List (Nat × AV)) (R : (Nat → Bool) → (Nat → Nat) → List (Nat × RowC)) : Nat → List Oper → Prop
 | _,[]=>True
 | k,o :: rest=>(∀ b vs,(∀ j e,j < ops.size → (deps ops j).contains e = true → b j = true → b e = true) → b k = false → (∀ e ∈ deps ops k,b e = true) →
  xopL P o (FitV n (F (upd b k true)) (R (upd b k true))) (st n (F b vs) vs (R b vs))) ∧ stepAllL P ops n F R (k + 1) rest
section
variable {P : Program} {C : Ctx} {s : AS} {a : Act} {w : World} {ops : Array Oper}
end
end Go.Oc
