/- A slice of one's own in a variable's cell becomes plain data; the nil slice there a slice without elements. -/
import Derived.Test.YtnklbfmdojpfkaaO4
namespace Go.Oc
open Go Go.RowKit
set_option linter.unusedVariables false
theorem relV_set {w : World} {p : Plan} {ver : Nat → Nat} {y : AV} : ∀ {xs : List AV} {vs : List Value} {i : Nat}, AV.relV w p ver xs vs → (∀ u, vs[i]? = some u → y.rel w p ver u) → AV.relV w p ver (xs.set i y) vs
  | [], vs, i, h, _ => by simpa using h
  | x :: xs, vs, 0, h, hy => by
    simp only [AV.relV] at h
    obtain ⟨u, us, rfl, h1, h2⟩ := h
    simp only [List.set_cons_zero, AV.relV]
    exact ⟨u, us, rfl, hy u rfl, h2⟩
  | x :: xs, vs, i + 1, h, hy => by
    simp only [AV.relV] at h
    obtain ⟨u, us, rfl, h1, h2⟩ := h
    simp only [List.set_cons_succ, AV.relV]
    exact ⟨u, us, rfl, h1, relV_set h2 fun v hv => hy v (by simpa using hv)⟩
theorem SR.cell {C : Ctx} {p : Plan} {a : Act} {w : World} {s : AS} (hp : SR C p s a w) (kb i : Nat) {cells : List AV} {x y : AV} (hbox : (s.rows kb).c = .box cells) (hi : cells[i]? = some x)
    (hy : ∀ {u : Value}, x.rel w p s.ver u → y.rel w p s.ver u) : SR C p { s with rows := upd s.rows kb ⟨(s.rows kb).ver, .box (cells.set i y)⟩ } a w := by
  have hr := hp.rw kb
  rw [hbox] at hr
  simp only [rowRel] at hr
  obtain ⟨b, cs, t, h1, h2, h3, h4⟩ := hr
  refine hp.setRow (w' := w) kb _ (by rw [hbox]; rfl) (fun _ _ _ _ h => by cases h) h1 rfl rfl rfl rfl (fun _ _ => rfl) fun _ => ?_
  simp only [rowRel]
  refine ⟨b, cs, t, h1, h2, relV_set h3 (fun u hu => ?_), h4⟩
  obtain ⟨u', hu', hx⟩ := AV.relV_get h3 hi
  rw [hu] at hu'
  injection hu' with e
  subst e
  exact hy hx
theorem sub_cell (s : AS) (kb i : Nat) {cells : List AV} {x y : AV} (hbox : (s.rows kb).c = .box cells) (hi : cells[i]? = some x)
    (hy : ∀ {C : Ctx} {p : Plan} {a : Act} {w : World} {u : Value}, SR C p s a w → x.rel w p s.ver u → y.rel w p s.ver u) :
    Sub s { s with rows := upd s.rows kb ⟨(s.rows kb).ver, .box (cells.set i y)⟩ } := fun C a w ⟨p, hp⟩ => ⟨p, hp.cell kb i hbox hi (hy hp)⟩
theorem sub_freezeB (s : AS) (kb i k v sz off m : Nat) {cells : List AV} (hk0 : k < 1000) (hne : kb ≠ k) (hbox : (s.rows kb).c = .box cells) (hi : cells[i]? = some (.os k v sz off m)) (hv : v = s.ver k)
    (hc : match (s.rows k).c with | .arr _ sz' es => sz = sz' ∧ off + m ≤ es.length | _ => False) :
    Sub s { s with rows := upd (upd s.rows k ⟨(s.rows k).ver + 1, .dead⟩) kb ⟨(s.rows kb).ver, .box (cells.set i (.r (match (s.rows k).c with | .arr _ _ es => RV.sl sz ((es.drop off).take m) | _ => .un)))⟩ } := fun C a w ⟨p, hp⟩ => by
  have h1 := hp.reRow (w' := w) k hk0 .dead rfl none 1 (by simp [maxLen]) rfl rfl rfl (Nat.le_refl _) (fun _ _ _ => rfl) (fun _ h => by cases h) (fun p' ver' _ hβ hγ _ => by simp only [rowRel]; exact ⟨hβ, hγ⟩)
  have hr := hp.rw kb
  rw [hbox] at hr
  simp only [rowRel] at hr
  obtain ⟨b, cs, t, g1, g2, g3, g4⟩ := hr
  obtain ⟨u, hu, hval⟩ := AV.relV_get g3 hi
  have put : ∀ {p2 : Plan}, SR C p2 { s with rows := upd s.rows k ⟨(s.rows k).ver + 1, .dead⟩ } a w → p2.β kb = p.β kb → (∀ b, p.R b → p2.R b) → (∀ b, p.β k = some b → p2.R b) →
      SRel C { s with rows := upd (upd s.rows k ⟨(s.rows k).ver + 1, .dead⟩) kb ⟨(s.rows kb).ver, .box (cells.set i (.r (match (s.rows k).c with | .arr _ _ es => RV.sl sz ((es.drop off).take m) | _ => .un)))⟩ } a w := fun {p2} h2 hβ2 hR hR2 => by
    have hr2 := h2.rw kb
    rw [show (upd s.rows k ⟨(s.rows k).ver + 1, .dead⟩ kb).c = .box cells by rw [upd_other _ _ hne]; exact hbox] at hr2
    simp only [rowRel] at hr2
    obtain ⟨b', cs', t', f1, f2, f3, f4⟩ := hr2
    have eb : b' = b := by rw [hβ2, g1] at f1; injection f1 with e; exact e.symm
    subst eb
    rw [g2] at f2
    injection f2 with e
    injection e with e1 e2 e3
    subst e1
    have := h2.setRow (w' := w) kb (.box (cells.set i (.r (match (s.rows k).c with | .arr _ _ es => RV.sl sz ((es.drop off).take m) | _ => .un))))
      (by rw [show (upd s.rows k ⟨(s.rows k).ver + 1, .dead⟩ kb).c = .box cells by rw [upd_other _ _ hne]; exact hbox]; rfl) (fun _ _ _ _ h => by cases h) f1 rfl rfl rfl rfl (fun _ _ => rfl) (fun _ => by
        simp only [rowRel]
        refine ⟨b', cs, t', f1, by rw [g2, e2], relV_set f3 (fun u' hu' => ?_), f4⟩
        rw [hu] at hu'
        injection hu' with e
        subst e
        simp only [AV.rel]
        exact snap_os hp hv hc hval hR hR2)
    rw [show (upd s.rows k ⟨(s.rows k).ver + 1, .dead⟩ kb).ver = (s.rows kb).ver by rw [upd_other _ _ hne]] at this
    exact ⟨p2, this⟩
  cases hβ : p.β k with
  | none => exact put h1 (upd_other _ _ hne) (fun _ h => h) (fun b hb => by rw [hβ] at hb; cases hb)
  | some b =>
    obtain ⟨g1, _, g2⟩ := hp.bl k b hβ
    have h2 := h1.publish (b := b) g1 (g2.resolve_right (fun h => by omega)) (fun j hj => by
      have hj' : upd p.β k none j = some b := hj
      by_cases e : j = k
      · subst e; rw [upd_same] at hj'; cases hj'
      · rw [upd_other _ _ e] at hj'; exact e (hp.ij j k b hj' hβ))
    exact put h2 (upd_other _ _ hne) (fun _ h => .inl h) (fun b' hb' => by rw [hβ] at hb'; injection hb' with e; exact .inr e.symm)
section
variable {n : Nat} {l : List (Nat × AV)} {vs : Nat → Nat} {cs : List (Nat × RowC)}
theorem sub_frzB (kb i k : Nat) {cells : List AV} {sz off m ty : Nat} {es : List (List RV)} (hk0 : k < 1000) (hne : kb ≠ k) (hb : lookc cs kb = .box cells) (hi : cells[i]? = some (.os k (vs k) sz off m)) (hc : lookc cs k = .arr ty sz es) (hle : off + m ≤ es.length) :
    Sub (st n l vs cs) (st n l (upd vs k (vs k + 1)) (insc (delc cs k) kb (.box (cells.set i (.r (.sl sz ((es.drop off).take m))))))) := by
  have := sub_freezeB (st n l vs cs) kb i k (vs k) sz off m hk0 hne hb hi rfl (by show match lookc cs k with | .arr _ sz' es => sz = sz' ∧ off + m ≤ es.length | _ => False; rw [hc]; exact ⟨rfl, hle⟩)
  have e : ({ st n l vs cs with rows := upd (upd (st n l vs cs).rows k ⟨((st n l vs cs).rows k).ver + 1, .dead⟩) kb ⟨((st n l vs cs).rows kb).ver, .box (cells.set i (.r (match ((st n l vs cs).rows k).c with | .arr _ _ es => RV.sl sz ((es.drop off).take m) | _ => .un)))⟩ } : AS)
      = st n l (upd vs k (vs k + 1)) (insc (delc cs k) kb (.box (cells.set i (.r (.sl sz ((es.drop off).take m)))))) := by
    simp only [st, AS.mk.injEq, true_and]
    funext j
    rw [lookc_insc, lookc_delc, hc]
    unfold upd
    split
    · rename_i e; subst e; rw [if_neg hne]
    · split <;> rfl
  rwa [e] at this
theorem sub_nsB (kb i sz : Nat) {cells : List AV} (hb : lookc cs kb = .box cells) (hi : cells[i]? = some (.r .ns)) :
    Sub (st n l vs cs) (st n l vs (insc cs kb (.box (cells.set i (.r (.sl sz [])))))) := by
  have := sub_cell (y := .r (.sl sz [])) (st n l vs cs) kb i hb hi (fun _ h => by
    simp only [AV.rel] at h ⊢
    exact le_sl (.inr ⟨rfl, rfl⟩) h)
  have e : ({ st n l vs cs with rows := upd (st n l vs cs).rows kb ⟨((st n l vs cs).rows kb).ver, .box (cells.set i (.r (.sl sz [])))⟩ } : AS) = st n l vs (insc cs kb (.box (cells.set i (.r (.sl sz []))))) := by
    simp only [st, AS.mk.injEq, true_and]
    funext j
    rw [lookc_insc]
    unfold upd
    split
    · rename_i e; subst e; rfl
    · rfl
  rwa [e] at this
/-! ### Loops of functions that are lent rows: their versions stay 0 -/
def Lent (vs : Nat → Nat) : Prop := ∀ k, 1000 ≤ k → vs k = 0
theorem lent_zero : Lent (fun _ => 0) := fun _ _ => rfl
theorem lent_upd {vs : Nat → Nat} {k m : Nat} (hk : k < 1000) (h : Lent vs) : Lent (upd vs k m) := fun j hj => by
  rw [upd_other _ _ (by omega)]; exact h j hj
theorem lent_kill : ∀ {ks : List Nat} {vs : Nat → Nat}, small ks = true → Lent vs → Lent (killV vs ks)
  | [], _, _, h => h
  | k :: ks, vs, hs, h => by
    simp only [small, Bool.and_eq_true, decide_eq_true_eq] at hs
    show Lent (killV (upd vs k (vs k + 1)) ks)
    exact lent_kill hs.2 (lent_upd hs.1 h)
def Fit0 (n : Nat) (F : (Nat → Nat) → List (Nat × AV)) (R : List (Nat × RowC)) (s : AS) : Prop := ∃ vs, Lent vs ∧ Sub s (st n (F vs) vs R)
theorem fit0_of (ks : List Nat) (h0 : Lent vs) {F : (Nat → Nat) → List (Nat × AV)} {R : List (Nat × RowC)} (h1 : allEq l (F (killV vs ks))) (h2 : killC cs ks = R) (h3 : small ks = true := by rfl) : Fit0 n F R (st n l vs cs) := by
  refine ⟨killV vs ks, lent_kill h3 h0, (sub_kills ks vs cs h3).trans ?_⟩
  subst h2
  exact sub_look _ (allEq_mem h1)
theorem fit0_sub {F : (Nat → Nat) → List (Nat × AV)} {R : List (Nat × RowC)} {s s' : AS} (h : Sub s s') (hf : Fit0 n F R s') : Fit0 n F R s := by
  obtain ⟨vs, h0, hf⟩ := hf
  exact ⟨vs, h0, h.trans hf⟩
theorem awp_upto0 {P : Program} {C : Ctx} {c : Code} {Q : Exit → AS → Prop} {s : AS} (N : Nat) (F : Nat → (Nat → Nat) → List (Nat × AV)) (R : Nat → List (Nat × RowC)) (I : Nat → Prop) (i0 : Nat)
    (h0 : Fit0 n (F i0) (R i0) s) (hi : i0 ≤ N) (hI : I i0)
    (round : ∀ i vs, Lent vs → i ≤ N → I i → awp P C c (andThen (fun s' => i < N ∧ I (i + 1) ∧ Fit0 n (F (i + 1)) (R (i + 1)) s') Q) (st n (F i vs) vs (R i))) : awp P C (.loop c) Q s := by
  refine awp_loop (fun k s => ∃ i, (i ≤ N ∧ I i) ∧ N - i = k ∧ Fit0 n (F i) (R i) s) (N - i0) ⟨i0, ⟨hi, hI⟩, rfl, h0⟩ ?_
  rintro k s ⟨i, ⟨hi, hI⟩, rfl, vs, hv, hs⟩
  refine awp_sub hs (awp_mono ?_ (round i vs hv hi hI))
  intro e s' hq
  cases e with
  | normal =>
    obtain ⟨h1, h2, h3⟩ := hq
    exact ⟨N - (i + 1), by omega, i + 1, ⟨h1, h2⟩, rfl, h3⟩
  | _ => exact hq
end
end Go.Oc
