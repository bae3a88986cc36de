/- A slice of one's own becomes plain data: its row is given up. -/
import Derived.Test.YtnklbfmdojpfkaaOt
namespace Go.Oc
open Go Go.RowKit

section
variable {C : Ctx} {p : Plan} {s : AS} {a : Act} {w : World}
/-- A block that no row lies in, made since, is plain data from now on. -/
theorem SR.publish (h : SR C p s a w) {b : Nat} (hb : b < w.heap.size) (hnew : C.w0.heap.size ≤ b) (hno : ∀ k, p.β k ≠ some b) : SR C { p with R := fun x => p.R x ∨ x = b } s a w := by
  have hk : Kept w w p { p with R := fun x => p.R x ∨ x = b } s.ver s.ver := ⟨fun _ h => .inl h, fun _ _ => rfl, fun _ => Nat.le_refl _, fun _ _ => ⟨rfl, rfl⟩⟩
  exact {
    base := h.base
    r0 := fun b hr => .inl (h.r0 b hr)
    rn := fun x hr => hr.elim (h.rn x) (fun e => .inr (e ▸ hnew))
    rb := fun x hr => hr.elim (h.rb x) (fun e => e ▸ hb)
    tm := fun t => AV.rel_mono hk _ _ (h.tm t)
    sz := h.sz
    df := h.df
    rw := fun k => rowRel_mono hk rfl rfl (fun _ _ => rfl) _ (fun _ _ _ _ _ _ _ _ => rfl) (h.rw k)
    bl := fun k x hx => ⟨(h.bl k x hx).1, fun hr => hr.elim (h.bl k x hx).2.1 (fun e => hno k (e ▸ hx)), (h.bl k x hx).2.2⟩
    ij := h.ij
    cap := h.cap
    pn := h.pn
    lk := h.lk }
end
theorem sub_freeze (s : AS) (t k v sz off m : Nat) (hk0 : k < 1000) (ht : s.tm t = .os k v sz off m) (hv : v = s.ver k) (hc : match (s.rows k).c with | .arr _ sz' es => sz = sz' ∧ off + m ≤ es.length | _ => False) :
    Sub s { s with tm := upd s.tm t (.r (match (s.rows k).c with | .arr _ _ es => RV.sl sz ((es.drop off).take m) | _ => .un)), rows := upd s.rows k ⟨(s.rows k).ver + 1, .dead⟩ } := fun C a w ⟨p, hp⟩ => by
  have h1 := hp.reRow (w' := w) k hk0 .dead rfl none 1 (by simp [maxLen]) rfl rfl rfl (Nat.le_refl _) (fun _ _ _ => rfl) (fun _ h => by cases h) (fun p' ver' _ hβ hγ _ => by simp only [rowRel]; exact ⟨hβ, hγ⟩)
  have hval := hp.tm t
  rw [ht] at hval
  have put : ∀ {p2 : Plan}, SR C p2 { s with rows := upd s.rows k ⟨(s.rows k).ver + 1, .dead⟩ } a w → (∀ b, p.R b → p2.R b) → (∀ b, p.β k = some b → p2.R b) →
      SRel C { s with tm := upd s.tm t (.r (match (s.rows k).c with | .arr _ _ es => RV.sl sz ((es.drop off).take m) | _ => .un)), rows := upd s.rows k ⟨(s.rows k).ver + 1, .dead⟩ } a w := fun {p2} h2 hR hR2 => by
    refine ⟨p2, { h2 with tm := fun j => ?_ }⟩
    show AV.rel w _ _ (upd s.tm t _ j) _
    by_cases hj : j = t
    · subst hj
      rw [upd_same]
      simp only [AV.rel]
      exact snap_os hp hv hc hval hR hR2
    · rw [upd_other _ _ hj]
      exact h2.tm j
  cases hβ : p.β k with
  | none => exact put h1 (fun _ h => h) (fun b hb => by rw [hβ] at hb; cases hb)
  | some b =>
    obtain ⟨g1, _, g2⟩ := hp.bl k b hβ
    have h2 := h1.publish (b := b) g1 (g2.resolve_right (fun h => by omega)) (fun j hj => by
      have hj' : upd p.β k none j = some b := hj
      by_cases e : j = k
      · subst e; rw [upd_same] at hj'; cases hj'
      · rw [upd_other _ _ e] at hj'; exact e (hp.ij j k b hj' hβ))
    exact put h2 (fun _ h => .inl h) (fun b' hb' => by rw [hβ] at hb'; injection hb' with e; exact .inr e.symm)
section
variable {n : Nat} {l : List (Nat × AV)} {vs : Nat → Nat} {cs : List (Nat × RowC)}
theorem sub_frz (t k : Nat) {sz off m ty : Nat} {es : List (List RV)} (hk0 : k < 1000) (ht : look l t = .os k (vs k) sz off m) (hc : lookc cs k = .arr ty sz es) (hle : off + m ≤ es.length) :
    Sub (st n l vs cs) (st n ((t, .r (.sl sz ((es.drop off).take m))) :: l) (upd vs k (vs k + 1)) (delc cs k)) := by
  have := sub_freeze (st n l vs cs) t k (vs k) sz off m hk0 ht rfl (by show match lookc cs k with | .arr _ sz' es => sz = sz' ∧ off + m ≤ es.length | _ => False; rw [hc]; exact ⟨rfl, hle⟩)
  have e : ({ st n l vs cs with tm := upd (st n l vs cs).tm t (.r (match ((st n l vs cs).rows k).c with | .arr _ _ es => RV.sl sz ((es.drop off).take m) | _ => .un)), rows := upd (st n l vs cs).rows k ⟨((st n l vs cs).rows k).ver + 1, .dead⟩ } : AS)
      = st n ((t, .r (.sl sz ((es.drop off).take m))) :: l) (upd vs k (vs k + 1)) (delc cs k) := by
    simp only [st, AS.mk.injEq, true_and]
    constructor
    · funext j
      show upd (look l) t (.r (match lookc cs k with | .arr _ _ es => RV.sl sz ((es.drop off).take m) | _ => .un)) j = look ((t, .r (.sl sz ((es.drop off).take m))) :: l) j
      rw [hc]; rfl
    · funext j
      rw [lookc_delc]
      unfold upd
      split <;> rfl
  rwa [e] at this
theorem fit_sub {F : (Nat → Nat) → List (Nat × AV)} {R : List (Nat × RowC)} {s s' : AS} (h : Sub s s') (hf : Fit n F R s') : Fit n F R s := by
  obtain ⟨vs, hf⟩ := hf
  exact ⟨vs, h.trans hf⟩
/-- The nil slice is a slice without elements. -/
theorem sub_ns (t sz : Nat) (h : look l t = .r .ns) : Sub (st n l vs cs) (st n ((t, .r (.sl sz [])) :: l) vs cs) := fun C a w ⟨p, hp⟩ => by
  refine ⟨p, { hp with tm := fun j => ?_ }⟩
  show AV.rel w _ _ (look ((t, .r (.sl sz [])) :: l) j) _
  rw [look_cons]
  split
  · rename_i e
    subst e
    have := hp.tm j
    rw [show (st n l vs cs).tm j = .r .ns from h] at this
    simp only [AV.rel] at this ⊢
    exact le_sl (.inr ⟨rfl, rfl⟩) this
  · exact hp.tm j
/-- The same where the rows tell of versions. -/
def FitV (n : Nat) (F : (Nat → Nat) → List (Nat × AV)) (R : (Nat → Nat) → List (Nat × RowC)) (s : AS) : Prop := ∃ vs, Sub s (st n (F vs) vs (R vs))
theorem fitV_of (ks : List Nat) {F : (Nat → Nat) → List (Nat × AV)} {R : (Nat → Nat) → List (Nat × RowC)} (h1 : allEq l (F (killV vs ks))) (h2 : killC cs ks = R (killV vs ks)) (h3 : small ks = true := by rfl) : FitV n F R (st n l vs cs) := by
  refine ⟨killV vs ks, (sub_kills ks vs cs h3).trans ?_⟩
  rw [← h2]
  exact sub_look _ (allEq_mem h1)
theorem awp_whileV {P : Program} {C : Ctx} {c : Code} {Q : Exit → AS → Prop} {s : AS} {α : Type} (F : α → (Nat → Nat) → List (Nat × AV)) (R : α → (Nat → Nat) → List (Nat × RowC)) (I : α → Prop) (m : α → Nat) (x0 : α)
    (h0 : FitV n (F x0) (R x0) s) (hI : I x0)
    (round : ∀ x vs, I x → awp P C c (andThen (fun s' => ∃ y, I y ∧ m y < m x ∧ FitV n (F y) (R y) s') Q) (st n (F x vs) vs (R x vs))) : awp P C (.loop c) Q s := by
  refine awp_loop (fun k s => ∃ x, I x ∧ m x = k ∧ FitV n (F x) (R x) s) (m x0) ⟨x0, hI, rfl, h0⟩ ?_
  rintro k s ⟨x, hx, rfl, vs, hs⟩
  refine awp_sub hs (awp_mono ?_ (round x vs hx))
  intro e s' hq
  cases e with
  | normal =>
    obtain ⟨y, hy, hlt, hf⟩ := hq
    exact ⟨m y, hlt, y, hy, rfl, hf⟩
  | _ => exact hq
end
end Go.Oc
