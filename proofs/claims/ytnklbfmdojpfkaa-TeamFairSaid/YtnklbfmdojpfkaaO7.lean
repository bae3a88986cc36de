/- A variable of one's own that holds plain data becomes plain data itself: its row is given up. -/
import Derived.Test.YtnklbfmdojpfkaaO6
namespace Go.Oc
open Go Go.RowKit
set_option linter.unusedVariables false
theorem relC_plain {w : World} {p : Plan} {ver : Nat → Nat} {R' : Nat → Prop} (hR : ∀ b, p.R b → R' b) {b : Nat} {cells : Array Value} {ty : TypeId} (hh : w.heap[b]? = some (.cells cells ty (0, 0))) (h1 : ∀ u ∈ cells.toList, u.oneCell' = true) :
    ∀ (cs : List RV) (us : List Value) (j : Nat), (∀ i u, us[i]? = some u → cells[j + i]? = some u) → AV.relV w p ver (cs.map .r) us → RV.relC w R' cs ⟨b, 0, none⟩ j
  | [], _, _, _, _ => by simp [RV.relC]
  | c :: cs, us, j, hget, hV => by
    simp only [List.map_cons, AV.relV] at hV
    obtain ⟨u, us, rfl, hu, hV⟩ := hV
    simp only [RV.relC]
    have hc0 : cells[j]? = some u := by simpa using hget 0 u (by simp)
    refine ⟨⟨u, ?_, h1 u (by simpa using List.mem_of_getElem? (by simpa using hc0 : cells.toList[j]? = some u)), ?_⟩, ?_⟩
    · rw [add_at, Nat.zero_add, cell_of_row w b j cells ty (0, 0) hh]; exact hc0
    · simp only [AV.rel] at hu
      exact RV.rel_mono hR (fun _ _ => rfl) _ _ hu
    · exact relC_plain hR hh h1 cs us (j + 1) (fun i u hi => by
        have := hget (i + 1) u (by simpa using hi)
        rwa [show j + 1 + i = j + (i + 1) by omega]) hV
theorem sub_freezeP (s : AS) (t k : Nat) {rs : List RV} (hk0 : k < 1000) (ht : s.tm t = .pt k (s.ver k) 0) (hc : (s.rows k).c = .box (rs.map .r)) :
    Sub s { s with tm := upd s.tm t (.r (.rp rs)), rows := upd s.rows k ⟨(s.rows k).ver + 1, .dead⟩ } := fun C a w ⟨p, hp⟩ => by
  have h1 := hp.reRow (w' := w) k hk0 .dead rfl none 1 (by simp [maxLen]) rfl rfl rfl (Nat.le_refl _) (fun _ _ _ => rfl) (fun _ h => by cases h) (fun p' ver' _ hβ hγ _ => by simp only [rowRel]; exact ⟨hβ, hγ⟩)
  have hval := hp.tm t
  rw [ht] at hval
  have hr := hp.rw k
  rw [hc] at hr
  simp only [rowRel] at hr
  obtain ⟨b, cs, ty, g1, g2, g3, g4⟩ := hr
  simp only [AV.rel] at hval
  obtain ⟨b', e1, e2⟩ := hval.2 trivial
  rw [g1] at e1
  injection e1 with e1
  subst e1
  obtain ⟨q1, _, q2⟩ := hp.bl k b g1
  have h2 := h1.publish (b := b) q1 (q2.resolve_right (fun h => by omega)) (fun j hj => by
    have hj' : upd p.β k none j = some b := hj
    by_cases e : j = k
    · subst e; rw [upd_same] at hj'; cases hj'
    · rw [upd_other _ _ e] at hj'; exact e (hp.ij j k b hj' g1))
  refine ⟨_, { h2 with tm := fun j => ?_ }⟩
  show AV.rel w _ _ (upd s.tm t _ j) _
  by_cases hj : j = t
  · subst hj
    rw [upd_same]
    simp only [AV.rel, RV.rel]
    refine ⟨_, e2, .inr rfl, ?_⟩
    exact relC_plain (fun _ h => .inl h) g2 g4 _ _ _ (fun i u h => by simpa using h) g3
  · rw [upd_other _ _ hj]
    exact h2.tm j
section
variable {n : Nat} {l : List (Nat × AV)} {vs : Nat → Nat} {cs : List (Nat × RowC)}
theorem sub_frzP (t k : Nat) (rs : List RV) (hk0 : k < 1000) (ht : look l t = .pt k (vs k) 0) (hc : lookc cs k = .box (rs.map .r)) :
    Sub (st n l vs cs) (st n ((t, .r (.rp rs)) :: l) (upd vs k (vs k + 1)) (delc cs k)) := by
  have := sub_freezeP (st n l vs cs) t k hk0 ht hc
  have e : ({ st n l vs cs with tm := upd (st n l vs cs).tm t (.r (.rp rs)), rows := upd (st n l vs cs).rows k ⟨((st n l vs cs).rows k).ver + 1, .dead⟩ } : AS) = st n ((t, .r (.rp rs)) :: l) (upd vs k (vs k + 1)) (delc cs k) := by
    simp only [st, AS.mk.injEq, true_and]
    constructor
    · funext j
      show upd (look l) t (.r (.rp rs)) j = look ((t, .r (.rp rs)) :: l) j
      rfl
    · funext j
      rw [lookc_delc]
      unfold upd
      split <;> rfl
  rwa [e] at this
end
end Go.Oc
