/- Each operation does what 'step' says. -/
import Derived.Test.YtnklbfmdojpfkaaOc
namespace Go.Oc
open Go Go.RowKit

/-! ### Types -/
section
variable {P : Program} {t : TypeId} {w : World}
theorem tyq_base {T : TI} (h : tyq P t = some T) : okT P t = true ∧ T.sz = P.cellsOf t ∧ T.agg = aggOf P t ∧ ∃ z, zeroOf P t = some z ∧ T.zero = z.map RV.ofV1 := by
  unfold tyq at h
  split at h
  · rename_i hok
    split at h
    · cases h
    · rename_i z hz
      dsimp only at h
      split at h <;> (try split at h) <;> (try split at h) <;> first
        | (injection h with h; subst h; exact ⟨hok, rfl, rfl, z, hz, rfl⟩)
        | cases h
  · cases h
theorem okT_info (h : okT P t = true) : ∃ i, P.info? t = some i := by
  unfold okT at h
  simp only [Bool.and_eq_true, Option.isSome_iff_exists] at h
  exact h.1
theorem okT_und (h : okT P t = true) : ∃ d, P.underlying t = some d := by
  unfold okT at h
  simp only [Bool.and_eq_true, Option.isSome_iff_exists] at h
  exact h.2
theorem cellsOf_info {i : TypeInfo} (h : P.info? t = some i) : P.cellsOf t = i.size := by simp [Program.cellsOf, h]
theorem bytesOf_info {i : TypeInfo} (h : P.info? t = some i) : P.bytesOf t = i.bytes := by simp [Program.bytesOf, h]
theorem run_sizeOf_ok (h : okT P t = true) : (sizeOf t).run P w = .ok (P.cellsOf t) w := by
  obtain ⟨i, hi⟩ := okT_info h
  simp [sizeOf, typeInfo, hi, cellsOf_info hi]
theorem run_isAgg_ok (h : okT P t = true) : (isAgg t).run P w = .ok (aggOf P t) w := by
  obtain ⟨d, hd⟩ := okT_und h
  simp only [isAgg, Sem.run_bind, run_underlying hd, Result.andThen_ok, aggOf, hd]
  cases d <;> rfl
theorem zeroOf_spec {z : List Value} (h : zeroOf P t = some z) : ∃ i v, P.info? t = some i ∧ i.zero = some v ∧ v.cells.toList = z ∧ (∀ u ∈ z, u.oneCell' = true) ∧ z.length = P.cellsOf t := by
  unfold zeroOf at h
  split at h
  · rename_i v hv
    split at h
    · rename_i hc
      injection h with h
      subst h
      cases hi : P.info? t with
      | none => simp [hi] at hv
      | some i =>
        simp only [hi, Option.bind_some] at hv
        simp only [Bool.and_eq_true, List.all_eq_true, beq_iff_eq] at hc
        exact ⟨i, v, rfl, hv, rfl, hc.1, by simpa using hc.2⟩
    · cases h
  · cases h
theorem run_zeroValue_ok {z : List Value} (h : zeroOf P t = some z) : ∃ v, (zeroValue t).run P w = .ok v w ∧ v.cells.toList = z := by
  obtain ⟨i, v, hi, hz, hv, _⟩ := zeroOf_spec h
  exact ⟨v, by simp [zeroValue, typeInfo, hi, hz], hv⟩

theorem tyq_int {k : IntKind} {sz : Nat} {agg : Bool} {z : List RV} (h : tyq P t = some ⟨.int k, sz, agg, z⟩) : P.underlying t = some (.int k) := by
  unfold tyq at h
  split at h
  · split at h
    · cases h
    · dsimp only at h
      split at h <;> (try split at h) <;> (try split at h) <;> first
        | (injection h with h; injection h with h1 h2; first | (injection h1 with h1; subst h1; assumption) | cases h1)
        | cases h
  · cases h
theorem tyq_bool {sz : Nat} {agg : Bool} {z : List RV} (h : tyq P t = some ⟨.bool, sz, agg, z⟩) : P.underlying t = some .bool := by
  unfold tyq at h
  split at h
  · split at h
    · cases h
    · dsimp only at h
      split at h <;> (try split at h) <;> (try split at h) <;> first
        | (cases h; done)
        | (cases h; assumption)
  · cases h
theorem tyq_slice {e esz eb : Nat} {ez : List RV} {sz : Nat} {agg : Bool} {z : List RV} (h : tyq P t = some ⟨.slice e esz eb ez, sz, agg, z⟩) :
    P.underlying t = some (.slice e) ∧ okT P e = true ∧ P.cellsOf e = esz ∧ P.bytesOf e = eb ∧ ∃ zv, zeroOf P e = some zv ∧ ez = zv.map RV.ofV1 := by
  unfold tyq at h
  split at h
  · split at h
    · cases h
    · dsimp only at h
      split at h <;> (try split at h) <;> (try split at h) <;> first
        | (injection h with h; injection h with h1 h2; first | (injection h1 with h1 h3 h4 h5; subst h1; subst h3; subst h4; subst h5; exact ⟨by assumption, by assumption, rfl, rfl, _, by assumption, rfl⟩) | cases h1)
        | cases h
  · cases h
theorem tyq_arr {n esz : Nat} {eagg : Bool} {sz : Nat} {agg : Bool} {z : List RV} (h : tyq P t = some ⟨.arr n esz eagg, sz, agg, z⟩) :
    ∃ e, P.underlying t = some (.array n e) ∧ okT P e = true ∧ P.cellsOf e = esz ∧ aggOf P e = eagg := by
  unfold tyq at h
  split at h
  · split at h
    · cases h
    · dsimp only at h
      split at h <;> (try split at h) <;> (try split at h) <;> first
        | (injection h with h; injection h with h1 h2; first | (injection h1 with h1 h3 h4; subst h1; subst h3; subst h4; exact ⟨_, by assumption, by assumption, rfl, rfl⟩) | cases h1)
        | cases h
  · cases h
theorem tyq_map {k e : Nat} {sz : Nat} {agg : Bool} {z : List RV} (h : tyq P t = some ⟨.map k e, sz, agg, z⟩) : P.underlying t = some (.map k e) := by
  unfold tyq at h
  split at h
  · split at h
    · cases h
    · dsimp only at h
      split at h <;> (try split at h) <;> (try split at h) <;> first
        | (injection h with h; injection h with h1 h2; first | (injection h1 with h1 h3; subst h1; subst h3; assumption) | cases h1)
        | cases h
  · cases h
theorem mapT_spec {k e : Nat} {kn : Option Nat} (h : mapT P t = some (k, e, kn)) : P.underlying t = some (.map k e) ∧ keyN P k = some kn := by
  unfold mapT at h
  split at h
  · rename_i k' e' hu
    split at h
    · rename_i kn' hi
      injection h with h; injection h with h1 h2; injection h2 with h2 h3; subst h1; subst h2; subst h3
      exact ⟨hu, hi⟩
    · cases h
  · cases h
theorem keyN_none {k : TypeId} (h : keyN P k = some none) : ∃ kk, P.underlying k = some (.int kk) := by
  unfold keyN at h
  split at h
  · rename_i hi
    unfold isIntT at hi
    split at hi
    · rename_i kk e; exact ⟨kk, e⟩
    · cases hi
  · split at h <;> simp at h
theorem keyN_some {k : TypeId} {n : Nat} (h : keyN P k = some (some n)) : eqT P k = some n := by
  unfold keyN at h
  split at h
  · simp at h
  · split at h
    · rename_i m e; simp at h; subst h; exact e
    · cases h
theorem relM_length {R : Nat → Prop} : ∀ {m : List (RV × RV)} {l : List MapEntry}, RV.relM w R m l → l.length = m.length
  | [], _, h => by simp only [RV.relM] at h; subst h; rfl
  | x :: xs, _, h => by
    simp only [RV.relM] at h
    obtain ⟨e, es', rfl, _, _, h⟩ := h
    simp [relM_length h]
theorem mapOf_row {C : Ctx} {p : Plan} {s : AS} {a : Act} (h : SR C p s a w) {k : Nat} {m : List (RV × RV)} (e : mapOf (s.rows k).c = some m) : ∃ b, p.β k = some b ∧ mapRel w p.R b m := by
  have hr := h.rw k
  unfold mapOf at e
  split at e
  · rename_i m' e2; injection e with e; subst e; rw [e2] at hr; simpa only [rowRel] using hr
  · rename_i m' e2; injection e with e; subst e; rw [e2] at hr; simpa only [rowRel] using hr
  · cases e
theorem all_fields {fs : Array Field} (h : (fs.toList.all fun f => okT P f.type && P.cellsOf f.type != 0) = true) : ∀ f ∈ fs.toList, okT P f.type = true ∧ P.cellsOf f.type ≠ 0 := fun f hf => by
  have := List.all_eq_true.1 h f hf
  simpa using this
theorem tyq_struct {fs : List (Nat × Nat × Bool)} {sz : Nat} {agg : Bool} {z : List RV} (h : tyq P t = some ⟨.struct fs, sz, agg, z⟩) :
    ∃ fields : Array Field, P.underlying t = some (.struct fields) ∧ fs = fields.toList.map (fun f => (f.offset, P.cellsOf f.type, aggOf P f.type)) ∧
      ∀ f ∈ fields.toList, okT P f.type = true ∧ P.cellsOf f.type ≠ 0 := by
  unfold tyq at h
  split at h
  · split at h
    · cases h
    · dsimp only at h
      split at h <;> (try split at h) <;> (try split at h) <;> first
        | (injection h with h; injection h with h1 h2; first | (injection h1 with h1; subst h1; exact ⟨_, by assumption, rfl, fun f hf => all_fields (by assumption) f hf⟩) | cases h1)
        | cases h
  · cases h
end
end Go.Oc
