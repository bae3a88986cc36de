/- Each operation does what 'step' says: slices, variables, stores. -/
import Derived.Test.YtnklbfmdojpfkaaOg
namespace Go.Oc
open Go Go.RowKit

/-! ### Elements in a row -/
theorem flatten_set {α : Type} {sz : Nat} {xs : List α} : ∀ {es : List (List α)} {i : Nat}, (∀ e ∈ es, e.length = sz) → i < es.length →
    (es.set i xs).flatten = es.flatten.take (i * sz) ++ (xs ++ es.flatten.drop (i * sz + sz))
  | [], _, _, h => by simp at h
  | e :: es, 0, hl, _ => by
    have he := hl e (by simp)
    simp [← he]
  | e :: es, i + 1, hl, h => by
    have he := hl e (by simp)
    have ih := flatten_set (xs := xs) (es := es) (i := i) (fun x hx => hl x (by simp [hx])) (by simpa using h)
    have e1 : (i + 1) * sz = e.length + i * sz := by rw [Nat.add_mul, he]; omega
    simp only [List.set_cons_succ, List.flatten_cons, ih]
    rw [e1, List.take_append, show e.length + i * sz + sz = e.length + (i * sz + sz) by omega, List.drop_append, List.take_of_length_le (l := e) (by omega), List.drop_eq_nil_of_le (as := e) (by omega)]
    simp
theorem arr0 {α : Type} (f : Nat → α) : (Array.range 0).map f = #[] := by apply Array.ext'; simp
theorem length_flatten {α : Type} {sz : Nat} : ∀ {es : List (List α)}, (∀ e ∈ es, e.length = sz) → es.flatten.length = es.length * sz
  | [], _ => by simp
  | e :: es, hl => by
    have he := hl e (by simp)
    simp only [List.flatten_cons, List.length_append, List.length_cons, he, length_flatten (es := es) (fun x hx => hl x (by simp [hx])), Nat.add_mul]
    omega
section
variable {w : World} {R : Nat → Prop}
theorem relV_split {xs ys : List RV} {vs : List Value} (h : RV.relV w R (xs ++ ys) vs) : ∃ us ws, vs = us ++ ws ∧ RV.relV w R xs us ∧ RV.relV w R ys ws := by
  induction xs generalizing vs with
  | nil => exact ⟨[], vs, rfl, by simp [RV.relV], h⟩
  | cons x xs ih =>
    simp only [List.cons_append, RV.relV] at h
    obtain ⟨u, us, rfl, h1, h2⟩ := h
    obtain ⟨as, bs, rfl, h3, h4⟩ := ih h2
    exact ⟨u :: as, bs, rfl, by simp only [RV.relV]; exact ⟨u, as, rfl, h1, h3⟩, h4⟩
theorem relC_of_vals : ∀ {xs : List RV} {us : List Value} {ad : Addr} {j : Nat}, RV.relV w R xs us → (∀ u ∈ us, u.oneCell' = true) → (∀ i u, us[i]? = some u → w.cell? (ad.add (j + i)) = some u) → RV.relC w R xs ad j
  | [], _, _, _, _, _, _ => by simp [RV.relC]
  | x :: xs, us, ad, j, h, h1, hg => by
    simp only [RV.relV] at h
    obtain ⟨u, us, rfl, hu, hV⟩ := h
    simp only [RV.relC]
    refine ⟨⟨u, by simpa using hg 0 u (by simp), h1 u (by simp), hu⟩, relC_of_vals hV (fun v hv => h1 v (by simp [hv])) (fun i v hv => ?_)⟩
    have := hg (i + 1) v (by simpa using hv)
    rwa [show j + (i + 1) = j + 1 + i by omega] at this
theorem relE_of_vals {sz : Nat} : ∀ {es : List (List RV)} {us : List Value} {ad : Addr} {j : Nat}, (∀ e ∈ es, e.length = sz) → RV.relV w R es.flatten us → (∀ u ∈ us, u.oneCell' = true) →
    (∀ i u, us[i]? = some u → w.cell? (ad.add (j + i)) = some u) → RV.relE w R sz es ad j
  | [], _, _, _, _, _, _, _ => by simp [RV.relE]
  | e :: es, us, ad, j, hl, h, h1, hg => by
    simp only [List.flatten_cons] at h
    obtain ⟨as, bs, rfl, h2, h3⟩ := relV_split h
    have hla := RV.relV_length h2
    have he := hl e (by simp)
    simp only [RV.relE]
    refine ⟨he, relC_of_vals h2 (fun u hu => h1 u (by simp [hu])) (fun i u hu => hg i u (by
      have : i < as.length := (List.getElem?_eq_some_iff.1 hu).1
      rw [List.getElem?_append_left this]; exact hu)), relE_of_vals (fun x hx => hl x (by simp [hx])) h3 (fun u hu => h1 u (by simp [hu])) (fun i u hu => ?_)⟩
    have := hg (as.length + i) u (by rw [List.getElem?_append_right (by omega)]; simpa using hu)
    rwa [show j + (as.length + i) = j + sz + i by omega] at this
theorem relE_vals {sz : Nat} : ∀ {es : List (List RV)} {ad : Addr} {j : Nat}, RV.relE w R sz es ad j → (∀ e ∈ es, e.length = sz) ∧ ∃ us : List Value, us.length = es.length * sz ∧ (∀ i u, us[i]? = some u → w.cell? (ad.add (j + i)) = some u) ∧
    RV.relV w R es.flatten us ∧ ∀ u ∈ us, u.oneCell' = true
  | [], _, _, _ => ⟨by simp, [], by simp, by simp, by simp [RV.relV], by simp⟩
  | e :: es, ad, j, h => by
    simp only [RV.relE] at h
    obtain ⟨he, hc, h2⟩ := h
    obtain ⟨as, hla, hga, hVa, h1a⟩ := relC_vals hc
    obtain ⟨hl, bs, hlb, hgb, hVb, h1b⟩ := relE_vals h2
    refine ⟨by simpa using ⟨he, hl⟩, as ++ bs, by simp [hla, hlb, he, Nat.add_mul]; omega, fun i u hu => ?_, by simp only [List.flatten_cons]; exact RV.relV_append hVa hVb, fun u hu => ?_⟩
    · by_cases hi : i < as.length
      · rw [List.getElem?_append_left hi] at hu; exact hga i u hu
      · rw [List.getElem?_append_right (by omega)] at hu
        have := hgb _ u hu
        rwa [show j + sz + (i - as.length) = j + i by omega] at this
    · simp only [List.mem_append] at hu
      exact hu.elim (h1a u) (h1b u)
end

theorem madeCells_list (z : Array Value) : ∀ n : Nat, (madeCells z (n * z.size)).toList = (List.replicate n z.toList).flatten
  | 0 => by simp [madeCells]
  | n + 1 => by
    have ih := madeCells_list z n
    simp only [madeCells, Array.toList_map, Array.toList_range] at ih ⊢
    rw [Nat.add_mul, Nat.one_mul, List.range_add, List.map_append, ih, List.replicate_succ', List.flatten_append]
    congr 1
    simp only [List.map_map, List.flatten_cons, List.flatten_nil, List.append_nil]
    apply List.ext_getElem?
    intro i
    by_cases hi : i < z.size
    · have e : (n * z.size + i) % z.size = i := by rw [Nat.mul_comm, Nat.mul_add_mod, Nat.mod_eq_of_lt hi]
      simp [hi, e]
    · simp [hi]

section
variable {P : Program} {C : Ctx} {p : Plan} {s : AS} {a : Act} {w w' : World} {o : Oper}

theorem layE_rel {ver : Nat → Nat} {esz : Nat} : ∀ (parts : List (Nat × AV)) (vals : List (Nat × Value)) (es es' : List (List RV)) (cells : Array Value),
    layE ver esz es parts = some es' → (∀ e ∈ es, e.length = esz) → RV.relV w p.R es.flatten cells.toList → (∀ u ∈ cells.toList, u.oneCell' = true) →
    parts.map (·.1) = vals.map (·.1) → AV.relV w p ver (parts.map (·.2)) (vals.map (·.2)) →
    ∃ cells', Instr.fill (fun i => some (i * esz, esz)) cells vals = some cells' ∧ es'.length = es.length ∧ (∀ e ∈ es', e.length = esz) ∧ RV.relV w p.R es'.flatten cells'.toList ∧ ∀ u ∈ cells'.toList, u.oneCell' = true
  | [], vals, es, es', cells, h, hl, hV, h1, hi, _ => by
    cases vals with
    | nil => simp only [layE] at h; injection h with h; subst h; exact ⟨cells, rfl, rfl, hl, hV, h1⟩
    | cons _ _ => simp at hi
  | (i, x) :: parts, vals, es, es', cells, h, hl, hV, h1, hi, hvs => by
    cases vals with
    | nil => simp at hi
    | cons v vals =>
      obtain ⟨i', v⟩ := v
      simp only [List.map_cons, List.cons.injEq] at hi
      obtain ⟨hi1, hi2⟩ := hi
      subst hi1
      simp only [List.map_cons, AV.relV] at hvs
      obtain ⟨u, us, he, hu, hvs⟩ := hvs
      injection he with he1 he2
      subst he1 he2
      simp only [layE] at h
      split at h
      · rename_i xs hx
        split at h
        · rename_i hc
          obtain ⟨hlen, hidx⟩ := hc
          cases hx2 : x.cells? ver with
          | none => simp [hx2] at hx
          | some ys =>
            simp only [hx2, Option.bind_some] at hx
            obtain ⟨hcv, ho⟩ := cells_rel hx2 hu
            have hcv := roL_rel hx hcv
            have hlv := RV.relV_length hcv
            have hlc := RV.relV_length hV
            simp only [Array.length_toList] at hlv hlc
            rw [length_flatten hl] at hlc
            have hfit : i * esz + v.cells.size ≤ cells.size := by
              rw [hlv, hlen, hlc]
              have := Nat.mul_le_mul_right esz (show i + 1 ≤ es.length by omega)
              rw [Nat.add_mul] at this; omega
            have hfold := arr_foldl_lay v.cells (i * esz) cells hfit
            have hl' : ∀ e ∈ es.set i xs, e.length = esz := fun e hm => by
              rcases List.mem_or_eq_of_mem_set hm with hm | hm
              · exact hl e hm
              · rw [hm]; exact hlen
            have := layE_rel parts vals (es.set i xs) es' (v.cells.zipIdx.foldl (fun cs (x : Value × Nat) => cs.setIfInBounds (i * esz + x.2) x.1) cells) h hl'
              (by
                rw [hfold, flatten_set hl hidx, show i * esz + v.cells.size = i * esz + esz by omega]
                exact RV.relV_append (RV.relV_take _ hV) (RV.relV_append hcv (RV.relV_drop _ hV)))
              (by
                rw [hfold]
                intro u hu
                simp only [List.mem_append] at hu
                rcases hu with hu | hu | hu
                · exact h1 u (List.mem_of_mem_take hu)
                · exact ho u hu
                · exact h1 u (List.mem_of_mem_drop hu))
              hi2 hvs
            obtain ⟨cells', hf, hle, hr⟩ := this
            refine ⟨cells', ?_, by simpa using hle, hr⟩
            simp only [Instr.fill]
            rw [if_neg (by simp; omega)]
            exact hf
        · cases h
      · cases h

theorem SR.more (h : SR C p s a w) (o : Obj) : SR C { p with R := fun b => p.R b ∨ b = w.heap.size } s a (w.alloc o) :=
  h.below ((Below.refl _ _).alloc (Nat.le_refl _) o) (fun _ h => .inl h) (fun b hb => hb.imp id (fun e => by omega)) (fun b hb => by
    rcases hb with hb | hb
    · have := h.rb b hb; simp; omega
    · simp; omega)

theorem good_buildSlice {t : TypeId} {n : Nat} {ps : Array (Nat × Operand)} (h : SR C p s a w) (ho : o.op = .buildSlice t n ps) (hp : (sBuildSlice P s t n (ps.toList.map fun (i, x) => (i, s.ev x))).pre) :
    Done P C o s a w (sBuildSlice P s t n (ps.toList.map fun (i, x) => (i, s.ev x))) := by
  have hparts := parts_rel h ps.toList
  unfold sBuildSlice at hp ⊢
  split at hp
  · rename_i e esz eb ez sz agg z e1
    obtain ⟨hu, hok, hsz, _, zv, hzv, hez⟩ := tyq_slice e1
    subst hsz
    obtain ⟨i, zval, hi, hzero, hcells, hz1, hzl⟩ := zeroOf_spec hzv
    split at hp
    · rename_i hn0
      subst hn0
      rw [if_pos rfl]
      have hps : ps = #[] := by
        have hnil : (ps.toList.map fun (x : Nat × Operand) => (x.1, s.ev x.2)) = [] := hp
        have : ps.toList = [] := by simpa using hnil
        simpa using this
      refine ⟨_, .slice (some ⟨w.heap.size, 0, none⟩) 0 0, w.alloc (.cells #[] e), _, ?_, .inl rfl, trivial, h.more _, ?_⟩
      · simp [execOp, ho, hps, Instr.buildSlice, run_underlying hu, run_sizeOf_ok hok, Instr.fill, newRow, arr0]
      · show AV.rel _ _ _ (.r .ns) _
        simp only [AV.rel, RV.rel]
        exact ⟨_, rfl⟩
    · rename_i hn0
      rw [if_neg hn0]
      split at hp
      · rename_i es hlay
        obtain ⟨hpos, hmax⟩ : 0 < P.cellsOf e ∧ n * P.cellsOf e ≤ 16777216 := hp
        have hzc : zval.cells.size = P.cellsOf e := by rw [← hzl, ← hcells]; simp
        obtain ⟨cells', hf, hle, hl', hr, hr1⟩ := layE_rel (p := p) (w := w) _ (ps.toList.map fun x => (x.1, a.eval x.2)) _ _ (madeCells zval.cells (n * P.cellsOf e)) hlay
          (by intro e he; rw [List.eq_of_mem_replicate he, hez, List.length_map, hzl])
          (by
            rw [← hzc, madeCells_list, hcells, hez]
            clear hlay hn0 ho hmax
            induction n with
            | zero => simp [RV.relV]
            | succ n ih =>
              simp only [List.replicate_succ, List.flatten_cons]
              exact RV.relV_append (RV.relV_ofV1 w p.R zv) ih)
          (by
            rw [← hzc, madeCells_list, hcells]
            intro u hu
            obtain ⟨l, hl, hul⟩ := List.mem_flatten.1 hu
            rw [List.eq_of_mem_replicate hl] at hul
            exact hz1 u hul)
          hparts.1 hparts.2
        have hnl : es.length = n := by rw [hle]; simp
        refine ⟨_, .slice (some ⟨w.heap.size, 0, none⟩) n n, w.alloc (.cells cells' e), _, ?_, .inl rfl, trivial, h.more _, ?_⟩
        · have hmap : (ps.map fun (x : Nat × Operand) => (x.1, a.eval x.2)).toList = ps.toList.map fun x => (x.1, a.eval x.2) := by simp
          have hne : ¬ (n * P.cellsOf e = 0) := by
            have := Nat.mul_pos (show 0 < n by omega) hpos
            omega
          have hz : (zeroValue e).run P w = .ok zval w := by simp [zeroValue, typeInfo, hi, hzero]
          have hf' := hf
          simp only [madeCells] at hf'
          simp only [execOp, ho, Instr.buildSlice, Sem.run_bind, run_underlying hu, Result.andThen_ok, run_sizeOf_ok hok, if_neg (show ¬ (n * P.cellsOf e > 2 ^ 24) by omega), if_neg hne, hz, Sem.run_pure, hmap, hf']
          simp [newRow]
        · show AV.rel _ _ _ (.r (.sl _ es)) _
          simp only [AV.rel, RV.rel]
          refine ⟨_, n, by rw [hnl], by omega, ?_, fun _ => ⟨_, rfl, .inr rfl, ?_⟩⟩
          · have := Nat.le_mul_of_pos_right n hpos
            simp only [maxLen]; omega
          · have hV : RV.relV (w.alloc (.cells cells' e)) (fun b => p.R b ∨ b = w.heap.size) es.flatten cells'.toList :=
              RV.relV_mono (fun _ h => .inl h) (fun ad hr => World.cell?_alloc_lt w _ ad (h.rb _ hr)) _ _ hr
            refine relE_of_vals hl' hV hr1 (fun j u hj => ?_)
            rw [add_at]
            simp only [Nat.zero_add, World.cell?_alloc_new]
            simpa using hj
      · exact hp.elim
  · exact hp.elim
end
end Go.Oc
