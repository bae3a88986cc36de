/- Each operation does what 'step' says: stores, append; and the whole of it. -/
import Derived.Test.YtnklbfmdojpfkaaOi
namespace Go.Oc
open Go Go.RowKit

theorem elem_at {α : Type} {sz : Nat} : ∀ {es : List (List α)} {i : Nat} {e : List α}, (∀ e ∈ es, e.length = sz) → es[i]? = some e → (es.flatten.drop (i * sz)).take sz = e
  | [], _, _, _, h => by simp at h
  | x :: es, 0, e, hl, h => by
    simp at h; subst h
    have he := hl x (by simp)
    simp [← he]
  | x :: es, i + 1, e, hl, h => by
    have he := hl x (by simp)
    have := elem_at (fun y hy => hl y (by simp [hy])) (by simpa using h : es[i]? = some e)
    rw [List.flatten_cons, Nat.add_mul, Nat.one_mul, Nat.add_comm (i * sz) sz, ← he, List.drop_append, List.drop_eq_nil_of_le (by omega)]
    simpa [he] using this
theorem flatten_sub {α : Type} {sz : Nat} {es : List (List α)} {i off n : Nat} {e xs : List α} (hl : ∀ e ∈ es, e.length = sz) (he : es[i]? = some e) (hn : xs.length = n) (hfit : off + n ≤ sz) :
    (es.set i (e.take off ++ (xs ++ e.drop (off + n)))).flatten = es.flatten.take (i * sz + off) ++ (xs ++ es.flatten.drop (i * sz + off + n)) := by
  have hi : i < es.length := (List.getElem?_eq_some_iff.1 he).1
  have hel := elem_at hl he
  rw [flatten_set hl hi, List.take_add, List.append_assoc, List.append_assoc, List.append_assoc]
  congr 1
  have h1 : (es.flatten.drop (i * sz)).take off = e.take off := by rw [← hel, List.take_take]; congr 1; omega
  have h2 : e.drop (off + n) ++ es.flatten.drop (i * sz + sz) = es.flatten.drop (i * sz + off + n) := by
    rw [← hel, List.drop_take]
    have : es.flatten.drop (i * sz + sz) = ((es.flatten.drop (i * sz)).drop (off + n)).drop (sz - (off + n)) := by
      rw [List.drop_drop, List.drop_drop]; congr 1; omega
    rw [this, List.take_append_drop, List.drop_drop]
    congr 1; omega
  rw [h1, h2]

theorem seg_get {A B vs : List Value} {k : Nat} (hAB : ∀ (i : Nat) (u : Value), A[i]? = some u → B[i]? = some u) (hfit : k + vs.length ≤ A.length) (hle : A.length ≤ B.length) {q : Nat} {u : Value}
    (h : (A.take k ++ (vs ++ A.drop (k + vs.length)))[q]? = some u) : (B.take k ++ (vs ++ B.drop (k + vs.length)))[q]? = some u := by
  have hA : (A.take k).length = k := by simp; omega
  have hB : (B.take k).length = k := by simp; omega
  rw [List.getElem?_append] at h ⊢
  rw [hA] at h
  rw [hB]
  split at h
  · rename_i h1
    rw [if_pos h1]
    rw [List.getElem?_take, if_pos h1] at h ⊢
    exact hAB _ _ h
  · rename_i h1
    rw [if_neg h1]
    rw [List.getElem?_append] at h ⊢
    split at h
    · rename_i h2; rw [if_pos h2]; exact h
    · rename_i h2
      rw [if_neg h2]
      rw [List.getElem?_drop] at h ⊢
      exact hAB _ _ h

section
variable {P : Program} {C : Ctx} {p : Plan} {s : AS} {a : Act} {w w' : World} {o : Oper}

theorem run_storeAt {t : TypeId} {T : TI} (ht : tyq P t = some T) {b off : Nat} {cells : Array Value} {ty : TypeId} {v : Value} (hh : w.heap[b]? = some (.cells cells ty (0, 0))) (hv : v.cells.size = T.sz)
    (hfit : off + T.sz ≤ cells.size) (h1 : ∀ u ∈ v.cells.toList, u.oneCell' = true) :
    (Instr.storeAt t (.pointer (some ⟨b, off, none⟩)) v).run P w = .ok () (w.setRow b (cells.toList.take off ++ (v.cells.toList ++ cells.toList.drop (off + v.cells.toList.length))).toArray) := by
  obtain ⟨hok, hsz, _⟩ := tyq_base ht
  have hst := run_storeCells_at P b off ty v.cells.toList 0 cells w hh (by simp; omega) h1
  simp only [Nat.add_zero, List.append_assoc] at hst
  simp only [Instr.storeAt, Instr.sureAddr, storeVar, Sem.run_bind, Sem.run_pure, Result.andThen_ok, run_sizeOf_ok hok]
  rw [if_neg (by rw [hv, hsz]; simp)]
  exact hst

theorem good_store {t : TypeId} {x y : Operand} (h : SR C p s a w) (ho : o.op = .store t x y) (hp : (sStore P s t (s.ev x) (s.ev y)).pre) : Done P C o s a w (sStore P s t (s.ev x) (s.ev y)) := by
  unfold sStore at hp ⊢
  split at hp
  · rename_i T k n off xs e1 e2 e3
    split at hp
    · rename_i n' cs e4
      obtain ⟨hn, hlen, hfit⟩ : n = n' ∧ xs.length = T.sz ∧ off + T.sz ≤ cs.length := hp
      have hver : n = s.ver k := by rw [hn]; simp [AS.ver, e4]
      obtain ⟨b, hβ, hv⟩ := ev_pt h e2 hver
      have hrow := h.rw k
      rw [e4] at hrow
      simp only [rowRel] at hrow
      obtain ⟨b', cells, ty, hβ', hh, hV, h1⟩ := hrow
      rw [hβ] at hβ'
      injection hβ' with hβ'
      subst hβ'
      obtain ⟨hc, ho1⟩ := cells_rel e3 (h.ev y)
      have hlv := AV.relV_length hc
      have hlc := AV.relV_length hV
      simp only [Array.length_toList] at hlv hlc
      have hst := run_storeAt (P := P) (w := w) e1 (off := off) hh (by omega) (by omega) ho1
      have hn2 : n' = (s.rows k).ver := by rw [e4]
      have hset := h.setRow (w' := w.setRow b (cells.toList.take off ++ ((a.eval y).cells.toList ++ cells.toList.drop (off + (a.eval y).cells.toList.length))).toArray) k
        (.box (cs.take off ++ (xs ++ cs.drop (off + T.sz)))) (by rw [e4]; rfl) (fun _ _ _ _ h => by cases h) hβ rfl rfl rfl (by simp) (fun i hi => setRow_other w b i _ hi) (fun hk => by
          simp only [rowRel]
          refine ⟨b, _, ty, hβ, setRow_heap w b cells _ ty _ hh, ?_, ?_⟩
          · rw [show T.sz = (a.eval y).cells.toList.length by simp; omega]
            exact AV.relV_append (AV.relV_mono hk _ _ (AV.relV_take off hV)) (AV.relV_append (AV.relV_mono hk _ _ hc) (AV.relV_mono hk _ _ (AV.relV_drop _ hV)))
          · intro u hu
            simp only [List.mem_append] at hu
            rcases hu with hu | hu | hu
            · exact h1 u (List.mem_of_mem_take hu)
            · exact ho1 u hu
            · exact h1 u (List.mem_of_mem_drop hu))
      refine ⟨.skip, undef, _, _, ?_, .inr ⟨rfl, rfl⟩, trivial, by rw [rows_one, hn2]; exact hset, ?_⟩
      · simp only [execOp, ho, hv, Sem.run_bind, hst, Result.andThen_ok, Sem.run_pure]
      · simp only [AV.rel, RV.rel]
    · exact hp.elim
  · rename_i T k n sz idx off xs e1 e2 e3
    split at hp
    · rename_i n' t' sz' es xs' e4 e5
      obtain ⟨hn, hsz, hidx, hlen, hfit⟩ : n = n' ∧ sz = sz' ∧ idx < es.length ∧ xs'.length = T.sz ∧ off + T.sz ≤ sz := hp
      subst hsz
      have hver : n = s.ver k := by rw [hn]; simp [AS.ver, e4]
      obtain ⟨b, hβ, hv⟩ := ev_pe h e2 hver
      have hrow := h.rw k
      rw [e4] at hrow
      simp only [rowRel] at hrow
      rcases hrow with ⟨hb, _⟩ | ⟨b', cells, hβ', hh, hcs, hle, hE⟩
      · rw [hb] at hβ; cases hβ
      · rw [hβ] at hβ'
        injection hβ' with hβ'
        subst hβ'
        obtain ⟨hc, ho1⟩ := cells_rel e3 (h.ev y)
        have hc := roL_rel e5 hc
        have hlv := RV.relV_length hc
        simp only [Array.length_toList] at hlv
        obtain ⟨hl, us, hlu, hget, hVu, h1u⟩ := relE_vals hE
        simp only [Nat.zero_add, add_at] at hget
        have hx : es[idx]? = some (es.getD idx []) := by simp [List.getD, hidx]
        have hmul : idx * sz + sz ≤ es.length * sz := by
          have := Nat.mul_le_mul_right sz (show idx + 1 ≤ es.length by omega)
          rw [Nat.add_mul] at this; omega
        have hcap : es.length * sz ≤ cells.size := by rw [hcs]; exact Nat.mul_le_mul_right _ hle
        have hst := run_storeAt (P := P) (w := w) e1 (off := idx * sz + off) hh (by omega) (by omega) ho1
        have hn2 : n' = (s.rows k).ver := by rw [e4]
        have hel : (es.getD idx []).length = sz := hl _ (List.mem_of_getElem? hx)
        have hset := h.setRow (w' := w.setRow b (cells.toList.take (idx * sz + off) ++ ((a.eval y).cells.toList ++ cells.toList.drop (idx * sz + off + (a.eval y).cells.toList.length))).toArray) k
          (.arr t' sz (es.set idx ((es.getD idx []).take off ++ (xs' ++ (es.getD idx []).drop (off + T.sz))))) (by rw [e4]; rfl) (fun _ _ _ _ h => by cases h) hβ rfl rfl rfl (by simp) (fun i hi => setRow_other w b i _ hi) (fun hk => by
            simp only [rowRel]
            refine .inr ⟨b, _, hβ, setRow_heap w b cells _ t' _ hh, ?_, by simpa using hle, ?_⟩
            · simp; omega
            · refine relE_of_vals (us := us.take (idx * sz + off) ++ ((a.eval y).cells.toList ++ us.drop (idx * sz + off + (a.eval y).cells.toList.length))) (fun e hm => ?_) ?_ ?_ (fun j u hj => ?_)
              · rcases List.mem_or_eq_of_mem_set hm with hm | hm
                · exact hl e hm
                · rw [hm, List.length_append, List.length_append, List.length_take, List.length_drop, hel]; omega
              · rw [flatten_sub hl hx hlen hfit, show T.sz = (a.eval y).cells.toList.length by simp; omega]
                exact RV.relV_append (RV.relV_mono hk.R hk.cell _ _ (RV.relV_take _ hVu)) (RV.relV_append (RV.relV_mono hk.R hk.cell _ _ hc) (RV.relV_mono hk.R hk.cell _ _ (RV.relV_drop _ hVu)))
              · intro u hu
                simp only [List.mem_append] at hu
                rcases hu with hu | hu | hu
                · exact h1u u (List.mem_of_mem_take hu)
                · exact ho1 u hu
                · exact h1u u (List.mem_of_mem_drop hu)
              · rw [Nat.zero_add, add_at, Nat.zero_add, cell_setRow_same w b j cells _ t' _ hh, List.getElem?_toArray]
                refine seg_get (fun i v hi => ?_) (by simp; omega) (by simp; omega) hj
                have := hget i v hi
                rw [cell_of_row w b i cells t' (0, 0) hh] at this
                simpa using this)
        refine ⟨.skip, undef, _, _, ?_, .inr ⟨rfl, rfl⟩, trivial, by rw [rows_one, hn2]; exact hset, ?_⟩
        · simp only [execOp, ho, hv, Sem.run_bind, hst, Result.andThen_ok, Sem.run_pure]
        · simp only [AV.rel, RV.rel]
    · exact hp.elim
  · exact hp.elim

/-! ### append -/
theorem run_append_zero {t ty e : TypeId} (ht : P.underlying t = some (.slice e)) (hok : okT P e = true) {A B : Option Addr} {n c cB : Nat} (h : n ≤ c) :
    (Builtin.append_ #[t, t] ty #[.slice A n c, .slice B 0 cB]).run P w = .ok (.slice A n c) w := by
  unfold Builtin.append_
  have hf : (Builtin.firstCells (P.cellsOf e) 0 (.slice B 0 cB)).run P w = .ok #[] w := by
    cases B <;> simp [Builtin.firstCells, loadCells, loadCellsFrom]
  cases A <;> simp [run_underlying ht, run_sizeOf_ok hok, Builtin.lenOf, h, hf, storeCells]

theorem news_rel (h : SR C p s a w) {y : Operand} {c : Prop} {sz esz : Nat} {ns : List (List RV)} (hy : news? s (s.ev y) = some (c, sz, ns)) (hc : c) (hsz : sz = esz ∨ ns = []) :
    ∃ B cB, a.eval y = .slice B ns.length cB ∧ (ns ≠ [] → ∃ ad us, B = some ad ∧ us.length = ns.length * esz ∧ (∀ j u, us[j]? = some u → w.cell? (ad.add j) = some u) ∧
      RV.relV w p.R ns.flatten us ∧ (∀ u ∈ us, u.oneCell' = true) ∧ ∀ e ∈ ns, e.length = esz) := by
  unfold news? at hy
  split at hy
  · rename_i e
    injection hy with hy
    injection hy with h1 h2
    injection h2 with h2 h3
    subst h3
    obtain ⟨A, hv⟩ := ev_ns h e
    exact ⟨A, 0, hv, fun h => absurd rfl h⟩
  · rename_i sz' es e
    injection hy with hy
    injection hy with h1 h2
    injection h2 with h2 h3
    subst h2 h3
    obtain ⟨A, c, hv, _, _, hne⟩ := ev_sl h e
    refine ⟨A, c, hv, fun hnil => ?_⟩
    obtain ⟨ad, hA, hR, hE⟩ := hne hnil
    obtain ⟨hl, us, hlu, hget, hV, h1u⟩ := relE_vals hE
    have hsz' : sz' = esz := hsz.resolve_right hnil
    subst hsz'
    exact ⟨ad, us, hA, hlu, fun j u hj => by simpa using hget j u hj, hV, h1u, hl⟩
  · rename_i k n sz' off m e
    split at hy
    · rename_i n' t' sz2 es e2
      injection hy with hy
      injection hy with h1 h2
      injection h2 with h2 h3
      subst h1 h2 h3
      obtain ⟨hn, hs2, hfit⟩ := hc
      have hver : n = s.ver k := by rw [hn]; simp [AS.ver, e2]
      have hlen : ((es.drop off).take m).length = m := by simp; omega
      rcases ev_os h e hver with ⟨hβ, _, h0, hm, A, hv⟩ | ⟨b, A, hβ, hv, hle, hA⟩
      · refine ⟨A, 0, by rw [hlen, hm]; exact hv, fun hnil => absurd ?_ hnil⟩
        rw [hm]; simp
      · refine ⟨A, _, by rw [hlen]; exact hv, fun hnil => ?_⟩
        have hsz' : sz' = esz := hsz.resolve_right hnil
        subst hsz'
        have hm : 0 < m := by
          rcases Nat.eq_zero_or_pos m with h0 | h0
          · exact absurd (by rw [h0]; simp) hnil
          · exact h0
        have hrow := h.rw k
        rw [e2] at hrow
        simp only [rowRel] at hrow
        rcases hrow with ⟨hb, _⟩ | ⟨b', cells, hβ', hh, hcs, hle2, hE⟩
        · rw [hb] at hβ; cases hβ
        · rw [hβ] at hβ'
          injection hβ' with hβ'
          subst hβ'
          have hE2 := relE_cut hE off (off + m)
          rw [add_at, Nat.zero_add, ← hs2, List.take_drop.symm] at hE2
          obtain ⟨hl, us, hlu, hget, hV, h1u⟩ := relE_vals hE2
          refine ⟨_, us, hA (.inl hm), hlu, fun j u hj => by simpa using hget j u hj, hV, h1u, hl⟩
    · cases hy
  · cases hy
end
end Go.Oc
