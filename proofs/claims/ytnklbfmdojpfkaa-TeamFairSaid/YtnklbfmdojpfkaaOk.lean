/- append; and every operation that calls no Go function does what 'step' says. -/
import Derived.Test.YtnklbfmdojpfkaaOz
import Derived.Lib.AppendZerosOnto
namespace Go.Oc
open Go Go.RowKit

section
variable {P : Program} {C : Ctx} {p : Plan} {s : AS} {a : Act} {w w' : World} {o : Oper}

theorem size_zero (z : Array Value) (n : Nat) : (Builtin.zeroCells z n).size = n * z.size := by simp [Builtin.zeroCells]

/-- append onto nothing: the row is made anew (or is still nowhere). -/
theorem append_fresh (h : SR C p s a w) (k : Nat) (hk0 : k < 1000) {x y : Operand} {t e esz eb : Nat} {ez : List RV} {ssz : Nat} {sagg : Bool} {sz0 : List RV} (ho : o.op = .call ⟨.builtin .append, #[x, y], #[t, t]⟩)
    (e1 : tyq P t = some ⟨.slice e esz eb ez, ssz, sagg, sz0⟩) {A : Option Addr} (hx : a.eval x = .slice A 0 0) {c : Prop} {sz : Nat} {ns : List (List RV)} (hy : news? s (s.ev y) = some (c, sz, ns)) (hc : c)
    (hsz : sz = esz ∨ ns = []) (hpos : 0 < esz) (hb : ns.length * eb ≤ 140737488355328) (hm : ns.length ≤ 9223372036854775807) :
    ∃ v w' p', (execOp a.eval o).run P w = .ok (.value v) w' ∧ SR C p' { s with rows := upd s.rows k ⟨(s.rows k).ver + 1, .arr e esz ns⟩ } a w' ∧
      (AV.os k ((s.rows k).ver + 1) esz 0 ns.length).rel w' p' (vers (upd s.rows k ⟨(s.rows k).ver + 1, .arr e esz ns⟩)) v := by
  obtain ⟨hu, hok, hcs, hby, zv, hzv, hez⟩ := tyq_slice e1
  obtain ⟨i, z, hi, hzero, hcells, hz1, hzl⟩ := zeroOf_spec hzv
  obtain ⟨B, cB, hyv, hne⟩ := news_rel h hy hc hsz
  have go : ∀ {v : Value} {w2 : World}, (Builtin.append_ #[t, t] o.type #[a.eval x, a.eval y]).run P w = .ok v w2 → (execOp a.eval o).run P w = .ok (.value v) w2 := fun hr =>
    run_builtin_of ho (by simp only [builtin, Sem.run_bind, List.map_toArray, List.map_cons, List.map_nil, hr, Result.andThen_ok, Sem.run_pure])
  by_cases hnil : ns = []
  · subst hnil
    have hSR := h.reRow (w' := w) k hk0 (.arr e esz []) rfl none 0 (Nat.zero_le _) rfl rfl rfl (Nat.le_refl _) (fun _ _ _ => rfl) (fun _ h => by cases h) (fun p' ver' _ hβ hγ _ => by
      simp [rowRel, hβ, hγ])
    refine ⟨.slice A 0 0, w, _, go ?_, hSR, ?_⟩
    · rw [hx, hyv]; exact run_append_zero hu hok (Nat.le_refl _)
    · simp only [AV.rel, vers, upd_same]
      exact ⟨Nat.le_refl _, fun _ => .inl ⟨trivial, trivial, trivial, by simp, A, rfl⟩⟩
  · obtain ⟨ad, us, rfl, hlu, hget, hV, h1u, hl⟩ := hne hnil
    have hn0 : 0 < ns.length := List.length_pos_iff.2 hnil
    rw [cellsOf_info hi] at hcs
    rw [bytesOf_info hi] at hby
    subst hcs hby
    have hrun : (Builtin.append_ #[t, t] o.type #[.slice A 0 0, .slice (some ad) ns.length cB]).run P w =
        .ok (.slice (some ⟨w.heap.size, 0, none⟩) ns.length (grownCap w ns.length 0 e)) (w.drew.alloc (.cells (us.toArray ++ Builtin.zeroCells z.cells (grownCap w ns.length 0 e - ns.length)) e)) := by
      cases A with
      | none => exact run_append_nil (P := P) w t o.type e i z hu hi hzero ad ns.length cB us hlu hget hn0 (by omega) (by omega)
      | some b =>
        have := run_append_grow (P := P) w t o.type e i z hu hi hzero b 0 0 [] (by simp) (by simp) ad ns.length cB us hlu hget (by omega) (by omega) (growslice_fits (by omega) (by simpa using hb))
        simpa using this
    have hge := grownCap_ge w ns.length 0 e
    have hcap := grownCap_le_maxLen w ns.length 0 e (by simp only [maxLen]; omega)
    have hzc : z.cells.size = i.size := by rw [cellsOf_info hi] at hzl; rw [← hzl, ← hcells]; simp
    have hd : SR C p s a w.drew := h.below (w' := w.drew) ((Below.refl _ _).drew) (fun _ h => h) (fun _ h => .inl h) h.rb
    have hn := hd.newRow k hk0 (.arr e i.size ns) rfl (grownCap w ns.length 0 e) hcap (.cells (us.toArray ++ Builtin.zeroCells z.cells (grownCap w ns.length 0 e - ns.length)) e) (fun p' ver' _ hβ hγ hk => by
      simp only [rowRel]
      rw [hγ]
      refine .inr ⟨_, _, hβ, heap_alloc_new w.drew _, ?_, hge, ?_⟩
      · rw [Array.size_append, size_zero, hzc, List.size_toArray, hlu, ← Nat.add_mul]
        congr 1; omega
      · refine relE_of_vals hl (RV.relV_mono hk.R hk.cell _ _ (RV.relV_mono (w := w) (w' := w.drew) (fun _ h => h) (fun _ _ => rfl) _ _ hV)) h1u (fun j u hj => ?_)
        rw [Nat.zero_add, add_at, Nat.zero_add, World.cell?_alloc_new, Array.getElem?_append_left (by simpa using (List.getElem?_eq_some_iff.1 hj).1)]
        simpa using hj)
    refine ⟨_, _, _, go (by rw [hx, hyv]; exact hrun), hn, ?_⟩
    simp only [AV.rel, vers, upd_same]
    exact ⟨Nat.le_refl _, fun _ => .inr ⟨_, _, rfl, by simp; rfl, by omega, fun _ => by simp⟩⟩

theorem flatten_take_of {α : Type} {sz : Nat} : ∀ {es : List (List α)} (m : Nat), (∀ e ∈ es, e.length = sz) → (es.take m).flatten = es.flatten.take (m * sz)
  | [], m, _ => by simp
  | e :: es, 0, _ => by simp
  | e :: es, m + 1, hl => by
    have he := hl e (by simp)
    have h1 : e.take (m * sz + sz) = e := List.take_of_length_le (by rw [he]; omega)
    rw [List.take_succ_cons, List.flatten_cons, List.flatten_cons, flatten_take_of m (fun x hx => hl x (by simp [hx])), List.take_append, he, Nat.add_mul, Nat.one_mul, h1, Nat.add_sub_cancel]
theorem flatten_drop_of {α : Type} {sz : Nat} : ∀ {es : List (List α)} (m : Nat), (∀ e ∈ es, e.length = sz) → (es.drop m).flatten = es.flatten.drop (m * sz)
  | [], m, _ => by simp
  | e :: es, 0, _ => by simp
  | e :: es, m + 1, hl => by
    have he := hl e (by simp)
    have h1 : e.drop (m * sz + sz) = [] := List.drop_eq_nil_of_le (by rw [he]; omega)
    rw [List.drop_succ_cons, List.flatten_cons, flatten_drop_of m (fun x hx => hl x (by simp [hx])), List.drop_append, he, Nat.add_mul, Nat.one_mul, h1, List.nil_append, Nat.add_sub_cancel]
/-- Elements from m on are written over. -/
theorem set_row (h : SR C p s a w) {k b m sz e : Nat} {es ns : List (List RV)} {vs : List Value} (e5 : (s.rows k).c = .arr e sz es) (hβ : p.β k = some b) (hle : m + ns.length ≤ es.length) (hlv : vs.length = ns.length * sz) (hl2 : ∀ x ∈ ns, x.length = sz)
    (hV : RV.relV w p.R ns.flatten vs) (h1v : ∀ u ∈ vs, u.oneCell' = true) :
    ∃ cells, w.heap[b]? = some (.cells cells e (0, 0)) ∧ m * sz + vs.length ≤ cells.size ∧
      SR C p { s with rows := upd s.rows k ⟨(s.rows k).ver, .arr e sz (es.take m ++ (ns ++ es.drop (m + ns.length)))⟩ } a (w.setRow b (cells.toList.take (m * sz) ++ vs ++ cells.toList.drop (m * sz + vs.length)).toArray) := by
  have hrow := h.rw k
  rw [e5] at hrow
  simp only [rowRel] at hrow
  rcases hrow with ⟨hb0, _⟩ | ⟨b', cells, hβ', hh, hcs, hle2, hE⟩
  · rw [hb0] at hβ; cases hβ
  · rw [hβ] at hβ'
    injection hβ' with hβ'
    subst hβ'
    obtain ⟨hl, us, hlu, hget, hVu, h1u⟩ := relE_vals hE
    simp only [Nat.zero_add, add_at] at hget
    have hmul : (m + ns.length) * sz ≤ es.length * sz := Nat.mul_le_mul_right _ hle
    have hmul2 : es.length * sz ≤ p.γ k * sz := Nat.mul_le_mul_right _ hle2
    rw [Nat.add_mul] at hmul
    refine ⟨cells, hh, by omega, ?_⟩
    refine h.setRow k (.arr e sz (es.take m ++ (ns ++ es.drop (m + ns.length)))) (by rw [e5]; rfl) (fun _ _ _ _ h => by cases h) hβ rfl rfl rfl (by simp) (fun j hj => setRow_other w b j _ hj) (fun hk => ?_)
    simp only [rowRel]
    refine .inr ⟨b, _, hβ, setRow_heap w b cells _ e _ hh, ?_, by simp; omega, ?_⟩
    · simp; omega
    · refine relE_of_vals (us := us.take (m * sz) ++ (vs ++ us.drop (m * sz + vs.length))) (fun x hx => ?_) ?_ (fun u hu => ?_) (fun j u hj => ?_)
      · rcases List.mem_append.1 hx with hx | hx
        · exact hl x (List.mem_of_mem_take hx)
        · rcases List.mem_append.1 hx with hx | hx
          · exact hl2 x hx
          · exact hl x (List.mem_of_mem_drop hx)
      · rw [List.flatten_append, List.flatten_append, flatten_take_of m hl, flatten_drop_of _ hl]
        have hk2 : ∀ b, p.R b → p.R b := fun _ h => h
        refine RV.relV_append (RV.relV_take _ (RV.relV_mono hk2 hk.cell _ _ hVu)) (RV.relV_append (RV.relV_mono hk2 hk.cell _ _ hV) ?_)
        have h9 := RV.relV_drop (m * sz + vs.length) (RV.relV_mono hk2 hk.cell _ _ hVu)
        rw [show (m + ns.length) * sz = m * sz + vs.length from by rw [hlv, Nat.add_mul]]
        exact h9
      · rcases List.mem_append.1 hu with hu | hu
        · exact h1u u (List.mem_of_mem_take hu)
        · rcases List.mem_append.1 hu with hu | hu
          · exact h1v u hu
          · exact h1u u (List.mem_of_mem_drop hu)
      · rw [Nat.zero_add, add_at, Nat.zero_add, cell_setRow_same w b j cells _ e _ hh, List.getElem?_toArray, List.append_assoc]
        refine seg_get (A := us) (B := cells.toList) (fun i u hi => ?_) (by omega) (by simp; omega) hj
        have := hget i u hi
        rw [cell_of_row w b i cells e (0, 0) hh] at this
        simpa using this

/-- append where there is room: what lay behind is written over. -/
theorem append_in (h : SR C p s a w) {x y : Operand} {t e esz eb : Nat} {ez : List RV} {ssz : Nat} {sagg : Bool} {sz0 : List RV} (ho : o.op = .call ⟨.builtin .append, #[x, y], #[t, t]⟩)
    (e1 : tyq P t = some ⟨.slice e esz eb ez, ssz, sagg, sz0⟩) {k n m sz : Nat} {c : Prop} {es ns : List (List RV)} (e3 : s.ev x = .os k n esz 0 m) (e4 : news? s (s.ev y) = some (c, sz, ns)) (e5 : s.rows k = ⟨n, .arr e esz es⟩) (hc : c)
    (hsz : sz = esz ∨ ns = []) (hle : m + ns.length ≤ es.length) :
    ∃ v w' p', (execOp a.eval o).run P w = .ok (.value v) w' ∧ SR C p' { s with rows := upd s.rows k ⟨n, .arr e esz (es.take m ++ (ns ++ es.drop (m + ns.length)))⟩ } a w' ∧
      (AV.os k n esz 0 (m + ns.length)).rel w' p' (vers (upd s.rows k ⟨n, .arr e esz (es.take m ++ (ns ++ es.drop (m + ns.length)))⟩)) v := by
  have hn2 : n = (s.rows k).ver := by rw [e5]
  have hver : n = s.ver k := hn2
  obtain ⟨hu, hok, hco, hby, zv, hzv, hez⟩ := tyq_slice e1
  obtain ⟨i, z, hi, hzero, hcells, hz1, hzl⟩ := zeroOf_spec hzv
  rw [cellsOf_info hi] at hco
  obtain ⟨B, cB, hyv, hne⟩ := news_rel h e4 hc hsz
  have go : ∀ {v : Value} {w2 : World}, (Builtin.append_ #[t, t] o.type #[a.eval x, a.eval y]).run P w = .ok v w2 → (execOp a.eval o).run P w = .ok (.value v) w2 := fun hr =>
    run_builtin_of ho (by simp only [builtin, Sem.run_bind, List.map_toArray, List.map_cons, List.map_nil, hr, Result.andThen_ok, Sem.run_pure])
  have same : ns = [] → upd s.rows k ⟨n, .arr e esz (es.take m ++ (ns ++ es.drop (m + ns.length)))⟩ = s.rows := fun h0 => by
    subst h0
    simp only [List.length_nil, Nat.add_zero, List.nil_append, List.take_append_drop]
    funext j
    unfold upd
    split
    · rename_i e; subst e; exact e5.symm
    · rfl
  rcases ev_os h e3 hver with ⟨hβ, hγ, _, hm0, A, hv⟩ | ⟨b, A, hβ, hv, hle2, hA⟩
  · have hrow := h.rw k
    rw [e5] at hrow
    simp only [rowRel] at hrow
    have hes : es = [] := by
      rcases hrow with ⟨_, h2, _⟩ | ⟨b, _, h2, _⟩
      · exact h2
      · rw [hβ] at h2; cases h2
    subst hes hm0
    have hns : ns = [] := List.eq_nil_of_length_eq_zero (by simp only [List.length_nil] at hle; omega)
    have hs := same hns
    refine ⟨.slice A 0 0, w, p, go ?_, ?_, ?_⟩
    · rw [hv, hyv, show ns.length = 0 from by rw [hns]; rfl]; exact run_append_zero hu hok (Nat.le_refl _)
    · rw [hs]; exact h
    · rw [hs]
      simp only [AV.rel, vers]
      exact ⟨Nat.le_of_eq hn2, fun _ => .inl ⟨hβ, hγ, trivial, by simp [hns], A, rfl⟩⟩
  · obtain rfl := hA (.inr rfl)
    simp only [Nat.zero_mul, Nat.sub_zero] at hv
    have hγ2 : es.length ≤ p.γ k := by
      have hrow := h.rw k
      rw [e5] at hrow
      simp only [rowRel] at hrow
      rcases hrow with ⟨h2, _⟩ | ⟨_, _, _, _, _, h2, _⟩
      · rw [hβ] at h2; cases h2
      · exact h2
    by_cases hnil : ns = []
    · have hs := same hnil
      refine ⟨.slice (some ⟨b, 0, none⟩) m (p.γ k), w, p, go (by rw [hv, hyv, show ns.length = 0 from by rw [hnil]; rfl]; exact run_append_zero hu hok (by omega)), by rw [hs]; exact h, ?_⟩
      rw [hs]
      simp only [AV.rel, vers]
      exact ⟨Nat.le_of_eq hn2, fun _ => .inr ⟨b, some ⟨b, 0, none⟩, hβ, by simp [hnil], by simp only [hnil, List.length_nil]; omega, fun _ => by simp⟩⟩
    · obtain ⟨ad, vs, rfl, hlv, hgv, hVv, h1v, hlv2⟩ := hne hnil
      obtain ⟨cells, hh, hfit, hset⟩ := set_row (m := m) h (by rw [e5]) hβ hle hlv hlv2 hVv h1v
      have hr := run_append_room (P := P) w t o.type e i hu hi b m (p.γ k) cells hh ad ns.length cB vs (by rw [hlv, hco]) hgv h1v (by omega) (by rw [hco]; exact hfit)
      rw [hco] at hr
      have hn3 : (s.rows k).ver = n := hn2.symm
      rw [hn3] at hset
      refine ⟨_, _, p, go (by rw [hv, hyv]; exact hr), hset, ?_⟩
      simp only [AV.rel, vers, upd_same]
      exact ⟨Nat.le_refl _, fun _ => .inr ⟨b, _, hβ, by simp; rfl, by omega, fun _ => by simp⟩⟩

theorem good_append {x y : Operand} {t t' : TypeId} (h : SR C p s a w) (ho : o.op = .call ⟨.builtin .append, #[x, y], #[t, t']⟩) (hp : (sAppend P s (o.dst.getD 0) t t' (s.ev x) (s.ev y)).pre) :
    Done P C o s a w (sAppend P s (o.dst.getD 0) t t' (s.ev x) (s.ev y)) := by
  unfold sAppend at hp ⊢
  split at hp
  · rename_i e esz eb ez ssz sagg sz0 c sz ns e1 e2 e3 e4
    obtain rfl : t = t' := by simpa using e2
    obtain ⟨hc, hsz, hpos, hb, hm, hk0⟩ : c ∧ (sz = esz ∨ ns = []) ∧ 0 < esz ∧ ns.length * eb ≤ 140737488355328 ∧ ns.length ≤ 9223372036854775807 ∧ o.dst.getD 0 < 1000 := hp
    obtain ⟨A, hv⟩ := ev_ns h e3
    obtain ⟨v, w', p', hrun, hSR, hrel⟩ := append_fresh h (o.dst.getD 0) hk0 ho e1 hv e4 hc hsz hpos hb hm
    exact ⟨_, v, w', p', hrun, .inl rfl, trivial, by rw [rows_one]; exact hSR, by rw [rows_one]; exact hrel⟩
  · rename_i e esz eb ez ssz sagg sz0 k n sz1 off m c sz ns e1 e2 e3 e4
    obtain rfl : t = t' := by simpa using e2
    split at hp
    · rename_i n' e' sz' es e5
      by_cases hif : off = 0 ∧ m = es.length
      rotate_left
      · rw [if_neg hif] at hp ⊢
        obtain ⟨hc, hn, he', hs1, hs2, hoff, hsz, hpos, hle⟩ : c ∧ n = n' ∧ e' = e ∧ sz1 = esz ∧ sz' = esz ∧ off = 0 ∧ (sz = esz ∨ ns = []) ∧ 0 < esz ∧ m + ns.length ≤ es.length := hp
        subst hs1 hs2 hoff he' hn
        obtain ⟨v, w', p', hrun, hSR, hrel⟩ := append_in h ho e1 e3 e4 e5 hc hsz hle
        exact ⟨_, v, w', p', hrun, .inl rfl, trivial, by rw [rows_one]; exact hSR, by rw [rows_one]; exact hrel⟩
      rw [if_pos hif] at hp ⊢
      obtain ⟨hc, hn, he', hs1, hs2, hoff, hm, hsz, hpos, hb, hmax, hk0⟩ : c ∧ n = n' ∧ e' = e ∧ sz1 = esz ∧ sz' = esz ∧ off = 0 ∧ m = es.length ∧ (sz = esz ∨ ns = []) ∧ 0 < esz ∧
        (m + ns.length) * eb ≤ 140737488355328 ∧ m + ns.length ≤ 9223372036854775807 ∧ k < 1000 := hp
      subst hs1 hs2 hoff he' hn
      have hver : n = s.ver k := by simp [AS.ver, e5]
      have hn2 : n = (s.rows k).ver := hver
      have hrow := h.rw k
      rw [e5] at hrow
      simp only [rowRel] at hrow
      rcases ev_os h e3 hver with ⟨hβ, _, _, hm0, A, hv⟩ | ⟨b, A, hβ, hv, hle, hA⟩
      · have hes : es = [] := List.eq_nil_of_length_eq_zero (by omega)
        subst hes hm0
        simp only [Nat.zero_add] at hb hmax
        obtain ⟨v, w', p', hrun, hSR, hrel⟩ := append_fresh h k hk0 ho e1 hv e4 hc hsz hpos hb hmax
        refine ⟨_, v, w', p', hrun, .inl rfl, trivial, ?_, ?_⟩
        · rw [rows_one, hn2]; simpa using hSR
        · rw [rows_one, hn2]; simpa using hrel
      · obtain rfl := hA (.inr rfl)
        rcases hrow with ⟨hb0, _⟩ | ⟨b', cells, hβ', hh, hcs, hle2, hE⟩
        · rw [hb0] at hβ; cases hβ
        · rw [hβ] at hβ'
          injection hβ' with hβ'
          subst hβ'
          obtain ⟨hu, hok, hco, hby, zv, hzv, hez⟩ := tyq_slice e1
          obtain ⟨i, z, hi, hzero, hcells, hz1, hzl⟩ := zeroOf_spec hzv
          rw [cellsOf_info hi] at hco
          rw [bytesOf_info hi] at hby
          obtain ⟨B, cB, hyv, hne⟩ := news_rel h e4 hc hsz
          simp only [Nat.zero_mul, Nat.sub_zero] at hv
          have go : ∀ {v : Value} {w2 : World}, (Builtin.append_ #[t, t] o.type #[a.eval x, a.eval y]).run P w = .ok v w2 → (execOp a.eval o).run P w = .ok (.value v) w2 := fun hr =>
            run_builtin_of ho (by simp only [builtin, Sem.run_bind, List.map_toArray, List.map_cons, List.map_nil, hr, Result.andThen_ok, Sem.run_pure])
          obtain ⟨hl, us, hlu, hget, hVu, h1u⟩ := relE_vals hE
          simp only [Nat.zero_add, add_at] at hget
          by_cases hnil : ns = []
          · subst hnil
            have hSR := h.reRow (w' := w) k hk0 (.arr e' sz' es) rfl (some b) (p.γ k) (h.cap k) rfl rfl rfl (Nat.le_refl _) (fun _ _ _ => rfl) (fun b2 h2 => by injection h2 with h2; subst h2; exact ⟨(h.bl k _ hβ).1, .inl hβ⟩) (fun p' ver' hR' hβ' hγ' hk => by
              simp only [rowRel]
              rw [hγ', hR']
              exact .inr ⟨b, cells, hβ', hh, hcs, hle2, hE⟩)
            refine ⟨_, .slice (some ⟨b, 0, none⟩) m (p.γ k), w, { p with β := upd p.β k (some b), γ := upd p.γ k (p.γ k) }, go (by rw [hv, hyv]; exact run_append_zero hu hok (by omega)), .inl rfl, trivial, ?_, ?_⟩
            · rw [rows_one, hn2]; simpa using hSR
            · rw [rows_one, hn2]
              simp only [AV.rel, vers, upd_same]
              exact ⟨Nat.le_refl _, fun _ => .inr ⟨b, _, rfl, by simp; rfl, by simp; omega, fun _ => by simp⟩⟩
          · obtain ⟨ad, vs, rfl, hlv, hgv, hVv, h1v, hlv2⟩ := hne hnil
            have hlen : (es ++ ns).length = m + ns.length := by rw [List.length_append, hm]
            have hl2 : ∀ e ∈ es ++ ns, e.length = sz' := fun e he => (List.mem_append.1 he).elim (hl e) (hlv2 e)
            by_cases hroom : m + ns.length ≤ p.γ k
            · have hfit : m * sz' + vs.length ≤ cells.size := by
                rw [hlv, hcs, ← Nat.add_mul]; exact Nat.mul_le_mul_right _ hroom
              have hr := run_append_room (P := P) w t o.type e' i hu hi b m (p.γ k) cells hh ad ns.length cB vs (by rw [hlv, hco]) hgv h1v hroom (by rw [hco]; exact hfit)
              rw [hco] at hr
              have hSR := h.reRow (w' := w.setRow b (cells.toList.take (m * sz') ++ vs ++ cells.toList.drop (m * sz' + vs.length)).toArray) k hk0 (.arr e' sz' (es ++ ns)) rfl (some b) (p.γ k) (h.cap k) rfl rfl rfl (by simp)
                (fun j _ hj => setRow_other w b j _ (fun e => hj (by rw [e]; exact hβ))) (fun b2 h2 => by injection h2 with h2; subst h2; exact ⟨by simpa using (h.bl k _ hβ).1, .inl hβ⟩) (fun p' ver' hR' hβ' hγ' hk => by
                simp only [rowRel]
                rw [hγ']
                refine .inr ⟨b, _, hβ', setRow_heap w b cells _ e' _ hh, ?_, by omega, ?_⟩
                · simp; omega
                · refine relE_of_vals (us := us ++ vs) hl2 ?_ (fun u hu => (List.mem_append.1 hu).elim (h1u u) (h1v u)) (fun j u hj => ?_)
                  · rw [List.flatten_append, hR']
                    have hk2 : ∀ b, p.R b → p.R b := fun _ h => h
                    exact RV.relV_append (RV.relV_mono hk2 hk.cell _ _ hVu) (RV.relV_mono hk2 hk.cell _ _ hVv)
                  · rw [Nat.zero_add, add_at, Nat.zero_add, cell_setRow_same w b j cells _ e' _ hh, List.getElem?_toArray, List.append_assoc]
                    have hul : us.length = m * sz' := by rw [hlu, hm]
                    have htk : (cells.toList.take (m * sz')).length = m * sz' := by simp; omega
                    rw [List.getElem?_append] at hj ⊢
                    rw [htk]
                    rw [hul] at hj
                    split at hj
                    · rename_i h1
                      rw [if_pos h1, List.getElem?_take, if_pos h1]
                      have := hget j u hj
                      rw [cell_of_row w b j cells e' (0, 0) hh] at this
                      simpa using this
                    · rename_i h1
                      rw [if_neg h1, List.getElem?_append_left (List.getElem?_eq_some_iff.1 hj).1]
                      exact hj)
              refine ⟨_, .slice (some ⟨b, 0, none⟩) (m + ns.length) (p.γ k), _, { p with β := upd p.β k (some b), γ := upd p.γ k (p.γ k) }, go (by rw [hv, hyv]; exact hr), .inl rfl, trivial, ?_, ?_⟩
              · rw [rows_one, hn2]; exact hSR
              · rw [rows_one, hn2]
                simp only [AV.rel, vers, upd_same]
                exact ⟨Nat.le_refl _, fun _ => .inr ⟨b, _, rfl, by simp; rfl, by simpa using hroom, fun _ => by simp⟩⟩
            · have holds : ∀ j u, us[j]? = some u → w.cell? ((⟨b, 0, none⟩ : Addr).add j) = some u := fun j u hj => by rw [add_at, Nat.zero_add]; exact hget j u hj
              have hr := run_append_grow (P := P) w t o.type e' i z hu hi hzero ⟨b, 0, none⟩ m (p.γ k) us (by rw [hlu, hm, hco]) holds ad ns.length cB vs (by rw [hlv, hco]) hgv (by omega) (by omega)
                (growslice_fits (by omega) (by rw [hby]; exact hb))
              have hge := grownCap_ge w (m + ns.length) (p.γ k) e'
              have hcap := grownCap_le_maxLen w (m + ns.length) (p.γ k) e' (by simp only [maxLen]; omega)
              have hzc : z.cells.size = sz' := by rw [cellsOf_info hi, hco] at hzl; rw [← hzl, ← hcells]; simp
              have hd : SR C p s a w.drew := h.below (w' := w.drew) ((Below.refl _ _).drew) (fun _ h => h) (fun _ h => .inl h) h.rb
              have hn := hd.newRow k hk0 (.arr e' sz' (es ++ ns)) rfl (grownCap w (m + ns.length) (p.γ k) e') hcap
                (.cells (us.toArray ++ vs.toArray ++ Builtin.zeroCells z.cells (grownCap w (m + ns.length) (p.γ k) e' - (m + ns.length))) e') (fun p' ver' _ hβ hγ hk => by
                simp only [rowRel]
                rw [hγ]
                refine .inr ⟨_, _, hβ, heap_alloc_new w.drew _, ?_, by omega, ?_⟩
                · rw [Array.size_append, Array.size_append, size_zero, hzc, List.size_toArray, List.size_toArray, hlu, hlv, ← hm, ← Nat.add_mul, ← Nat.add_mul]
                  congr 1; omega
                · refine relE_of_vals (us := us ++ vs) hl2 ?_ (fun u hu => (List.mem_append.1 hu).elim (h1u u) (h1v u)) (fun j u hj => ?_)
                  · rw [List.flatten_append]
                    exact RV.relV_append (RV.relV_mono hk.R hk.cell _ _ (RV.relV_mono (w := w) (w' := w.drew) (fun _ h => h) (fun _ _ => rfl) _ _ hVu)) (RV.relV_mono hk.R hk.cell _ _ (RV.relV_mono (w := w) (w' := w.drew) (fun _ h => h) (fun _ _ => rfl) _ _ hVv))
                  · have hj2 := (List.getElem?_eq_some_iff.1 hj).1
                    rw [List.length_append] at hj2
                    rw [Nat.zero_add, add_at, Nat.zero_add, World.cell?_alloc_new, Array.getElem?_append_left (by simpa using hj2), List.append_toArray, List.getElem?_toArray]
                    exact hj)
              refine ⟨_, _, _, _, go (by rw [hv, hyv]; exact hr), .inl rfl, trivial, by rw [rows_one, hn2]; exact hn, ?_⟩
              rw [rows_one, hn2]
              simp only [AV.rel, vers, upd_same]
              exact ⟨Nat.le_refl _, fun _ => .inr ⟨_, _, rfl, by simp; rfl, by simpa using hge, fun _ => by simp⟩⟩
    · exact hp.elim
  · exact hp.elim

theorem relV_rep (W : World) (R : Nat → Prop) (zv : List Value) : ∀ q : Nat, RV.relV W R (List.replicate q (zv.map RV.ofV1)).flatten (List.replicate q zv).flatten
  | 0 => by simp [RV.relV]
  | q + 1 => by simp only [List.replicate_succ, List.flatten_cons]; exact RV.relV_append (RV.relV_ofV1 _ _ zv) (relV_rep W R zv q)
theorem good_appendZ {x y : Operand} {t t' : TypeId} (h : SR C p s a w) (ho : o.op = .call ⟨.builtin .append, #[x, y], #[t, t']⟩) (hp : (sAppendZ P s (o.dst.getD 0) t t' (s.ev x) (s.ev y)).pre) :
    Done P C o s a w (sAppendZ P s (o.dst.getD 0) t t' (s.ev x) (s.ev y)) := by
  unfold sAppendZ at hp ⊢
  split at hp
  · rename_i e esz eb ez _ _ _ kt _ _ _ k n e1 e2 e3 e4
    obtain ⟨hk, hn0, hpos, hb, hmax, hd0⟩ : k = .i64 ∧ 0 < n ∧ 0 < esz ∧ n.toNat * eb ≤ 140737488355328 ∧ n ≤ 9223372036854775807 ∧ o.dst.getD 0 < 1000 := hp
    obtain ⟨hu, hok, hcs, hby, zv, hzv, hez⟩ := tyq_slice e1
    obtain ⟨i, z, hi, hzero, hcells, hz1, hzl⟩ := zeroOf_spec hzv
    obtain ⟨A, hv⟩ := ev_ns h e3
    have hy := ev_it h e4
    obtain ⟨q, rfl⟩ := Int.eq_ofNat_of_zero_le (Int.le_of_lt hn0)
    simp only [Int.toNat_natCast] at hb ⊢
    rw [cellsOf_info hi] at hcs
    rw [bytesOf_info hi] at hby
    subst hcs hby
    have hq0 : 0 < q := by omega
    have hfc : (Builtin.firstCells i.size 0 (.slice A 0 0)).run P w.drew = .ok ([] : List Value).toArray w.drew := by
      cases A <;> simp [Builtin.firstCells, loadCells, loadCellsFrom]
    have hr := Go.Lib.run_append_grow_zeros w t t' o.type e i z k kt hu (tyq_int e2) hi hzero A 0 0 [] hfc q hq0 hpos (by omega) (by simpa using hmax) (by omega) (by
      exact growslice_fits (need := 0 + q) (old := 0) (by omega) (by simpa using hb))
    have hge := grownCap_ge w q 0 e
    have hcap := grownCap_le_maxLen w q 0 e (by simp only [maxLen]; omega)
    have hzc : z.cells.size = i.size := by rw [cellsOf_info hi] at hzl; rw [← hzl, ← hcells]; simp
    have hzl' : zv.length = i.size := by rw [hzl, cellsOf_info hi]
    have hdr : SR C p s a w.drew := h.below (w' := w.drew) ((Below.refl _ _).drew) (fun _ h => h) (fun _ h => .inl h) h.rb
    have hzlist : (Builtin.zeroCells z.cells q).toList = (List.replicate q zv).flatten := by
      show (madeCells z.cells (q * z.cells.size)).toList = _
      rw [madeCells_list, hcells]
    have hn := hdr.newRow (o.dst.getD 0) hd0 (.arr e i.size (List.replicate q ez)) rfl (grownCap w q 0 e) hcap (.cells (Builtin.zeroCells z.cells q ++ Builtin.zeroCells z.cells (grownCap w q 0 e - q)) e) (fun p' ver' _ hβ hγ hk => by
      simp only [rowRel]
      rw [hγ]
      refine .inr ⟨_, _, hβ, heap_alloc_new w.drew _, ?_, by simpa using hge, ?_⟩
      · rw [Array.size_append, size_zero, size_zero, hzc, ← Nat.add_mul]
        congr 1; omega
      · refine relE_of_vals (us := (List.replicate q zv).flatten) (fun e he => by rw [List.eq_of_mem_replicate he, hez, List.length_map, hzl']) ?_ ?_ (fun j u hj => ?_)
        · rw [hez]
          exact relV_rep _ _ zv q
        · intro u hu
          obtain ⟨l, hl, hul⟩ := List.mem_flatten.1 hu
          rw [List.eq_of_mem_replicate hl] at hul
          exact hz1 u hul
        · rw [add_at]
          simp only [Nat.zero_add, World.cell?_alloc_new]
          rw [Array.getElem?_append_left (by rw [← Array.length_toList, hzlist]; exact (List.getElem?_eq_some_iff.1 hj).1), ← Array.getElem?_toList, hzlist]
          exact hj)
    refine ⟨_, .slice (some ⟨w.heap.size, 0, none⟩) q (grownCap w q 0 e), _, _, ?_, .inl rfl, trivial, by rw [rows_one]; exact hn, ?_⟩
    · refine run_builtin_of ho ?_
      simp only [builtin, Sem.run_bind, List.map_toArray, List.map_cons, List.map_nil, hv, hy, hr, Result.andThen_ok, Sem.run_pure]
      simp
    · rw [rows_one]
      simp only [AV.rel, vers, upd_same]
      exact ⟨Nat.le_refl _, fun _ => .inr ⟨_, _, rfl, by simp; rfl, by simpa using hge, fun _ => by simp⟩⟩
  · exact hp.elim
theorem good_cap {x : Operand} {t : TypeId} (h : SR C p s a w) (ho : o.op = .call ⟨.builtin .cap, #[x], #[t]⟩) (hp : (sCap P t (s.ev x)).pre) : Done P C o s a w (sCap P t (s.ev x)) := by
  unfold sCap at hp ⊢
  split at hp
  · rename_i e esz eb ez _ _ _ e1 e2
    obtain ⟨hu, _⟩ := tyq_slice e1
    obtain ⟨A, hv⟩ := ev_ns h e2
    refine done_v h (v := .int .i64 0) (run_builtin_of ho ?_) (by simp [AV.rel, RV.rel])
    simp [builtin, Builtin.cap_, run_underlying hu, hv, goInt]
  · exact hp.elim
theorem good_clear {x : Operand} {t : TypeId} (h : SR C p s a w) (ho : o.op = .call ⟨.builtin .clear, #[x], #[t]⟩) (hp : (sClear P s t (s.ev x)).pre) : Done P C o s a w (sClear P s t (s.ev x)) := by
  unfold sClear at hp ⊢
  split at hp
  · rename_i e esz eb zr _ _ _ k n sz off m e1 e2
    split at hp
    · rename_i n' e' sz' es e5
      obtain ⟨hn, h1, h2, h3, he', hm, hle⟩ : n = n' ∧ esz = 1 ∧ sz = 1 ∧ sz' = 1 ∧ e' = e ∧ 0 < m ∧ off + m ≤ es.length := hp
      subst hn h1 h2 h3 he'
      have hn2 : n = (s.rows k).ver := by rw [e5]
      obtain ⟨hu, hok, hco, hby, zv, hzv, hez⟩ := tyq_slice e1
      obtain ⟨i, z, hi, hzero, hcells, hz1, hzl⟩ := zeroOf_spec hzv
      obtain ⟨u, hu1, hur⟩ : ∃ u, zv = [u] ∧ zr = RV.ofV1 u := by
        match zv, hez with
        | [u], hez => simp at hez; exact ⟨u, rfl, hez⟩
      subst hu1
      have hu1 : u.oneCell' = true := hz1 u (by simp)
      rcases ev_os h e2 (by rw [hn2]; rfl) with ⟨_, _, _, rfl, A, hv⟩ | ⟨b, A, hβ, hv, hle2, hA⟩
      · omega
      · obtain rfl := hA (.inl hm)
        obtain ⟨cells, hh, hfit, hset⟩ := set_row (m := off) (ns := List.replicate m [zr]) (vs := List.replicate m u) h (by rw [e5]) hβ (by simpa using hle) (by simp) (fun x hx => by rw [List.eq_of_mem_replicate hx]; rfl) (by
          rw [hur]
          clear hle hm hv hle2 hA e2
          induction m with
          | zero => simp [RV.relV]
          | succ m ih => simp only [List.replicate_succ, List.flatten_cons, List.singleton_append, RV.relV]; exact ⟨u, _, rfl, RV.rel_ofV1 w p.R u, ih⟩) (fun x hx => by rw [List.eq_of_mem_replicate hx]; exact hu1)
        simp only [List.length_replicate, Nat.mul_one] at hset hfit
        have hst := run_storeCells_at P b off e' (List.replicate m u) 0 cells w hh (by simpa using hfit) (fun x hx => by rw [List.eq_of_mem_replicate hx]; exact hu1)
        have hzlist : (Builtin.zeroCells z.cells m).toList = List.replicate m u := by
          show (madeCells z.cells (m * z.cells.size)).toList = _
          rw [madeCells_list, hcells]
          clear hle hm hv hle2 hA e2 hset hfit hst
          induction m with
          | zero => rfl
          | succ m ih => simp only [List.replicate_succ, List.flatten_cons, List.singleton_append, ih]
        have hrun : (Builtin.clear_ #[t] o.type #[.slice (some ⟨b, off * 1, none⟩) m (p.γ k - off)]).run P w = .ok (.tuple #[]) (w.setRow b (cells.toList.take off ++ List.replicate m u ++ cells.toList.drop (off + m)).toArray) := by
          obtain ⟨q, rfl⟩ : ∃ q, m = q + 1 := ⟨m - 1, by omega⟩
          have hz0 : (zeroValue e').run P w = .ok z w := by simp [zeroValue, typeInfo, hi, hzero]
          simp only [Nat.mul_one, Nat.add_zero, List.length_replicate] at hst ⊢
          simp [Builtin.clear_, run_underlying hu, hz0, hzlist, hst]
        have hn3 : (s.rows k).ver = n := hn2.symm
        rw [hn3] at hset
        refine ⟨.value (.tuple #[]), .tuple #[], w.setRow b (cells.toList.take off ++ List.replicate m u ++ cells.toList.drop (off + m)).toArray, p, run_builtin_of ho (by simp only [builtin, Sem.run_bind, List.map_toArray, List.map_cons, List.map_nil, hv, hrun, Result.andThen_ok, Sem.run_pure]), .inl rfl, trivial, by rw [rows_one]; simpa using hset, AV.rel_un _ _ _ _⟩
    · exact hp.elim
  · exact hp.elim
/-- **What 'step' says is what happens.** -/
theorem step_sound (h : SR C p s a w) (hp : (step P o s).pre) : Done P C o s a w (step P o s) := by
  unfold step at hp ⊢
  split at hp
  · rename_i e; exact good_move h e
  · rename_i e; exact good_assign h e
  · rename_i e; exact good_pick h e hp
  · rename_i e; exact good_bin h e hp
  · rename_i e; exact good_un h e hp
  · rename_i e; exact good_conv h e hp
  · rename_i e; exact good_load h e hp
  · rename_i e; exact good_store h e hp
  · rename_i e; exact good_box h e hp
  · rename_i e; exact good_alloc h e hp
  · rename_i e; exact good_field h e hp
  · rename_i e; exact good_fieldV h e hp
  · rename_i e; exact good_index h e hp
  · rename_i e; exact good_indexV h e hp
  · rename_i e; exact good_slice h e hp
  · rename_i e; exact good_build h e hp
  · rename_i e; exact good_buildSlice h e hp
  · rename_i e; exact good_makeSlice h e hp
  · rename_i e; exact good_makeFunc h e hp
  · rename_i e; exact good_extract h e hp
  · rename_i e; exact good_nil h e hp
  · rename_i e; exact good_makeMap h e hp
  · rename_i e; exact good_lookup h e hp
  · rename_i e; exact good_mapUpdate h e hp
  · rename_i e; exact good_range h e hp
  · rename_i e; exact good_entry h e hp
  · rename_i b args ts e
    unfold sBuiltin at hp ⊢
    split at hp
    · rename_i t x e2 e3
      obtain ⟨x', hx, hxe⟩ := arr1 e3
      obtain rfl : ts = #[t] := by cases ts; simpa using e2
      subst hx hxe
      exact good_len h e hp
    · exact good_min h e hp
    · exact good_max h e hp
    · rename_i t t' x y e2 e3
      obtain ⟨x', y', hx, hxe, hye⟩ := arr2 e3
      obtain rfl : ts = #[t, t'] := by cases ts; simpa using e2
      subst hx hxe hye
      by_cases htt : t = t'
      · rw [if_pos htt] at hp ⊢; exact good_append h e hp
      · rw [if_neg htt] at hp ⊢; exact good_appendZ h e hp
    · rename_i t x e2 e3
      obtain ⟨x', hx, hxe⟩ := arr1 e3
      obtain rfl : ts = #[t] := by cases ts; simpa using e2
      subst hx hxe
      exact good_cap h e hp
    · rename_i t x e2 e3
      obtain ⟨x', hx, hxe⟩ := arr1 e3
      obtain rfl : ts = #[t] := by cases ts; simpa using e2
      subst hx hxe
      exact good_clear h e hp
    · exact hp.elim
  · exact hp.elim
end
end Go.Oc
