/- Each operation does what 'step' says: addresses, parts, literals. -/
import Derived.Test.YtnklbfmdojpfkaaOe
namespace Go.Oc
open Go Go.RowKit

section
variable {P : Program} {C : Ctx} {p : Plan} {s : AS} {a : Act} {w : World} {o : Oper}

theorem fields_get {fields : Array Field} {f : Nat} {x : Nat × Nat × Bool} (h : (fields.toList.map fun g => (g.offset, P.cellsOf g.type, aggOf P g.type))[f]? = some x) :
    ∃ g, fields[f]? = some g ∧ x = (g.offset, P.cellsOf g.type, aggOf P g.type) ∧ g ∈ fields.toList := by
  rw [List.getElem?_map] at h
  cases hg : fields.toList[f]? with
  | none => simp [hg] at h
  | some g =>
    simp [hg] at h
    exact ⟨g, by simpa using hg, h.symm, List.mem_of_getElem? hg⟩

theorem run_fieldAt {t : TypeId} {fields : Array Field} {f : Nat} {g : Field} (hu : P.underlying t = some (.struct fields)) (hf : fields[f]? = some g) (hok : okT P g.type = true) (hz : P.cellsOf g.type ≠ 0) (ad : Addr) :
    (Instr.fieldAt t (.pointer (some ad)) f).run P w = .ok (.pointer (some (ad.add g.offset))) w := by
  simp [Instr.fieldAt, run_underlying hu, hf, Instr.sureAddr, fieldPlace, run_sizeOf_ok hok, hz]

theorem good_field {t : TypeId} {x : Operand} {f : Nat} (h : SR C p s a w) (ho : o.op = .fieldAddr t x f) (hp : (sField P s t (s.ev x) f).pre) : Done P C o s a w (sField P s t (s.ev x) f) := by
  unfold sField at hp ⊢
  split at hp
  · rename_i fs sz agg z e1
    obtain ⟨fields, hu, hfs, hall⟩ := tyq_struct e1
    split at hp
    · rename_i off sz2 agg2 e2
      rw [hfs] at e2
      obtain ⟨g, hg, hx, hm⟩ := fields_get e2
      injection hx with hx1 hx2
      subst hx1
      obtain ⟨hok, hz⟩ := hall g hm
      split at hp
      · rename_i cs e3
        obtain ⟨ad, hv, hR, hC⟩ := ev_rp h e3
        refine done_v h (v := .pointer (some (ad.add g.offset))) (by simp [execOp, ho, hv, run_fieldAt hu hg hok hz]) ?_
        simp only [AV.rel, RV.rel]
        exact ⟨_, rfl, by rw [block_add]; exact hR, RV.relC_drop _ hC⟩
      · rename_i k n off e3
        obtain ⟨b, hβ, hv⟩ := ev_pt h e3 hp
        refine done_when h (v := .pointer (some ((⟨b, off, none⟩ : Addr).add g.offset))) (by simp [execOp, ho, hv, run_fieldAt hu hg hok hz]) ?_
        simp only [AV.rel, add_at]
        exact ⟨Nat.le_of_eq hp, fun _ => ⟨b, hβ, rfl⟩⟩
      · rename_i k n sz3 idx off e3
        obtain ⟨b, hβ, hv⟩ := ev_pe h e3 hp
        refine done_when h (v := .pointer (some ((⟨b, idx * sz3 + off, none⟩ : Addr).add g.offset))) (by simp [execOp, ho, hv, run_fieldAt hu hg hok hz]) ?_
        simp only [AV.rel, add_at]
        exact ⟨Nat.le_of_eq hp, fun _ => ⟨b, hβ, by simp [Nat.add_assoc]⟩⟩
      · exact hp.elim
    · exact hp.elim
  · exact hp.elim

theorem run_part {t : TypeId} {cs : Array Value} {off : Nat} (hok : okT P t = true) (hlen : off + (if aggOf P t then P.cellsOf t else 1) ≤ cs.size) :
    (part t cs off).run P w = .ok (if aggOf P t then .agg ((cs.toList.drop off).take (P.cellsOf t)).toArray else (cs.toList.drop off).headD undef) w := by
  unfold part
  simp only [Sem.run_bind, run_isAgg_ok hok, Result.andThen_ok]
  cases hA : aggOf P t
  · simp only [hA, Bool.false_eq_true, if_false] at hlen ⊢
    have : cs[off]? = some cs[off] := by simp [show off < cs.size by omega]
    rw [this]
    have h2 : cs.toList.drop off = cs[off] :: cs.toList.drop (off + 1) := by
      rw [List.drop_eq_getElem_cons (by simp; omega)]; simp
    rw [h2]
    rfl
  · simp only [hA, if_true] at hlen ⊢
    simp only [Sem.run_bind, run_sizeOf_ok hok, Result.andThen_ok, Sem.run_pure]
    congr 2
    apply Array.ext'
    simp

theorem rel_part {cs : AV} {off sz : Nat} {agg : Bool} {c : Prop} {v : Value} (hv : cs.rel w p s.ver v) (hp : (sPart cs off sz agg c).pre) :
    c ∧ ∃ vs : Array Value, v = .agg vs ∧ off + (if agg then sz else 1) ≤ vs.size ∧
      (sPart cs off sz agg c).y.av.rel w p s.ver (if agg then .agg ((vs.toList.drop off).take sz).toArray else (vs.toList.drop off).headD undef) ∧ (sPart cs off sz agg c).y.eff = [] ∧ (sPart cs off sz agg c).ass := by
  unfold sPart at hp ⊢
  split at hp
  · rename_i l
    obtain ⟨hc, hlen⟩ : c ∧ off + (if agg then sz else 1) ≤ l.length := hp
    simp only [AV.rel, RV.rel] at hv
    obtain ⟨vs, rfl, h1, hV⟩ := hv
    have hl := RV.relV_length hV
    simp only [Array.length_toList] at hl
    refine ⟨hc, vs, rfl, by omega, ?_, rfl, trivial⟩
    have hV' := RV.relV_drop off hV
    have hlen' : (if agg then sz else 1) ≤ (l.drop off).length := by rw [List.length_drop]; omega
    have h1' : ∀ u ∈ vs.toList.drop off, u.oneCell' = true := fun u hu => h1 u (List.mem_of_mem_drop hu)
    generalize vs.toList.drop off = us at hV' h1'
    generalize l.drop off = xs at hV' hlen'
    show AV.rel w p s.ver (.r _) _
    simp only [AV.rel]
    cases agg
    · simp only [Bool.false_eq_true, if_false] at hlen' ⊢
      match xs, hlen', hV' with
      | c :: xs, _, hV' =>
        simp only [RV.relV] at hV'
        obtain ⟨u, us', rfl, hc, _⟩ := hV'
        exact hc
    · simp only [if_true, RV.rel]
      exact ⟨_, rfl, fun u hu => h1' u (List.mem_of_mem_take hu), RV.relV_take sz hV'⟩
  · rename_i l
    obtain ⟨hc, hlen⟩ : c ∧ off + (if agg then sz else 1) ≤ l.length := hp
    simp only [AV.rel] at hv
    obtain ⟨vs, rfl, h1, hV⟩ := hv
    have hl := AV.relV_length hV
    simp only [Array.length_toList] at hl
    refine ⟨hc, vs, rfl, by omega, ?_, rfl, trivial⟩
    have hV' := AV.relV_drop off hV
    have hlen' : (if agg then sz else 1) ≤ (l.drop off).length := by rw [List.length_drop]; omega
    have h1' : ∀ u ∈ vs.toList.drop off, u.oneCell' = true := fun u hu => h1 u (List.mem_of_mem_drop hu)
    generalize vs.toList.drop off = us at hV' h1'
    generalize l.drop off = xs at hV' hlen'
    show AV.rel w p s.ver (if agg then _ else _) _
    cases agg
    · simp only [Bool.false_eq_true, if_false] at hlen' ⊢
      match xs, hlen', hV' with
      | c :: xs, _, hV' =>
        simp only [AV.relV] at hV'
        obtain ⟨u, us', rfl, hc, _⟩ := hV'
        exact hc
    · simp only [if_true, AV.rel]
      exact ⟨_, rfl, fun u hu => h1' u (List.mem_of_mem_take hu), AV.relV_take sz hV'⟩
  · exact hp.elim

theorem good_fieldV {t : TypeId} {x : Operand} {f : Nat} (h : SR C p s a w) (ho : o.op = .field t x f) (hp : (sFieldV P t (s.ev x) f).pre) : Done P C o s a w (sFieldV P t (s.ev x) f) := by
  unfold sFieldV at hp ⊢
  split at hp
  · rename_i fs sz agg z e1
    obtain ⟨fields, hu, hfs, hall⟩ := tyq_struct e1
    split at hp
    · rename_i off sz2 agg2 e2
      rw [hfs] at e2
      obtain ⟨g, hg, hx, hm⟩ := fields_get e2
      injection hx with hx1 hx2
      injection hx2 with hx2 hx3
      subst hx1 hx2 hx3
      obtain ⟨hok, hz⟩ := hall g hm
      obtain ⟨_, vs, hv, hlen, hrel, heff, hass⟩ := rel_part (h.ev x) hp
      refine done_of h ?_ heff hass hrel
      simp [execOp, ho, hv, Instr.field, run_underlying hu, hg, asAgg, run_part hok hlen]
    · exact hp.elim
  · exact hp.elim

theorem good_indexV {t : TypeId} {x i : Operand} (h : SR C p s a w) (ho : o.op = .index t x i) (hp : (sIndexV P t (s.ev x) (s.ev i)).pre) : Done P C o s a w (sIndexV P t (s.ev x) (s.ev i)) := by
  unfold sIndexV at hp ⊢
  split at hp
  · rename_i n esz eagg _ _ _ k j e1 e2
    obtain ⟨e, hu, hok, hsz, hagg⟩ := tyq_arr e1
    subst hsz hagg
    obtain ⟨hc, vs, hv, hlen, hrel, heff, hass⟩ := rel_part (h.ev x) hp
    refine done_of h ?_ heff hass hrel
    have hi := ev_it h e2
    have hj : (0 ≤ j ∧ j < (n : Int)) := hc
    simp [execOp, ho, hv, hi, Instr.index, asIntOf, run_underlying hu, hj, run_sizeOf_ok hok, run_part hok hlen]
  · exact hp.elim

theorem good_index {t : TypeId} {x i : Operand} (h : SR C p s a w) (ho : o.op = .indexAddr t x i) (hp : (sIndex P s t (s.ev x) (s.ev i)).pre) : Done P C o s a w (sIndex P s t (s.ev x) (s.ev i)) := by
  unfold sIndex at hp ⊢
  split at hp
  · rename_i e esz eb ez _ _ _ k j e1 e2
    obtain ⟨hu, hok, hsz, _, _⟩ := tyq_slice e1
    have hi := ev_it h e2
    split at hp
    · rename_i sz es e3
      obtain ⟨h1, h2, h3⟩ : sz = esz ∧ 0 ≤ j ∧ j < (es.length : Int) := hp
      subst h1
      obtain ⟨A, c, hv, _, _, hne⟩ := ev_sl h e3
      have hes : es ≠ [] := fun e => by subst e; simp at h3; omega
      obtain ⟨ad, rfl, hR, hE⟩ := hne hes
      obtain ⟨m, rfl⟩ := Int.eq_ofNat_of_zero_le h2
      have hm : m < es.length := by simpa using h3
      refine done_when h (v := .pointer (some (ad.add (m * sz)))) ?_ ?_
      · simp [execOp, ho, hv, hi, Instr.indexAt, asIntOf, run_underlying hu, run_sizeOf_ok hok, hsz, hm]
      · simp only [AV.rel, RV.rel, Int.toNat_natCast]
        refine ⟨_, rfl, by rw [block_add]; exact hR, ?_⟩
        have hx : es[m]? = some (es.getD m []) := by simp [List.getD, hm]
        exact RV.relC_base (m * sz) (by simpa using (RV.relE_get hE hx).2)
    · rename_i k' n sz off m e3
      obtain ⟨hn, h1, h2, h3⟩ : n = s.ver k' ∧ sz = esz ∧ 0 ≤ j ∧ j < (m : Int) := hp
      subst h1
      obtain ⟨q, rfl⟩ := Int.eq_ofNat_of_zero_le h2
      have hq : q < m := by simpa using h3
      rcases ev_os h e3 hn with ⟨_, _, _, hm, _⟩ | ⟨b, A, hβ, hv, _, hA⟩
      · omega
      · obtain rfl := hA (.inl (by omega))
        refine done_when h (v := .pointer (some ((⟨b, off * sz, none⟩ : Addr).add (q * sz)))) ?_ ?_
        · simp [execOp, ho, hv, hi, Instr.indexAt, asIntOf, run_underlying hu, run_sizeOf_ok hok, hsz, hq]
        · simp only [AV.rel, add_at, Int.toNat_natCast]
          exact ⟨Nat.le_of_eq hn, fun _ => ⟨b, hβ, by rw [Nat.add_mul]; rfl⟩⟩
    · exact hp.elim
  · rename_i n esz eagg _ _ _ k j e1 e2
    obtain ⟨e, hu, hok, hsz, _⟩ := tyq_arr e1
    have hi := ev_it h e2
    split at hp
    · rename_i cs e3
      obtain ⟨h2, h3⟩ : 0 ≤ j ∧ j < (n : Int) := hp
      obtain ⟨ad, hv, hR, hC⟩ := ev_rp h e3
      obtain ⟨m, rfl⟩ := Int.eq_ofNat_of_zero_le h2
      have hm : m < n := by simpa using h3
      refine done_when h (v := .pointer (some (ad.add (m * esz)))) ?_ ?_
      · simp [execOp, ho, hv, hi, Instr.indexAt, asIntOf, run_underlying hu, Instr.sureAddr, run_sizeOf_ok hok, hsz, hm]
      · simp only [AV.rel, RV.rel, Int.toNat_natCast]
        exact ⟨_, rfl, by rw [block_add]; exact hR, RV.relC_drop _ hC⟩
    · rename_i k' v off e3
      obtain ⟨hn, h2, h3⟩ : v = s.ver k' ∧ 0 ≤ j ∧ j < (n : Int) := hp
      obtain ⟨b, hβ, hv⟩ := ev_pt h e3 hn
      obtain ⟨m, rfl⟩ := Int.eq_ofNat_of_zero_le h2
      have hm : m < n := by simpa using h3
      refine done_when h (v := .pointer (some ((⟨b, off, none⟩ : Addr).add (m * esz)))) ?_ ?_
      · simp [execOp, ho, hv, hi, Instr.indexAt, asIntOf, run_underlying hu, Instr.sureAddr, run_sizeOf_ok hok, hsz, hm]
      · simp only [AV.rel, add_at, Int.toNat_natCast]
        exact ⟨Nat.le_of_eq hn, fun _ => ⟨b, hβ, rfl⟩⟩
    · rename_i k' v sz idx off e3
      obtain ⟨hn, h2, h3⟩ : v = s.ver k' ∧ 0 ≤ j ∧ j < (n : Int) := hp
      obtain ⟨b, hβ, hv⟩ := ev_pe h e3 hn
      obtain ⟨m, rfl⟩ := Int.eq_ofNat_of_zero_le h2
      have hm : m < n := by simpa using h3
      refine done_when h (v := .pointer (some ((⟨b, idx * sz + off, none⟩ : Addr).add (m * esz)))) ?_ ?_
      · simp [execOp, ho, hv, hi, Instr.indexAt, asIntOf, run_underlying hu, Instr.sureAddr, run_sizeOf_ok hok, hsz, hm]
      · simp only [AV.rel, add_at, Int.toNat_natCast]
        exact ⟨Nat.le_of_eq hn, fun _ => ⟨b, hβ, by simp [Nat.add_assoc]⟩⟩
    · exact hp.elim
  · exact hp.elim

theorem good_nil {x : Operand} (h : SR C p s a w) (ho : o.op = .nilCheck x) (hp : (sNil s (s.ev x)).pre) : Done P C o s a w (sNil s (s.ev x)) := by
  unfold sNil at hp ⊢
  split at hp
  · rename_i cs e
    obtain ⟨ad, hv, hR, hC⟩ := ev_rp h e
    refine done_v h (v := .pointer (some ad)) (by simp [execOp, ho, hv]) ?_
    rw [← hv, ← e]; exact h.ev x
  · rename_i k n off e
    obtain ⟨b, hβ, hv⟩ := ev_pt h e hp
    refine done_when h (v := .pointer (some ⟨b, off, none⟩)) (by simp [execOp, ho, hv]) ?_
    rw [← hv, ← e]; exact h.ev x
  · rename_i k n sz idx off e
    obtain ⟨b, hβ, hv⟩ := ev_pe h e hp
    refine done_when h (v := .pointer (some ⟨b, idx * sz + off, none⟩)) (by simp [execOp, ho, hv]) ?_
    rw [← hv, ← e]; exact h.ev x
  · rename_i f cs e
    have hx := h.ev x
    rw [e] at hx
    simp only [AV.rel, RV.rel] at hx
    obtain ⟨vs, hv, hV⟩ := hx
    refine done_v h (v := .func (.func f) #[] vs) (by simp [execOp, ho, hv]) ?_
    rw [← hv, ← e]; exact h.ev x
  · rename_i f cs e
    have hx := h.ev x
    rw [e] at hx
    simp only [AV.rel] at hx
    obtain ⟨vs, hv, hV⟩ := hx
    refine done_v h (v := .func (.func f) #[] vs) (by simp [execOp, ho, hv]) ?_
    rw [← hv, ← e]; exact h.ev x
  · exact hp.elim

theorem good_extract {x : Operand} {i : Nat} (h : SR C p s a w) (ho : o.op = .extract x i) (hp : (sExtract (s.ev x) i).pre) : Done P C o s a w (sExtract (s.ev x) i) := by
  unfold sExtract at hp ⊢
  split at hp
  · rename_i vs e
    have hx := h.ev x
    rw [e] at hx
    simp only [AV.rel, RV.rel] at hx
    obtain ⟨us, hv, hV⟩ := hx
    split at hp
    · rename_i c e2
      obtain ⟨u, hu, hc⟩ := RV.relV_get hV e2
      simp only [Array.getElem?_toList] at hu
      exact done_v h (v := u) (by simp [execOp, ho, hv, Instr.extract, hu]) (by simpa only [AV.rel] using hc)
    · exact hp.elim
  · rename_i vs e
    have hx := h.ev x
    rw [e] at hx
    simp only [AV.rel] at hx
    obtain ⟨us, hv, hV⟩ := hx
    split at hp
    · rename_i c e2
      obtain ⟨u, hu, hc⟩ := AV.relV_get hV e2
      simp only [Array.getElem?_toList] at hu
      exact done_v h (v := u) (by simp [execOp, ho, hv, Instr.extract, hu]) hc
    · exact hp.elim
  · exact hp.elim

theorem relV_ev (h : SR C p s a w) : ∀ l : List Operand, AV.relV w p s.ver (l.map s.ev) (l.map a.eval)
  | [] => by simp [AV.relV]
  | x :: l => by simp only [List.map_cons, AV.relV]; exact ⟨_, _, rfl, h.ev x, relV_ev h l⟩

theorem good_makeFunc {f : FuncId} {first caps : Array Operand} (h : SR C p s a w) (ho : o.op = .makeFunc (.func f) first caps) (hp : (if first.isEmpty then Res.val (.fn f (caps.toList.map s.ev)) else .bad).pre) :
    Done P C o s a w (if first.isEmpty then Res.val (.fn f (caps.toList.map s.ev)) else .bad) := by
  split at hp
  · rename_i he
    rw [if_pos he]
    have hf : first = #[] := by simpa using he
    refine done_v h (v := .func (.func f) #[] (caps.map a.eval)) (by simp [execOp, ho, Instr.makeFunc, hf]) ?_
    simp only [AV.rel]
    refine ⟨_, rfl, ?_⟩
    rw [Array.toList_map]
    exact relV_ev h _
  · exact hp.elim
end
end Go.Oc
