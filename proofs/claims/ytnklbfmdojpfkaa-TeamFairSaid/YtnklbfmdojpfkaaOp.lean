/- Operations that are apart may be exchanged; the order of the text serves every order. -/
import Derived.Test.YtnklbfmdojpfkaaOo
namespace Go.Oc
open Go Go.RowKit

theorem cells_nr {ver : Nat → Nat} {d nv : Nat} {x : AV} {cs : List AV} (h : x.cells? ver = some cs) (hx : x.nr d nv) : AV.nrL d nv cs := by
  have one : ∀ y : AV, y.nr d nv → AV.nrL d nv [y] := fun y hy => by simp only [AV.nrL]; exact ⟨hy, trivial⟩
  unfold AV.cells? at h
  split at h
  · injection h with h; subst h; exact nr_map_r _ _ _
  · split at h
    · injection h with h; subst h; exact one _ hx
    · cases h
  · injection h with h; subst h; simpa only [AV.nr] using hx
  · cases h
  · injection h with h; subst h; exact one _ hx
  all_goals
    split at h
    · injection h with h; subst h; exact one _ hx
    · cases h

def okPair (ops : Array Oper) (x y : Oper) : Bool := x.apart ops y && ((cls x != 3 && cls y != 3) || cls x == 0 || cls y == 0)

section
variable {P : Program} {s : AS} {ops : Array Oper}

theorem NE.nr (h : NE s) {d nv : Nat} (hn : nv = s.ver d + 1 ∨ (nv = s.ver d ∧ (s.rows d).c = .dead)) : (∀ x : Operand, (s.ev x).nr d nv) ∧ ∀ k cs, (s.rows k).c = .box cs → AV.nrL d nv cs := by
  obtain ⟨C, p, a, w, hs⟩ := h
  have hn' : nv = s.ver d + 1 ∨ (nv = s.ver d ∧ p.β d = none ∧ p.γ d = 1) := by
    refine hn.imp id fun ⟨h1, h2⟩ => ⟨h1, ?_⟩
    have := hs.rw d
    rw [h2] at this
    simpa only [rowRel] using this
  refine ⟨fun x => rel_nr hn' _ _ (hs.ev x), fun k cs e => ?_⟩
  have := hs.rw k
  rw [e] at this
  simp only [rowRel] at this
  obtain ⟨b, cells, t, _, _, hV, _⟩ := this
  exact rel_nrL hn' _ _ hV

theorem wp_exists {o : Oper} {a : Act} {w : World} {K : Act → World → Prop} (h : o.wp P a w K (fun _ _ _ => False)) : ∃ a' w', K a' w' := by
  unfold Oper.wp at h
  cases hr : (execOp a.eval o).run P w with
  | ok n w' =>
    rw [hr] at h
    cases n <;> simp only [Oper.upon] at h
    case value v => exact ⟨_, _, h⟩
    case skip => exact ⟨_, _, h⟩
    case defer d => exact ⟨_, _, h⟩
    case enter f args =>
      obtain ⟨e, w'', fr, hR, _⟩ := h []
      cases e with
      | returned v => exact ⟨_, _, hR⟩
      | panicked c => exact hR.elim
      | outgrown => obtain ⟨_, _, hf⟩ := hR; exact hf.elim
    case row row args =>
      obtain ⟨v, w'', hR, _⟩ := h default []
      exact ⟨_, _, hR⟩
  | halt x w' =>
    rw [hr] at h
    cases x <;> simp only [Oper.upon] at h

theorem NE.app (h : NE s) {o : Oper} {y : Yi} (hy : YieldsA P ops o y s) (hd : ∀ t, o.dst = some t → t < s.n) : NE (s.app o.dst y) := by
  obtain ⟨C, p, a, w, hs⟩ := h
  rcases hy with ⟨_, hy, _⟩ | ⟨_, rfl⟩
  · obtain ⟨a', w', p', hs'⟩ := wp_exists (AY_sound (K := fun a' w' => ∃ p', SR C p' (s.app o.dst y) a' w') (Q := fun _ _ _ => False) hs hy hd fun a' w' p' h => ⟨p', h⟩)
    exact ⟨C, p', a', w', hs'⟩
  · exact ⟨C, p, _, w, hs.put' (av := .r .ud) (v := undef) (by simp only [AV.rel, RV.rel]) hd⟩

theorem app_rows (s : AS) (d : Option Nat) (y : Yi) : (s.app d y).rows = y.rows s.rows := by cases d <;> rfl
theorem app_tm (s : AS) (d : Option Nat) (y : Yi) : (s.app d y).tm = (match d with | some d => upd s.tm d y.av | none => s.tm) := by cases d <;> rfl
theorem AS.ext {s s' : AS} (h1 : s.n = s'.n) (h2 : s.tm = s'.tm) (h3 : s.rows = s'.rows) : s = s' := by
  cases s; cases s'; simp only at h1 h2 h3; subst h1 h2 h3; rfl
theorem upd_comm {α : Type} (f : Nat → α) {j k : Nat} (h : j ≠ k) (x y : α) : upd (upd f j x) k y = upd (upd f k y) j x := by
  funext i
  unfold upd
  by_cases h1 : i = k <;> by_cases h2 : i = j
  · exact absurd (h2.symm.trans h1) h
  · simp [h1, Ne.symm h]
  · simp [h2, h]
  · simp [h1, h2]

theorem cls_le (o : Oper) : cls o ≤ 3 := by
  unfold cls
  split <;> omega

/-- oi first or oj first, it comes to the same. -/
theorem exchange {oi oj : Oper} {y z : Yi} (hp : okPair ops oi oj = true) (hne : NE s) (hy : YieldsA P ops oi y s) (hz : YieldsA P ops oj z (s.app oi.dst y)) :
    YieldsA P ops oj z s ∧ YieldsA P ops oi y (s.app oj.dst z) ∧ (s.app oj.dst z).app oi.dst y = (s.app oi.dst y).app oj.dst z := by
  unfold okPair at hp
  simp only [Bool.and_eq_true] at hp
  obtain ⟨hap, hcls⟩ := hp
  have hcls : (cls oi ≠ 3 ∧ cls oj ≠ 3) ∨ cls oi = 0 ∨ cls oj = 0 := by simpa [or_assoc] using hcls
  obtain ⟨hap1, hap2, hap3⟩ := Oper.apart_spec hap
  -- what oi leaves
  have effi : (cls oi ≠ 2 → cls oi ≠ 3 → y.eff = []) ∧ (cls oi = 2 → y.eff = [] ∨ ∃ d c, oi.dst = some d ∧ y.eff = [(d, ⟨s.ver d + 1, c⟩)] ∧ ((s.rows d).c = .dead) ∧
      ∀ cs, c = .box cs → (∃ x : Operand, (s.ev x).cells? s.ver = some cs) ∨ ∃ z : List RV, cs = z.map .r) := by
    rcases hy with ⟨_, hy, hdead⟩ | ⟨_, rfl⟩
    · refine ⟨fun h2 h3 => ?_, fun h2 => ?_⟩
      · rcases AY_eff hy h3 with ⟨_, h⟩ | ⟨h, _⟩
        · exact h
        · exact absurd h h2
      · rcases AY_eff hy (by omega) with ⟨h, _⟩ | ⟨_, c, he, hbx⟩
        · exact absurd h2 h
        · obtain ⟨hd1, hd2⟩ := hdead h2
          obtain ⟨d, hd⟩ := Option.isSome_iff_exists.1 hd2
          rw [hd] at he hd1
          exact .inr ⟨d, c, hd, he, hd1, hbx⟩
    · exact ⟨fun _ _ => rfl, fun _ => .inl rfl⟩
  have wj : wantA ops (s.app oi.dst y) oj = wantA ops s oj := wantA_put hap1 _
  have wi : wantA ops (s.app oj.dst z) oi = wantA ops s oi := wantA_put hap3 _
  -- oj in the state ahead of oi
  have tmj : ∀ x ∈ oj.op.operands, (s.app oi.dst y).ev x = s.ev x := fun x hx => by
    show (AS.put { s with rows := y.rows s.rows } oi.dst y.av).ev x = s.ev x
    rw [ev_put (fun t ht e => hap1 t ht (by subst e; exact List.mem_append_left _ (List.mem_filterMap.2 ⟨.tmp t, by simpa using hx, rfl⟩)))]
    exact ev_rows x
  have hz' : YieldsA P ops oj z s := by
    rcases hz with ⟨hw, hz, hdead⟩ | ⟨hw, hz⟩
    · refine .inl ⟨by rw [← wj]; exact hw, ?_, ?_⟩
      · -- the slots
        have h1 : AY P oj { s with rows := y.rows s.rows } z := AY_congr (s := s.app oi.dst y) (by rw [app_rows]) (fun x hx => by rw [tmj x hx]; exact ev_rows x) hz
        -- the rows
        by_cases h0 : cls oj = 0
        · exact AY_cls0 (s := { s with rows := y.rows s.rows }) (rows := s.rows) h1 h0
        · by_cases h2 : cls oi = 2
          · rcases effi.2 h2 with he | ⟨d, c, hd, he, _, hbx⟩
            · have : y.rows s.rows = s.rows := by simp [Yi.rows, he]
              rw [this] at h1; exact h1
            · have hrows : y.rows s.rows = upd s.rows d ⟨s.ver d + 1, c⟩ := by simp [Yi.rows, he]
              rw [hrows] at h1
              obtain ⟨hnr, hbox⟩ := hne.nr (d := d) (nv := s.ver d + 1) (.inl rfl)
              have hcj : cls oj ≠ 3 := by rcases hcls with ⟨_, h⟩ | h | h <;> omega
              refine AY_indep (s := { s with rows := upd s.rows d ⟨s.ver d + 1, c⟩ }) (rows' := s.rows) (d := d) (fun k hk => (upd_other _ _ hk).symm) (fun x => ?_) (fun k cs hk => ?_) hcj (fun hc2 => ?_) h1
              · rw [ev_rows]; simp only [upd_same]; exact hnr x
              · simp only [upd_same]
                by_cases e : k = d
                · subst e
                  simp only [upd_same] at hk
                  rcases hbx cs hk with ⟨x, hx⟩ | ⟨zs, rfl⟩
                  · exact cells_nr hx (hnr x)
                  · exact nr_map_r _ _ _
                · simp only [upd_other _ _ e] at hk
                  exact hbox k cs hk
              · intro e
                obtain ⟨_, hs2⟩ := hdead hc2
                obtain ⟨d', hd'⟩ := Option.isSome_iff_exists.1 hs2
                rw [hd'] at e
                simp only [Option.getD_some] at e
                exact hap2 d hd (by rw [hd', e])
          · have : y.rows s.rows = s.rows := by
              have hc3 : cls oi ≠ 3 := by rcases hcls with ⟨h, _⟩ | h | h <;> omega
              simp [Yi.rows, effi.1 h2 hc3]
            rw [this] at h1; exact h1
      · intro hc2
        obtain ⟨h1, h2⟩ := hdead hc2
        refine ⟨?_, h2⟩
        rw [app_rows] at h1
        obtain ⟨d', hd'⟩ := Option.isSome_iff_exists.1 h2
        rw [hd'] at h1 ⊢
        simp only [Option.getD_some] at h1 ⊢
        by_cases hi2 : cls oi = 2
        · rcases effi.2 hi2 with he | ⟨d, c, hd, he, _⟩
          · simpa [Yi.rows, he] using h1
          · have : d' ≠ d := fun e => hap2 d hd (by rw [hd', e])
            simpa [Yi.rows, he, upd_other _ _ this] using h1
        · have hc3 : cls oi ≠ 3 := by rcases hcls with ⟨h, _⟩ | h | h <;> omega
          simpa [Yi.rows, effi.1 hi2 hc3] using h1
    · exact .inr ⟨by rw [← wj]; exact hw, hz⟩
  -- what oj leaves
  have effj : (cls oj ≠ 2 → cls oj ≠ 3 → z.eff = []) ∧ (cls oj = 2 → z.eff = [] ∨ ∃ d c, oj.dst = some d ∧ z.eff = [(d, ⟨s.ver d + 1, c⟩)] ∧ ((s.rows d).c = .dead)) := by
    rcases hz' with ⟨_, hz, hdead⟩ | ⟨_, rfl⟩
    · refine ⟨fun h2 h3 => ?_, fun h2 => ?_⟩
      · rcases AY_eff hz h3 with ⟨_, h⟩ | ⟨h, _⟩
        · exact h
        · exact absurd h h2
      · rcases AY_eff hz (by omega) with ⟨h, _⟩ | ⟨_, c, he, _⟩
        · exact absurd h2 h
        · obtain ⟨hd1, hd2⟩ := hdead h2
          obtain ⟨d, hd⟩ := Option.isSome_iff_exists.1 hd2
          rw [hd] at he hd1
          exact .inr ⟨d, c, hd, he, hd1⟩
    · exact ⟨fun _ _ => rfl, fun _ => .inl rfl⟩
  refine ⟨hz', ?_, ?_⟩
  · -- oi in the state behind oj
    rcases hy with ⟨hw, hy, hdead⟩ | ⟨hw, hy⟩
    · refine .inl ⟨by rw [wi]; exact hw, ?_, ?_⟩
      · have tmi : ∀ x ∈ oi.op.operands, (s.app oj.dst z).ev x = s.ev x := fun x hx => by
          show (AS.put { s with rows := z.rows s.rows } oj.dst z.av).ev x = s.ev x
          rw [ev_put (fun t ht e => hap3 t ht (by subst e; exact List.mem_append_left _ (List.mem_filterMap.2 ⟨.tmp t, by simpa using hx, rfl⟩)))]
          exact ev_rows x
        have h1 : AY P oi { s with rows := z.rows s.rows } y := by
          by_cases h0 : cls oi = 0
          · exact AY_cls0 hy h0
          · by_cases h2 : cls oj = 2
            · rcases effj.2 h2 with he | ⟨d, c, hd, he, hdd⟩
              · have : z.rows s.rows = s.rows := by simp [Yi.rows, he]
                rw [this]; exact hy
              · have hrows : z.rows s.rows = upd s.rows d ⟨s.ver d + 1, c⟩ := by simp [Yi.rows, he]
                rw [hrows]
                obtain ⟨hnr, hbox⟩ := hne.nr (d := d) (nv := s.ver d) (.inr ⟨rfl, hdd⟩)
                have hci : cls oi ≠ 3 := by rcases hcls with ⟨h, _⟩ | h | h <;> omega
                refine AY_indep (d := d) (fun k hk => upd_other _ _ hk) hnr hbox hci (fun hc2 e => ?_) hy
                obtain ⟨_, hs2⟩ := hdead hc2
                obtain ⟨d', hd'⟩ := Option.isSome_iff_exists.1 hs2
                rw [hd'] at e
                simp only [Option.getD_some] at e
                exact hap2 d' hd' (by rw [hd, e])
            · have hc3 : cls oj ≠ 3 := by rcases hcls with ⟨_, h⟩ | h | h <;> omega
              have : z.rows s.rows = s.rows := by simp [Yi.rows, effj.1 h2 hc3]
              rw [this]; exact hy
        exact AY_congr (s := { s with rows := z.rows s.rows }) (by rw [app_rows]) (fun x hx => by rw [tmi x hx]; exact (ev_rows x).symm) h1
      · intro hc2
        obtain ⟨h1, h2⟩ := hdead hc2
        refine ⟨?_, h2⟩
        rw [app_rows]
        obtain ⟨d', hd'⟩ := Option.isSome_iff_exists.1 h2
        rw [hd'] at h1 ⊢
        simp only [Option.getD_some] at h1 ⊢
        by_cases hj2 : cls oj = 2
        · rcases effj.2 hj2 with he | ⟨d, c, hd, he, _⟩
          · simpa [Yi.rows, he] using h1
          · have : d' ≠ d := fun e => hap2 d' hd' (by rw [hd, e])
            simpa [Yi.rows, he, upd_other _ _ this] using h1
        · have hc3 : cls oj ≠ 3 := by rcases hcls with ⟨_, h⟩ | h | h <;> omega
          simpa [Yi.rows, effj.1 hj2 hc3] using h1
    · exact .inr ⟨by rw [wi]; exact hw, hy⟩
  · -- the states
    refine AS.ext (by simp only [app_n]) ?_ ?_
    · rw [app_tm, app_tm, app_tm, app_tm]
      cases hi : oi.dst with
      | none => cases oj.dst <;> rfl
      | some d =>
        cases hj : oj.dst with
        | none => rfl
        | some d' =>
          have : d ≠ d' := fun e => hap2 d hi (by rw [hj, e])
          exact upd_comm _ (Ne.symm this) _ _
    · rw [app_rows, app_rows, app_rows, app_rows]
      by_cases hi : y.eff = []
      · simp [Yi.rows, hi]
      · by_cases hj : z.eff = []
        · simp [Yi.rows, hj]
        · have hi2 : cls oi = 2 := by
            refine Decidable.byContradiction fun h2 => hi ?_
            by_cases h3 : cls oi = 3
            · have hj0 : cls oj = 0 := by rcases hcls with ⟨h, _⟩ | h | h <;> omega
              exact absurd (effj.1 (by omega) (by omega)) hj
            · exact effi.1 h2 h3
          have hj2 : cls oj = 2 := by
            refine Decidable.byContradiction fun h2 => hj ?_
            by_cases h3 : cls oj = 3
            · rcases hcls with ⟨_, h⟩ | h | h <;> omega
            · exact effj.1 h2 h3
          rcases effi.2 hi2 with h | ⟨d, c, hd, he, _⟩
          · exact absurd h hi
          · rcases effj.2 hj2 with h | ⟨d', c', hd', he', _⟩
            · exact absurd h hj
            · have : d ≠ d' := fun e => hap2 d hd (by rw [hd', e])
              simp only [Yi.rows, he, he', List.foldl_cons, List.foldl_nil]
              exact upd_comm _ (Ne.symm this) _ _

/-! ### The order of the text -/
def deps (ops : Array Oper) (j : Nat) : List Nat :=
  match ops[j]? with
  | some o => (o.after.toList.filter (Region.binds .any ·)).map (·.on)
  | none => []
/-- Operation j waits for operation i. -/
def waits (ops : Array Oper) : Nat → Nat → Nat → Bool
  | 0, _, _ => false
  | n + 1, j, i => (deps ops j).any fun e => e == i || waits ops n e i
def lexOk (ops : Array Oper) : Bool :=
  (List.range ops.size).all fun i => (deps ops i).all (fun e => decide (e < i)) &&
    (List.range ops.size).all fun j => !decide (i < j) || waits ops ops.size j i ||
      (match ops[i]?, ops[j]? with | some x, some y => okPair ops x y | _, _ => true)
/-- What is listed waits for nothing that is not. -/
def down (ops : Array Oper) (listed : Array Bool) : Prop := ∀ j, listed.getD j false = true → ∀ e ∈ deps ops j, listed.getD e false = true

theorem ready_deps {listed : Array Bool} {j : Nat} (h : j ∈ Region.ready .any ops listed) : ∀ e ∈ deps ops j, listed.getD e false = true := by
  obtain ⟨_, o, ho, hall⟩ := mem_ready.1 h
  intro e he
  unfold deps at he
  rw [ho] at he
  obtain ⟨x, hx, rfl⟩ := List.mem_map.1 he
  obtain ⟨hx1, hx2⟩ := List.mem_filter.1 hx
  exact hall x (by simpa using hx1) hx2
theorem down_set {listed : Array Bool} {j : Nat} (hd : down ops listed) (h : j ∈ Region.ready .any ops listed) : down ops (listed.setIfInBounds j true) := by
  intro k hk e he
  by_cases hkj : k = j
  · subst hkj; exact getD_set_true (ready_deps h e he)
  · refine getD_set_true (hd k ?_ e he)
    rw [getD_set_ne false (Ne.symm hkj)] at hk; exact hk
theorem waits_listed {listed : Array Bool} (hd : down ops listed) : ∀ (n j i : Nat), (∀ e ∈ deps ops j, listed.getD e false = true) → waits ops n j i = true → listed.getD i false = true
  | 0, _, _, _, h => by simp [waits] at h
  | n + 1, j, i, hj, h => by
    simp only [waits, List.any_eq_true, Bool.or_eq_true, beq_iff_eq] at h
    obtain ⟨e, he, h | h⟩ := h
    · subst h; exact hj e he
    · exact waits_listed hd n e i (hd e (hj e he)) h

theorem qA_mono {i : Nat} {K K' : AS → Prop} (hK : ∀ s, K s → K' s) (h : qA P ops i K s) : qA P ops i K' s := by
  unfold qA at h ⊢
  split at h
  · exact hK _ h
  · obtain ⟨y, hy, h⟩ := h; exact ⟨y, hy, hK _ h⟩

theorem anyA_first {Q : AS → Prop} {n i : Nat} {oi : Oper} {y : Yi} (hi : ops[i]? = some oi) (hdst : dstOk ops n = true) : ∀ (fuel : Nat) (listed : Array Bool) (s : AS), s.n = n → NE s → down ops listed →
    (∀ j oj, ops[j]? = some oj → j ≠ i → listed.getD j true = false → waits ops ops.size j i = false → okPair ops oi oj = true) →
    i ∈ Region.ready .any ops listed → YieldsA P ops oi y s → anyA P ops Q fuel (listed.setIfInBounds i true) (s.app oi.dst y) → anyA P ops Q (fuel + 1) listed s := by
  intro fuel
  induction fuel with
  | zero =>
    intro listed s hn hne hdown _ hr hy H
    refine ⟨fun h => (by rw [h] at hr; cases hr), fun j hj => ?_⟩
    by_cases hji : j = i
    · subst hji; unfold qA; rw [hi]; exact ⟨y, hy, H⟩
    · have := ready_mono hj hji
      rw [H.1] at this
      cases this
  | succ fuel ih =>
    intro listed s hn hne hdown hfree hr hy H
    refine ⟨fun h => (by rw [h] at hr; cases hr), fun j hj => ?_⟩
    by_cases hji : j = i
    · subst hji; unfold qA; rw [hi]; exact ⟨y, hy, H⟩
    · have h1 := H.2 j (ready_mono hj hji)
      obtain ⟨hjun, oj, hoj, _⟩ := mem_ready.1 hj
      have hjun' : listed.getD j true = false := hjun
      have hnw : waits ops ops.size j i = false := by
        refine Decidable.byContradiction fun hw => ?_
        have hw : waits ops ops.size j i = true := by simpa using hw
        have h2 := waits_listed hdown _ _ _ (ready_deps hj) hw
        have h3 := (mem_ready.1 hr).1
        rcases Nat.lt_or_ge i listed.size with h' | h'
        · simp [h'] at h2 h3; rw [h3] at h2; cases h2
        · simp [Array.getElem?_eq_none h'] at h2
      have hpair := hfree j oj hoj hji hjun' hnw
      unfold qA at h1 ⊢
      rw [hoj] at h1 ⊢
      obtain ⟨z, hz, hK⟩ := h1
      obtain ⟨hz', hy', heq⟩ := exchange hpair hne hy hz
      refine ⟨z, hz', ?_⟩
      refine ih (listed.setIfInBounds j true) (s.app oj.dst z) (by rw [app_n]; exact hn) (hne.app hz' (by rw [hn]; exact dstOk_get hdst hoj)) (down_set hdown hj) (fun k ok hk hki hun hno => ?_) (ready_mono hr (Ne.symm hji)) hy' ?_
      · refine hfree k ok hk hki ?_ hno
        by_cases hjk : j = k
        · subst hjk; exact hjun'
        · rw [getD_set_ne true hjk] at hun; exact hun
      · rw [Array.setIfInBounds_comm _ _ hji, heq]
        exact hK

/-- The walk in the order of the text. -/
def lexA (P : Program) (ops : Array Oper) (Q : AS → Prop) : List Oper → AS → Prop
  | [], s => Q s
  | o :: rest, s => ∃ y, YieldsA P ops o y s ∧ lexA P ops Q rest (s.app o.dst y)

theorem lexOk_spec (h : lexOk ops = true) {i : Nat} (hi : i < ops.size) : (∀ e ∈ deps ops i, e < i) ∧ ∀ j, i < j → j < ops.size → waits ops ops.size j i = false → ∀ x y, ops[i]? = some x → ops[j]? = some y → okPair ops x y = true := by
  unfold lexOk at h
  have := List.all_eq_true.1 h i (by simpa using hi)
  simp only [Bool.and_eq_true, List.all_eq_true, decide_eq_true_eq] at this
  refine ⟨this.1, fun j hij hj hw x y hx hy => ?_⟩
  have h2 := this.2 j (by simpa using hj)
  rw [hx, hy] at h2
  simpa [hij, hw] using h2

theorem anyA_lex {Q : AS → Prop} {n : Nat} (hB : lexOk ops = true) (hdst : dstOk ops n = true) : ∀ (l : List Oper) (k : Nat) (listed : Array Bool) (s : AS), (∀ j, l[j]? = ops[k + j]?) → k + l.length = ops.size → listed.size = ops.size →
    (∀ j, j < ops.size → listed.getD j false = decide (j < k)) → s.n = n → NE s → lexA P ops Q l s → anyA P ops Q l.length listed s
  | [], k, listed, s, _, hlen, hsz, hl, _, _, h => by
    refine ⟨?_, h⟩
    refine List.eq_nil_iff_forall_not_mem.2 fun j hj => ?_
    obtain ⟨h1, o, ho, _⟩ := mem_ready.1 hj
    have hj' : j < ops.size := (Array.getElem?_eq_some_iff.1 ho).1
    have h2 := hl j hj'
    simp only [List.length_nil, Nat.add_zero] at hlen
    have hjl : j < listed.size := by omega
    simp [hjl] at h1 h2
    rw [h1] at h2
    have : j < k := by omega
    simp [this] at h2
  | o :: l, k, listed, s, hlk, hlen, hsz, hl, hn, hne, h => by
    simp only [List.length_cons] at hlen
    have hk : k < ops.size := by omega
    have ho : ops[k]? = some o := by simpa using (hlk 0).symm
    obtain ⟨hdeps, hpairs⟩ := lexOk_spec hB hk
    obtain ⟨y, hy, hrest⟩ := h
    have hunk : listed.getD k false = false := by rw [hl k hk]; simp
    have hsame : ∀ j, j < ops.size → listed.getD j true = listed.getD j false := fun j hj => by
      have : j < listed.size := by omega
      simp [this]
    have hready : k ∈ Region.ready .any ops listed := by
      refine mem_ready.2 ⟨by rw [hsame k hk]; exact hunk, o, ho, fun e he hb => ?_⟩
      have : e.on < k := hdeps e.on (by unfold deps; rw [ho]; exact List.mem_map.2 ⟨e, List.mem_filter.2 ⟨by simpa using he, hb⟩, rfl⟩)
      rw [hl e.on (by omega)]; simpa using this
    have hdown : down ops listed := fun j hj e he => by
      by_cases hjs : j < ops.size
      · rw [hl j hjs] at hj
        have hjk : j < k := by simpa using hj
        have := (lexOk_spec hB hjs).1 e he
        rw [hl e (by omega)]; simp; omega
      · have : ¬ j < listed.size := by omega
        simp [Array.getElem?_eq_none (Nat.le_of_not_lt this)] at hj
    refine anyA_first ho hdst l.length listed s hn hne hdown (fun j oj hj hjk hun hw => ?_) hready hy ?_
    · have hj' : j < ops.size := (Array.getElem?_eq_some_iff.1 hj).1
      rw [hsame j hj', hl j hj'] at hun
      have : k < j := by simp at hun; omega
      exact hpairs j this hj' hw o oj ho hj
    · refine anyA_lex hB hdst l (k + 1) _ _ (fun j => by have := hlk (j + 1); simpa [Nat.add_assoc, Nat.add_comm 1 j] using this) (by omega) (by simpa using hsz) (fun j hj => ?_) (by rw [app_n]; exact hn) (hne.app hy (by rw [hn]; exact dstOk_get hdst ho)) hrest
      by_cases hjk : k = j
      · subst hjk
        have : k < listed.size := by omega
        simp [this]
      · rw [getD_set_ne false hjk, hl j hj]
        simp; omega

/-- **One walk in the order of the text serves every order.** -/
theorem region_draw {C : Ctx} {id : Nat} {a : Act} {w : World} {Q : AS → Prop} {Q' : Exit → Act → World → Prop} (hm : P.follows .mixedOrders = true) (hB : lexOk ops = true) (hd : dstOk ops s.n = true)
    (hs : SRel C s a w) (hQ : ∀ s a w, Q s → SRel C s a w → Q' .normal a w) (h : lexA P ops Q ops.toList s) : (Code.region id ops true).wp P Q' a w := by
  obtain ⟨p, hs⟩ := hs
  have hs' : SR C p s a { w with drawn := w.drawn + 1 } := hs.below (w' := w.drew) ((Below.refl _ _).drew) (fun _ h => h) (fun _ h => .inl h) hs.rb
  refine wp_region_any hm (anyA_sound hQ _ _ _ _ _ p hd ?_ hs')
  have := anyA_lex (n := s.n) hB hd ops.toList 0 (Array.replicate ops.size false) s (by simp) (by simp) (by simp) (fun j hj => by simp [hj]) rfl ⟨C, p, a, w, hs⟩ h
  simpa using this
end
end Go.Oc
