/- Regions that draw their order, with stores: what is read lies in other rows than what is written. -/
import Derived.Test.YtnklbfmdojpfkaaOq
namespace Go.Oc
open Go Go.RowKit
set_option linter.unusedSimpArgs false
set_option linter.unusedVariables false
set_option linter.unnecessarySimpa false

def keyOf : AV → Option Nat
  | .pt k _ _ => some k
  | .pe k _ _ _ _ => some k
  | .os k _ _ _ _ => some k
  | .mp k _ => some k
  | .mi k _ => some k
  | _ => none
/-- What an operation looks at, if it only reads: it minds no other rows than those of these. -/
def reads (o : Oper) : Option (List Operand) :=
  match o.op with
  | .load _ a => some [a]
  | .fieldAddr _ x _ => some [x]
  | .indexAddr _ x _ => some [x]
  | .nilCheck x => some [x]
  | .slice _ x _ _ none => some [x]
  | .buildSlice _ _ ps => some (ps.toList.map (·.2))
  | .call ⟨.builtin .len, args, ts⟩ => match args.toList, ts.toList with | [x], [_] => some [x] | _, _ => none
  | _ => none
/-- What tells the row that an operation writes; and the row, if it is a new one. -/
def writes (o : Oper) : Option (Operand × Option Nat) :=
  match o.op with
  | .store _ a _ => some (a, none)
  | .call ⟨.builtin .append, args, ts⟩ => match args.toList, ts.toList with | [x, _], [t, t'] => if t = t' then some (x, some (o.dst.getD 0)) else none | _, _ => none
  | _ => none
def wrow (key : Option Nat) (d : Option Nat) : Option Nat := match key with | some k => some k | none => d

section
variable {P : Program} {s : AS} {ops : Array Oper}
theorem cells_set {r : Row} {k : Nat} {x : AV} (hk : keyOf x ≠ some k) : x.cells? (AS.ver { s with rows := upd s.rows k r }) = x.cells? s.ver := by
  have hv : ∀ j, j ≠ k → AS.ver { s with rows := upd s.rows k r } j = s.ver j := fun j hj => by
    show (upd s.rows k r j).ver = _
    rw [upd_other _ _ hj]; rfl
  cases x with
  | pt j n off => have : j ≠ k := fun e => hk (by rw [e]; rfl)
                  simp only [AV.cells?, hv j this]
  | pe j n sz i off => have : j ≠ k := fun e => hk (by rw [e]; rfl)
                       simp only [AV.cells?, hv j this]
  | os j n sz off m => have : j ≠ k := fun e => hk (by rw [e]; rfl)
                       simp only [AV.cells?, hv j this]
  | mp j n => have : j ≠ k := fun e => hk (by rw [e]; rfl)
              simp only [AV.cells?, hv j this]
  | mi j n => have : j ≠ k := fun e => hk (by rw [e]; rfl)
              simp only [AV.cells?, hv j this]
  | r v => cases v <;> rfl
  | _ => rfl
theorem layE_set {ver ver' : Nat → Nat} {esz : Nat} : ∀ (ps : List (Nat × AV)) (es : List (List RV)), (∀ p ∈ ps, p.2.cells? ver' = p.2.cells? ver) → layE ver' esz es ps = layE ver esz es ps
  | [], _, _ => rfl
  | (i, x) :: rest, es, h => by
    simp only [layE, h (i, x) (by simp)]
    split
    · split
      · exact layE_set rest _ fun p hp => h p (by simp [hp])
      · rfl
    · rfl
theorem reads_step {o : Oper} {xs : List Operand} (h : reads o = some xs) {k : Nat} (hk : ∀ x ∈ xs, keyOf (s.ev x) ≠ some k) (r : Row) : step P o { s with rows := upd s.rows k r } = step P o s := by
  have hev : ∀ y : Operand, AS.ev { s with rows := upd s.rows k r } y = s.ev y := fun y => ev_rows y
  have hver : ∀ j, j ≠ k → AS.ver { s with rows := upd s.rows k r } j = s.ver j := fun j hj => by
    show (upd s.rows k r j).ver = _
    rw [upd_other _ _ hj]; rfl
  unfold reads at h
  split at h <;> rename_i ho <;> first
    | (injection h with h; subst h)
    | (cases h; done)
    | skip
  · have hk := hk _ (List.mem_singleton.2 rfl)
    simp only [step, ho, hev]
    unfold sLoad
    split <;> first
      | rfl
      | (rename_i e; rw [e] at hk; simp only [keyOf, ne_eq, Option.some.injEq] at hk; simp only [upd_other _ _ hk])
  · have hk := hk _ (List.mem_singleton.2 rfl)
    simp only [step, ho, hev]
    unfold sField
    split
    · split
      · split <;> first
          | rfl
          | (rename_i e; rw [e] at hk; simp only [keyOf, ne_eq, Option.some.injEq] at hk; simp only [hver _ hk])
      · rfl
    · rfl
  · have hk := hk _ (List.mem_singleton.2 rfl)
    simp only [step, ho, hev]
    unfold sIndex
    split
    · split <;> first
        | rfl
        | (rename_i e; rw [e] at hk; simp only [keyOf, ne_eq, Option.some.injEq] at hk; simp only [hver _ hk])
    · split <;> first
        | rfl
        | (rename_i e; rw [e] at hk; simp only [keyOf, ne_eq, Option.some.injEq] at hk; simp only [hver _ hk])
    · rfl
  · have hk := hk _ (List.mem_singleton.2 rfl)
    simp only [step, ho, hev]
    unfold sNil
    split <;> first
      | rfl
      | (rename_i e; rw [e] at hk; simp only [keyOf, ne_eq, Option.some.injEq] at hk; simp only [hver _ hk])
  · have hk := hk _ (List.mem_singleton.2 rfl)
    have hb : ∀ lo : Option Operand, lo.map (AS.ev { s with rows := upd s.rows k r }) = lo.map s.ev := fun lo => by cases lo <;> simp [hev]
    simp only [step, ho, hev, hb, Option.map_none]
    unfold sSlice
    split
    · split <;> first
        | rfl
        | (rename_i e; rw [e] at hk; simp only [keyOf, ne_eq, Option.some.injEq] at hk; simp only [hver _ hk, upd_other _ _ hk])
    · rename_i e; cases e
    · rfl
  · rename_i t n ps
    simp only [step, ho]
    have hps : (ps.toList.map fun (x : Nat × Operand) => (x.1, AS.ev { s with rows := upd s.rows k r } x.2)) = ps.toList.map fun (x : Nat × Operand) => (x.1, s.ev x.2) := by
      simp only [hev]
    show sBuildSlice P _ t n (ps.toList.map fun (x : Nat × Operand) => (x.1, AS.ev { s with rows := upd s.rows k r } x.2)) = sBuildSlice P s t n (ps.toList.map fun (x : Nat × Operand) => (x.1, s.ev x.2))
    rw [hps]
    unfold sBuildSlice
    have hl : ∀ es ez, layE (AS.ver { s with rows := upd s.rows k r }) ez es (ps.toList.map fun (x : Nat × Operand) => (x.1, s.ev x.2)) = layE s.ver ez es (ps.toList.map fun (x : Nat × Operand) => (x.1, s.ev x.2)) := fun es ez => layE_set _ _ fun p hp => by
      obtain ⟨x, hx, rfl⟩ := List.mem_map.1 hp
      exact cells_set (hk x.2 (List.mem_map.2 ⟨x, hx, rfl⟩))
    simp only [hl]
  · split at h
    · rename_i x' t' hx ht
      injection h with h; subst h
      have hk := hk _ (List.mem_singleton.2 rfl)
      simp only [step, ho, hev, hx, ht, List.map_cons, List.map_nil, sBuiltin]
      unfold sLen
      split <;> first
        | rfl
        | (rename_i e; rw [e] at hk; simp only [keyOf, ne_eq, Option.some.injEq] at hk; simp only [upd_other _ _ hk, hver _ hk])
    · cases h
theorem reads_cls {o : Oper} {xs : List Operand} (h : reads o = some xs) : cls o = 1 := by
  unfold reads at h
  split at h <;> rename_i ho <;> first
    | (simp [cls, ho]; done)
    | (cases h; done)
theorem reads_AY {o : Oper} {xs : List Operand} (h : reads o = some xs) {y : Yi} : AY P o s y ↔ (step P o s).pre ∧ y = (step P o s).y := by
  unfold AY
  split
  · rename_i ho; simp [reads, ho] at h
  · rfl
theorem writes_cls {o : Oper} {a : Operand × Option Nat} (h : writes o = some a) : cls o = 3 := by
  unfold writes at h
  split at h <;> rename_i ho <;> first
    | (simp [cls, ho]; done)
    | (cases h; done)
theorem writes_eff {o : Oper} {a : Operand} {d : Option Nat} (h : writes o = some (a, d)) {y : Yi} (hy : AY P o s y) : ∃ k r, wrow (keyOf (s.ev a)) d = some k ∧ y.eff = [(k, r)] := by
  unfold writes at h
  split at h
  · rename_i t a' x ho
    injection h with h; injection h with h1 h2; subst h1; subst h2
    unfold AY at hy
    split at hy
    · rename_i ho'; rw [ho] at ho'; cases ho'
    · obtain ⟨hp, rfl⟩ := hy
      simp only [step, ho] at hp ⊢
      unfold sStore at hp ⊢
      split at hp
      · rename_i k n off xs _ e _
        split at hp
        · exact ⟨k, _, by rw [e]; rfl, rfl⟩
        · exact hp.elim
      · rename_i k n sz idx off xs _ e _
        split at hp
        · exact ⟨k, _, by rw [e]; rfl, rfl⟩
        · exact hp.elim
      · exact hp.elim
  · rename_i args ts ho
    split at h
    · rename_i x y' t t' hx ht
      split at h
      · rename_i htt
        injection h with h; injection h with h1 h2; subst h1; subst h2; subst htt
        unfold AY at hy
        split at hy
        · rename_i ho'; rw [ho] at ho'; cases ho'
        · obtain ⟨hp, rfl⟩ := hy
          simp only [step, ho, hx, ht, List.map_cons, List.map_nil, sBuiltin, if_true] at hp ⊢
          unfold sAppend at hp ⊢
          split at hp
          · rename_i _ _ e _
            exact ⟨o.dst.getD 0, _, by rw [e]; rfl, rfl⟩
          · rename_i k n sz0 off m _ _ _ _ e _
            split at hp
            · split
              · exact ⟨_, _, by rw [e]; rfl, rfl⟩
              · exact ⟨_, _, by rw [e]; rfl, rfl⟩
            · exact hp.elim
          · exact hp.elim
      · cases h
    · cases h
  · cases h

theorem reads_none {oi : Oper} {xs : List Operand} (hr : reads oi = some xs) {y : Yi} (hy : YieldsA P ops oi y s) : y.eff = [] := by
  have ci := reads_cls hr
  rcases hy with ⟨_, hy, _⟩ | ⟨_, rfl⟩
  · rcases AY_eff hy (by omega) with ⟨_, h⟩ | ⟨h, _⟩
    · exact h
    · omega
  · rfl
theorem writes_rows {oj : Oper} {a : Operand} {d : Option Nat} (hw : writes oj = some (a, d)) {k : Nat} (hka : wrow (keyOf (s.ev a)) d = some k) {z : Yi} (hz : YieldsA P ops oj z s) : ∃ r, z.rows s.rows = upd s.rows k r := by
  rcases hz with ⟨_, hz, _⟩ | ⟨_, rfl⟩
  · obtain ⟨k', r, h1, h2⟩ := writes_eff hw hz
    rw [hka] at h1
    injection h1 with h1; subst h1
    exact ⟨r, by simp [Yi.rows, h2]⟩
  · refine ⟨s.rows k, ?_⟩
    show s.rows = _
    exact (upd_self s.rows k).symm
theorem app_states {oi oj : Oper} {y z : Yi} (hap2 : ∀ d, oi.dst = some d → oj.dst ≠ some d) (h : y.eff = [] ∨ z.eff = []) : (s.app oj.dst z).app oi.dst y = (s.app oi.dst y).app oj.dst z := by
  refine AS.ext (by simp only [app_n]) ?_ ?_
  · rw [app_tm, app_tm, app_tm, app_tm]
    cases hi : oi.dst with
    | none => cases oj.dst <;> rfl
    | some d =>
      cases hj : oj.dst with
      | none => rfl
      | some d' =>
        have : d ≠ d' := fun e => hap2 d hi (by rw [hj, e])
        exact upd_comm _ (Ne.symm this) _ _
  · rw [app_rows, app_rows, app_rows, app_rows]
    rcases h with h | h <;> simp [Yi.rows, h]
/-- oi reads, oj writes elsewhere: either may be first. -/
theorem exchange2 {oi oj : Oper} {y z : Yi} {xs : List Operand} {a : Operand} {d : Option Nat} {k : Nat} (hap : oi.apart ops oj = true) (hr : reads oi = some xs) (hw : writes oj = some (a, d)) (hka : wrow (keyOf (s.ev a)) d = some k) (hkx : ∀ x ∈ xs, keyOf (s.ev x) ≠ some k)
    (hy : YieldsA P ops oi y s) (hz : YieldsA P ops oj z (s.app oi.dst y)) :
    YieldsA P ops oj z s ∧ YieldsA P ops oi y (s.app oj.dst z) ∧ (s.app oj.dst z).app oi.dst y = (s.app oi.dst y).app oj.dst z := by
  obtain ⟨hap1, hap2, hap3⟩ := Oper.apart_spec hap
  have ci := reads_cls hr
  have cj := writes_cls hw
  have wj : wantA ops (s.app oi.dst y) oj = wantA ops s oj := wantA_put hap1 _
  have wi : wantA ops (s.app oj.dst z) oi = wantA ops s oi := wantA_put hap3 _
  have hye := reads_none hr hy
  have hyr : y.rows s.rows = s.rows := by simp [Yi.rows, hye]
  have tmj : ∀ x ∈ oj.op.operands, (s.app oi.dst y).ev x = s.ev x := fun x hx => by
    show (AS.put { s with rows := y.rows s.rows } oi.dst y.av).ev x = s.ev x
    rw [ev_put (fun t ht e => hap1 t ht (by subst e; exact List.mem_append_left _ (List.mem_filterMap.2 ⟨.tmp t, by simpa using hx, rfl⟩)))]
    exact ev_rows x
  have hz' : YieldsA P ops oj z s := by
    rcases hz with ⟨hw', hz, hdead⟩ | ⟨hw', hz⟩
    · refine .inl ⟨by rw [← wj]; exact hw', ?_, fun h => by omega⟩
      exact AY_congr (s := s.app oi.dst y) (by rw [app_rows, hyr]) (fun x hx => (tmj x hx).symm) hz
    · exact .inr ⟨by rw [← wj]; exact hw', hz⟩
  obtain ⟨r, hzr⟩ := writes_rows hw hka hz'
  refine ⟨hz', ?_, app_states hap2 (.inl hye)⟩
  rcases hy with ⟨hw', hy, hdead⟩ | ⟨hw', hy⟩
  · refine .inl ⟨by rw [wi]; exact hw', ?_, fun h => by omega⟩
    have tmi : ∀ x ∈ oi.op.operands, (s.app oj.dst z).ev x = s.ev x := fun x hx => by
      show (AS.put { s with rows := z.rows s.rows } oj.dst z.av).ev x = s.ev x
      rw [ev_put (fun t ht e => hap3 t ht (by subst e; exact List.mem_append_left _ (List.mem_filterMap.2 ⟨.tmp t, by simpa using hx, rfl⟩)))]
      exact ev_rows x
    have h1 : AY P oi { s with rows := z.rows s.rows } y := by
      rw [hzr, reads_AY hr, reads_step hr hkx r, ← reads_AY hr]
      exact hy
    exact AY_congr (s := { s with rows := z.rows s.rows }) (by rw [app_rows]) (fun x hx => by rw [tmi x hx]; exact (ev_rows x).symm) h1
  · exact .inr ⟨by rw [wi]; exact hw', hy⟩
/-- oi writes, oj reads elsewhere: either may be first. -/
theorem exchange3 {oi oj : Oper} {y z : Yi} {xs : List Operand} {a : Operand} {d : Option Nat} {k : Nat} (hap : oi.apart ops oj = true) (hr : reads oj = some xs) (hw : writes oi = some (a, d)) (hka : wrow (keyOf (s.ev a)) d = some k) (hkx : ∀ x ∈ xs, keyOf (s.ev x) ≠ some k)
    (hy : YieldsA P ops oi y s) (hz : YieldsA P ops oj z (s.app oi.dst y)) :
    YieldsA P ops oj z s ∧ YieldsA P ops oi y (s.app oj.dst z) ∧ (s.app oj.dst z).app oi.dst y = (s.app oi.dst y).app oj.dst z := by
  obtain ⟨hap1, hap2, hap3⟩ := Oper.apart_spec hap
  have cj := reads_cls hr
  have ci := writes_cls hw
  have wj : wantA ops (s.app oi.dst y) oj = wantA ops s oj := wantA_put hap1 _
  have wi : wantA ops (s.app oj.dst z) oi = wantA ops s oi := wantA_put hap3 _
  have hze := reads_none hr hz
  obtain ⟨r, hyr⟩ := writes_rows hw hka hy
  have tmj : ∀ x ∈ oj.op.operands, (s.app oi.dst y).ev x = s.ev x := fun x hx => by
    show (AS.put { s with rows := y.rows s.rows } oi.dst y.av).ev x = s.ev x
    rw [ev_put (fun t ht e => hap1 t ht (by subst e; exact List.mem_append_left _ (List.mem_filterMap.2 ⟨.tmp t, by simpa using hx, rfl⟩)))]
    exact ev_rows x
  have hz' : YieldsA P ops oj z s := by
    rcases hz with ⟨hw', hz, hdead⟩ | ⟨hw', hz⟩
    · refine .inl ⟨by rw [← wj]; exact hw', ?_, fun h => by omega⟩
      have h1 : AY P oj { s with rows := y.rows s.rows } z := AY_congr (s := s.app oi.dst y) (by rw [app_rows]) (fun x hx => by rw [tmj x hx]; exact ev_rows x) hz
      rw [hyr, reads_AY hr, reads_step hr hkx r, ← reads_AY hr] at h1
      exact h1
    · exact .inr ⟨by rw [← wj]; exact hw', hz⟩
  refine ⟨hz', ?_, app_states hap2 (.inr hze)⟩
  rcases hy with ⟨hw', hy, hdead⟩ | ⟨hw', hy⟩
  · refine .inl ⟨by rw [wi]; exact hw', ?_, fun h => by omega⟩
    have tmi : ∀ x ∈ oi.op.operands, (s.app oj.dst z).ev x = s.ev x := fun x hx => by
      show (AS.put { s with rows := z.rows s.rows } oj.dst z.av).ev x = s.ev x
      rw [ev_put (fun t ht e => hap3 t ht (by subst e; exact List.mem_append_left _ (List.mem_filterMap.2 ⟨.tmp t, by simpa using hx, rfl⟩)))]
      exact ev_rows x
    have hzr : z.rows s.rows = s.rows := by simp [Yi.rows, hze]
    exact AY_congr (s := s) (by rw [app_rows, hzr]) (fun x hx => tmi x hx) hy
  · exact .inr ⟨by rw [wi]; exact hw', hy⟩
end

/-! ### What is made anew, and what is stored elsewhere -/
def makes (o : Oper) : Option Nat :=
  match o.op, o.dst with
  | .makeSlice _ _ _, some d => some d
  | .alloc _, some d => some d
  | _, _ => none
def stores (o : Oper) : Option (Operand × Operand) :=
  match o.op with
  | .store _ a x => some (a, x)
  | _ => none
section
variable {P : Program} {s : AS} {ops : Array Oper}
theorem makes_cls {o : Oper} {d : Nat} (h : makes o = some d) : cls o = 2 ∧ o.dst = some d := by
  unfold makes at h
  split at h
  · rename_i ho hd; injection h with h; subst h; exact ⟨by simp [cls, ho], hd⟩
  · rename_i ho hd; injection h with h; subst h; exact ⟨by simp [cls, ho], hd⟩
  · cases h
theorem stores_cls {o : Oper} {a x : Operand} (h : stores o = some (a, x)) : cls o = 3 := by
  unfold stores at h
  split at h
  · rename_i ho; simp [cls, ho]
  · cases h
theorem makes_step {o : Oper} {d k : Nat} (h : makes o = some d) (hk : k ≠ d) (r : Row) : step P o { s with rows := upd s.rows k r } = step P o s := by
  have hev : ∀ y : Operand, AS.ev { s with rows := upd s.rows k r } y = s.ev y := fun y => ev_rows y
  unfold makes at h
  split at h
  · rename_i ho hd
    injection h with h; subst h
    simp only [step, ho, hev, hd, Option.getD_some]
    unfold sMakeSlice
    simp only [upd_other _ _ (Ne.symm hk)]
  · rename_i ho hd
    injection h with h; subst h
    simp only [step, ho, hev, hd, Option.getD_some]
    unfold sAlloc
    simp only [upd_other _ _ (Ne.symm hk)]
  · cases h
theorem makes_AY {o : Oper} {d : Nat} (h : makes o = some d) {y : Yi} : AY P o s y ↔ (step P o s).pre ∧ y = (step P o s).y := by
  unfold AY
  split
  · rename_i ho; simp [makes, ho] at h
  · rfl
theorem makes_eff {o : Oper} {d : Nat} (h : makes o = some d) {y : Yi} (hy : AY P o s y) : ∃ r, y.eff = [(d, r)] := by
  obtain ⟨hp, rfl⟩ := (makes_AY h).1 hy
  unfold makes at h
  split at h
  · rename_i ho hd
    injection h with h; subst h
    simp only [step, ho, hd, Option.getD_some] at hp ⊢
    unfold sMakeSlice at hp ⊢
    (repeat' split at hp) <;> first | exact hp.elim | exact ⟨_, rfl⟩
  · rename_i ho hd
    injection h with h; subst h
    simp only [step, ho, hd, Option.getD_some] at hp ⊢
    unfold sAlloc at hp ⊢
    (repeat' split at hp) <;> first | exact hp.elim | exact ⟨_, rfl⟩
  · cases h
theorem stores_step {o : Oper} {a x : Operand} {d : Nat} (h : stores o = some (a, x)) (ha : keyOf (s.ev a) ≠ some d) (hx : keyOf (s.ev x) ≠ some d) (r : Row) : step P o { s with rows := upd s.rows d r } = step P o s := by
  have hev : ∀ y : Operand, AS.ev { s with rows := upd s.rows d r } y = s.ev y := fun y => ev_rows y
  unfold stores at h
  split at h
  · rename_i t a' x' ho
    injection h with h; injection h with h1 h2; subst h1; subst h2
    simp only [step, ho, hev]
    unfold sStore
    rw [cells_set hx]
    split <;> first
      | rfl
      | (rename_i e _; rw [e] at ha; simp only [keyOf, ne_eq, Option.some.injEq] at ha; simp only [upd_other _ _ ha])
  · cases h
theorem stores_AY {o : Oper} {a x : Operand} (h : stores o = some (a, x)) {y : Yi} : AY P o s y ↔ (step P o s).pre ∧ y = (step P o s).y := by
  unfold AY
  split
  · rename_i ho; simp [stores, ho] at h
  · rfl
theorem stores_eff {o : Oper} {a x : Operand} (h : stores o = some (a, x)) {y : Yi} (hy : AY P o s y) : ∃ k r, keyOf (s.ev a) = some k ∧ y.eff = [(k, r)] := by
  have hw : writes o = some (a, none) := by
    unfold stores at h
    split at h
    · rename_i ho
      injection h with h; injection h with h1 h2; subst h1
      simp [writes, ho]
    · cases h
  obtain ⟨k, r, h1, h2⟩ := writes_eff hw hy
  refine ⟨k, r, ?_, h2⟩
  cases hk : keyOf (s.ev a) with
  | none => rw [hk] at h1; simp [wrow] at h1
  | some k' => rw [hk] at h1; simpa [wrow] using h1
theorem makes_rows {o : Oper} {d : Nat} (h : makes o = some d) {y : Yi} (hy : YieldsA P ops o y s) : ∃ r, y.rows s.rows = upd s.rows d r ∧ (∀ f, y.rows f = upd f d r ∨ y.rows f = f) := by
  rcases hy with ⟨_, hy, _⟩ | ⟨_, rfl⟩
  · obtain ⟨r, h1⟩ := makes_eff h hy
    exact ⟨r, by simp [Yi.rows, h1], fun f => .inl (by simp [Yi.rows, h1])⟩
  · exact ⟨s.rows d, (upd_self s.rows d).symm, fun f => .inr rfl⟩
theorem stores_rows {o : Oper} {a x : Operand} {k : Nat} (h : stores o = some (a, x)) (hka : keyOf (s.ev a) = some k) {z : Yi} (hz : YieldsA P ops o z s) : ∃ r, z.rows s.rows = upd s.rows k r ∧ (∀ f, z.rows f = upd f k r ∨ z.rows f = f) := by
  rcases hz with ⟨_, hz, _⟩ | ⟨_, rfl⟩
  · obtain ⟨k', r, h1, h2⟩ := stores_eff h hz
    rw [hka] at h1
    injection h1 with h1; subst h1
    exact ⟨r, by simp [Yi.rows, h2], fun f => .inl (by simp [Yi.rows, h2])⟩
  · exact ⟨s.rows k, (upd_self s.rows k).symm, fun f => .inr rfl⟩
theorem eff_comm {y z : Yi} {d k : Nat} (hdk : d ≠ k) (hy : y.eff = [] ∨ ∃ r, y.eff = [(d, r)]) (hz : z.eff = [] ∨ ∃ r, z.eff = [(k, r)]) (f : Nat → Row) : y.rows (z.rows f) = z.rows (y.rows f) := by
  rcases hy with hy | ⟨r, hy⟩
  · simp [Yi.rows, hy]
  · rcases hz with hz | ⟨r', hz⟩
    · simp [Yi.rows, hz]
    · simp only [Yi.rows, hy, hz, List.foldl_cons, List.foldl_nil]
      exact upd_comm _ (Ne.symm hdk) _ _
theorem app_states3 {oi oj : Oper} {y z : Yi} (hap2 : ∀ d, oi.dst = some d → oj.dst ≠ some d) (h : y.rows (z.rows s.rows) = z.rows (y.rows s.rows)) : (s.app oj.dst z).app oi.dst y = (s.app oi.dst y).app oj.dst z := by
  refine AS.ext (by simp only [app_n]) ?_ ?_
  · rw [app_tm, app_tm, app_tm, app_tm]
    cases hi : oi.dst with
    | none => cases oj.dst <;> rfl
    | some d =>
      cases hj : oj.dst with
      | none => rfl
      | some d' =>
        have : d ≠ d' := fun e => hap2 d hi (by rw [hj, e])
        exact upd_comm _ (Ne.symm this) _ _
  · rw [app_rows, app_rows, app_rows, app_rows]
    exact h
theorem makes_effs {o : Oper} {d : Nat} (h : makes o = some d) {y : Yi} (hy : YieldsA P ops o y s) : y.eff = [] ∨ ∃ r, y.eff = [(d, r)] := by
  rcases hy with ⟨_, hy, _⟩ | ⟨_, rfl⟩
  · exact .inr (makes_eff h hy)
  · exact .inl rfl
theorem stores_effs {o : Oper} {a x : Operand} {k : Nat} (h : stores o = some (a, x)) (hka : keyOf (s.ev a) = some k) {z : Yi} (hz : YieldsA P ops o z s) : z.eff = [] ∨ ∃ r, z.eff = [(k, r)] := by
  rcases hz with ⟨_, hz, _⟩ | ⟨_, rfl⟩
  · obtain ⟨k', r, h1, h2⟩ := stores_eff h hz
    rw [hka] at h1
    injection h1 with h1; subst h1
    exact .inr ⟨r, h2⟩
  · exact .inl rfl
theorem rows_upd {y : Yi} {d : Nat} (hy : y.eff = [] ∨ ∃ r, y.eff = [(d, r)]) (f : Nat → Row) : ∃ r, y.rows f = upd f d r := by
  rcases hy with hy | ⟨r, hy⟩
  · exact ⟨f d, by rw [upd_self]; simp [Yi.rows, hy]⟩
  · exact ⟨r, by simp [Yi.rows, hy]⟩
/-- oi makes something new, oj stores elsewhere: either may be first. -/
theorem exchange4 {oi oj : Oper} {y z : Yi} {a x : Operand} {d k : Nat} (hap : oi.apart ops oj = true) (hr : makes oi = some d) (hw : stores oj = some (a, x)) (hka : keyOf (s.ev a) = some k) (hkd : k ≠ d) (hkx : keyOf (s.ev x) ≠ some d)
    (hy : YieldsA P ops oi y s) (hz : YieldsA P ops oj z (s.app oi.dst y)) :
    YieldsA P ops oj z s ∧ YieldsA P ops oi y (s.app oj.dst z) ∧ (s.app oj.dst z).app oi.dst y = (s.app oi.dst y).app oj.dst z := by
  obtain ⟨hap1, hap2, hap3⟩ := Oper.apart_spec hap
  have ci := (makes_cls hr).1
  have cj := stores_cls hw
  have wj : wantA ops (s.app oi.dst y) oj = wantA ops s oj := wantA_put hap1 _
  have wi : wantA ops (s.app oj.dst z) oi = wantA ops s oi := wantA_put hap3 _
  have ha : keyOf (s.ev a) ≠ some d := by rw [hka]; simpa using hkd
  have hye := makes_effs hr hy
  obtain ⟨r, hyr⟩ := rows_upd hye s.rows
  have tmj : ∀ x ∈ oj.op.operands, (s.app oi.dst y).ev x = s.ev x := fun x hx => by
    show (AS.put { s with rows := y.rows s.rows } oi.dst y.av).ev x = s.ev x
    rw [ev_put (fun t ht e => hap1 t ht (by subst e; exact List.mem_append_left _ (List.mem_filterMap.2 ⟨.tmp t, by simpa using hx, rfl⟩)))]
    exact ev_rows x
  have hz' : YieldsA P ops oj z s := by
    rcases hz with ⟨hw', hz, hdead⟩ | ⟨hw', hz⟩
    · refine .inl ⟨by rw [← wj]; exact hw', ?_, fun h => by omega⟩
      have h1 : AY P oj { s with rows := y.rows s.rows } z := AY_congr (s := s.app oi.dst y) (by rw [app_rows]) (fun x hx => by rw [tmj x hx]; exact ev_rows x) hz
      rw [hyr, stores_AY hw, stores_step hw ha hkx r, ← stores_AY hw] at h1
      exact h1
    · exact .inr ⟨by rw [← wj]; exact hw', hz⟩
  have hze := stores_effs hw hka hz'
  obtain ⟨r', hzr⟩ := rows_upd hze s.rows
  refine ⟨hz', ?_, app_states3 hap2 (eff_comm (Ne.symm hkd) hye hze _)⟩
  rcases hy with ⟨hw', hy, hdead⟩ | ⟨hw', hy⟩
  · refine .inl ⟨by rw [wi]; exact hw', ?_, fun h => ?_⟩
    · have tmi : ∀ x ∈ oi.op.operands, (s.app oj.dst z).ev x = s.ev x := fun x hx => by
        show (AS.put { s with rows := z.rows s.rows } oj.dst z.av).ev x = s.ev x
        rw [ev_put (fun t ht e => hap3 t ht (by subst e; exact List.mem_append_left _ (List.mem_filterMap.2 ⟨.tmp t, by simpa using hx, rfl⟩)))]
        exact ev_rows x
      have h1 : AY P oi { s with rows := z.rows s.rows } y := by
        rw [hzr, makes_AY hr, makes_step hr hkd r', ← makes_AY hr]
        exact hy
      exact AY_congr (s := { s with rows := z.rows s.rows }) (by rw [app_rows]) (fun x hx => by rw [tmi x hx]; exact (ev_rows x).symm) h1
    · obtain ⟨h1, h2⟩ := hdead h
      refine ⟨?_, h2⟩
      rw [(makes_cls hr).2, Option.getD_some] at h1 ⊢
      rw [app_rows, hzr, upd_other _ _ (Ne.symm hkd)]
      exact h1
  · exact .inr ⟨by rw [wi]; exact hw', hy⟩
/-- oi stores, oj makes something new: either may be first. -/
theorem exchange5 {oi oj : Oper} {y z : Yi} {a x : Operand} {d k : Nat} (hap : oi.apart ops oj = true) (hr : makes oj = some d) (hw : stores oi = some (a, x)) (hka : keyOf (s.ev a) = some k) (hkd : k ≠ d) (hkx : keyOf (s.ev x) ≠ some d)
    (hy : YieldsA P ops oi y s) (hz : YieldsA P ops oj z (s.app oi.dst y)) :
    YieldsA P ops oj z s ∧ YieldsA P ops oi y (s.app oj.dst z) ∧ (s.app oj.dst z).app oi.dst y = (s.app oi.dst y).app oj.dst z := by
  obtain ⟨hap1, hap2, hap3⟩ := Oper.apart_spec hap
  have cj := (makes_cls hr).1
  have ci := stores_cls hw
  have wj : wantA ops (s.app oi.dst y) oj = wantA ops s oj := wantA_put hap1 _
  have wi : wantA ops (s.app oj.dst z) oi = wantA ops s oi := wantA_put hap3 _
  have ha : keyOf (s.ev a) ≠ some d := by rw [hka]; simpa using hkd
  have hye := stores_effs hw hka hy
  obtain ⟨r, hyr⟩ := rows_upd hye s.rows
  have tmj : ∀ x ∈ oj.op.operands, (s.app oi.dst y).ev x = s.ev x := fun x hx => by
    show (AS.put { s with rows := y.rows s.rows } oi.dst y.av).ev x = s.ev x
    rw [ev_put (fun t ht e => hap1 t ht (by subst e; exact List.mem_append_left _ (List.mem_filterMap.2 ⟨.tmp t, by simpa using hx, rfl⟩)))]
    exact ev_rows x
  have hz' : YieldsA P ops oj z s := by
    rcases hz with ⟨hw', hz, hdead⟩ | ⟨hw', hz⟩
    · refine .inl ⟨by rw [← wj]; exact hw', ?_, fun h => ?_⟩
      · have h1 : AY P oj { s with rows := y.rows s.rows } z := AY_congr (s := s.app oi.dst y) (by rw [app_rows]) (fun x hx => by rw [tmj x hx]; exact ev_rows x) hz
        rw [hyr, makes_AY hr, makes_step hr hkd r, ← makes_AY hr] at h1
        exact h1
      · obtain ⟨h1, h2⟩ := hdead h
        refine ⟨?_, h2⟩
        rw [(makes_cls hr).2, Option.getD_some] at h1 ⊢
        rw [app_rows, hyr, upd_other _ _ (Ne.symm hkd)] at h1
        exact h1
    · exact .inr ⟨by rw [← wj]; exact hw', hz⟩
  have hze := makes_effs hr hz'
  obtain ⟨r', hzr⟩ := rows_upd hze s.rows
  refine ⟨hz', ?_, app_states3 hap2 (eff_comm hkd hye hze _)⟩
  rcases hy with ⟨hw', hy, hdead⟩ | ⟨hw', hy⟩
  · refine .inl ⟨by rw [wi]; exact hw', ?_, fun h => by omega⟩
    have tmi : ∀ x ∈ oi.op.operands, (s.app oj.dst z).ev x = s.ev x := fun x hx => by
      show (AS.put { s with rows := z.rows s.rows } oj.dst z.av).ev x = s.ev x
      rw [ev_put (fun t ht e => hap3 t ht (by subst e; exact List.mem_append_left _ (List.mem_filterMap.2 ⟨.tmp t, by simpa using hx, rfl⟩)))]
      exact ev_rows x
    have h1 : AY P oi { s with rows := z.rows s.rows } y := by
      rw [hzr, stores_AY hw, stores_step hw ha hkx r', ← stores_AY hw]
      exact hy
    exact AY_congr (s := { s with rows := z.rows s.rows }) (by rw [app_rows]) (fun x hx => by rw [tmi x hx]; exact (ev_rows x).symm) h1
  · exact .inr ⟨by rw [wi]; exact hw', hy⟩
end

/-! ### Where the slots of a region point to -/
def defAt : List Oper → Nat → Nat → Option Nat
  | [], _, _ => none
  | o :: l, i, t => if o.dst = some t then some i else defAt l (i + 1) t
/-- Where the slot is made. -/
def defOf (ops : Array Oper) (t : Nat) : Option Nat := defAt ops.toList 0 t
theorem defAt_spec {t : Nat} : ∀ {l : List Oper} {i j : Nat}, defAt l i t = some j → i ≤ j ∧ ∃ o, l[j - i]? = some o ∧ o.dst = some t
  | [], _, _, h => by simp [defAt] at h
  | o :: l, i, j, h => by
    unfold defAt at h
    split at h
    · rename_i e
      injection h with h; subst h
      exact ⟨Nat.le_refl _, o, by simp, e⟩
    · obtain ⟨h1, o', h2, h3⟩ := defAt_spec h
      refine ⟨by omega, o', ?_, h3⟩
      rw [show j - i = (j - (i + 1)) + 1 from by omega]
      simpa using h2
theorem defAt_none {t : Nat} : ∀ {l : List Oper} {i : Nat}, defAt l i t = none → ∀ o ∈ l, o.dst ≠ some t
  | [], _, _, o, ho => by simp at ho
  | o' :: l, i, h, o, ho => by
    unfold defAt at h
    split at h
    · cases h
    · rename_i e
      rcases List.mem_cons.1 ho with rfl | ho
      · exact e
      · exact defAt_none h o ho
theorem defOf_some {ops : Array Oper} {t j : Nat} (h : defOf ops t = some j) : ∃ o, ops[j]? = some o ∧ o.dst = some t := by
  obtain ⟨_, o, h1, h2⟩ := defAt_spec h
  exact ⟨o, by simpa using h1, h2⟩
theorem defOf_none {ops : Array Oper} {t j : Nat} {o : Oper} (h : defOf ops t = none) (ho : ops[j]? = some o) : o.dst ≠ some t := by
  obtain ⟨hi, rfl⟩ := Array.getElem?_eq_some_iff.1 ho
  exact defAt_none h _ (by simp)
def steady (o : Oper) : Option Operand :=
  if o.guard.isSome then none else
  match o.op with
  | .fieldAddr _ x _ => some x
  | .indexAddr _ x _ => some x
  | .nilCheck x => some x
  | .move x => some x
  | _ => none
/-- What is loaded from plain data is plain data. -/
def plainOf (o : Oper) : Option Operand :=
  if o.guard.isSome then none else
  match o.op with
  | .load _ a => some a
  | _ => none
/-- What it makes is plain data in any case. -/
def sure (o : Oper) : Bool := o.guard.isNone && (match o.op with | .buildSlice _ _ _ => true | .binOp .. => true | .build _ _ => true | _ => false)
def lookK : List (Nat × Option Nat) → Nat → Option (Option Nat)
  | [], _ => none
  | (t, k) :: l, u => if u = t then some k else lookK l u
/-- A new variable lies in the row of its slot. -/
def freshOf (o : Oper) : Option (Option Nat) := if o.guard.isSome then none else match o.op, o.dst with | .alloc _, some d => some (some d) | _, _ => none
/-- What an operation's result lies in: κ tells it of the slots as they were before. -/
def outKey (ops : Array Oper) (κ : List (Nat × Option Nat)) : Nat → Nat → Option (Option Nat)
  | 0, _ => none
  | n + 1, e =>
    let inKey (u : Nat) : Option (Option Nat) := match defOf ops u with
      | none => lookK κ u
      | some e' => if (deps ops e).contains e' then outKey ops κ n e' else if waits ops ops.size e' e then lookK κ u else none
    match ops[e]? with
    | some o => match steady o with
      | some (.tmp u) => inKey u
      | _ => match plainOf o with
        | some (.tmp u) => match inKey u with | some none => some none | _ => none
        | _ => if sure o then some none else freshOf o
    | none => none
/-- In which row a slot lies as operation j looks at it. -/
def inKey (ops : Array Oper) (κ : List (Nat × Option Nat)) (n j u : Nat) : Option (Option Nat) := match defOf ops u with
  | none => lookK κ u
  | some e => if (deps ops j).contains e then outKey ops κ n e else if waits ops ops.size e j then lookK κ u else none
/-- No slot of these lies in row k. -/
def clear (ops : Array Oper) (κ : List (Nat × Option Nat)) (j k : Nat) : List Operand → Bool
  | [] => true
  | .tmp t :: xs => (match inKey ops κ ops.size j t with | some k1 => k1 != some k | none => false) && clear ops κ j k xs
  | _ :: xs => clear ops κ j k xs
def wkey (ops : Array Oper) (κ : List (Nat × Option Nat)) (j : Nat) (a : Operand × Option Nat) : Option Nat :=
  match a.1 with
  | .tmp u => match inKey ops κ ops.size j u with | some key => wrow key a.2 | none => none
  | .const _ => a.2
  | _ => none
def rdOk (ops : Array Oper) (κ : List (Nat × Option Nat)) (i j : Nat) : Bool :=
  match ops[i]?, ops[j]? with
  | some x, some y =>
    x.apart ops y && (
      (match reads x, writes y with
      | some xs, some a => match wkey ops κ j a with | some k => clear ops κ i k xs | none => false
      | _, _ => false) ||
      (match writes x, reads y with
      | some a, some xs => match wkey ops κ i a with | some k => clear ops κ j k xs | none => false
      | _, _ => false) ||
      (match makes x, stores y with
      | some d, some (a, v) => (match wkey ops κ j (a, none) with | some k => decide (k ≠ d) && clear ops κ j d [v] | none => false)
      | _, _ => false) ||
      (match stores x, makes y with
      | some (a, v), some d => (match wkey ops κ i (a, none) with | some k => decide (k ≠ d) && clear ops κ i d [v] | none => false)
      | _, _ => false))
  | _, _ => false
def uniq : List Oper → Bool
  | [] => true
  | o :: l => (match o.dst with | some t => l.all fun o' => o'.dst != some t | none => true) && uniq l
def lexOk2 (ops : Array Oper) (κ : List (Nat × Option Nat)) : Bool :=
  uniq ops.toList &&
  (List.range ops.size).all fun i => (deps ops i).all (fun e => decide (e < i)) &&
    (List.range ops.size).all fun j => !decide (i < j) || waits ops ops.size j i ||
      (match ops[i]?, ops[j]? with | some x, some y => okPair ops x y | _, _ => true) || rdOk ops κ i j
def keysOk (κ : List (Nat × Option Nat)) (s : AS) : Prop := ∀ p ∈ κ, keyOf (s.tm p.1) = p.2

section
variable {P : Program} {s : AS} {ops : Array Oper} {κ : List (Nat × Option Nat)}
theorem lookK_mem : ∀ {l : List (Nat × Option Nat)} {t : Nat} {k : Option Nat}, lookK l t = some k → (t, k) ∈ l
  | [], _, _, h => by simp [lookK] at h
  | (u, k') :: l, t, k, h => by
    unfold lookK at h
    split at h
    · rename_i e; subst e; injection h with h; subst h; simp
    · simp [lookK_mem h]
theorem uniq_spec : ∀ {l : List Oper} {i j : Nat} {x y : Oper} {t : Nat}, uniq l = true → l[i]? = some x → l[j]? = some y → x.dst = some t → y.dst = some t → i = j
  | [], _, _, _, _, _, _, h, _, _, _ => by simp at h
  | o :: l, i, j, x, y, t, hu, hi, hj, hx, hy => by
    simp only [uniq, Bool.and_eq_true] at hu
    have one : ∀ {j : Nat} {x y : Oper}, x.dst = some t → o = x → l[j]? = some y → y.dst = some t → False := fun hx e hj hy => by
      subst e
      have h1 := hu.1
      rw [hx] at h1
      have := List.all_eq_true.1 h1 _ (List.mem_of_getElem? hj)
      simp [hy] at this
    cases i with
    | zero =>
      cases j with
      | zero => rfl
      | succ j =>
        simp only [List.getElem?_cons_zero, Option.some.injEq, List.getElem?_cons_succ] at hi hj
        exact (one hx hi hj hy).elim
    | succ i =>
      cases j with
      | zero =>
        simp only [List.getElem?_cons_zero, Option.some.injEq, List.getElem?_cons_succ] at hi hj
        exact (one hy hj hi hx).elim
      | succ j =>
        simp only [List.getElem?_cons_succ] at hi hj
        rw [uniq_spec hu.2 hi hj hx hy]
/-- Each slot whose row is told lies in it: before anything is made in it, and once it is made. -/
def Told (ops : Array Oper) (κ : List (Nat × Option Nat)) (listed : Array Bool) (s : AS) : Prop :=
  (∀ t k, lookK κ t = some k → (∀ e o, ops[e]? = some o → o.dst = some t → listed.getD e false = false) → keyOf (s.tm t) = k) ∧
  ∀ n e t k, defOf ops t = some e → listed.getD e false = true → outKey ops κ n e = some k → keyOf (s.tm t) = k
theorem told_start (h : keysOk κ s) {listed : Array Bool} (hl : ∀ j, j < ops.size → listed.getD j false = false) : Told ops κ listed s := ⟨fun t k hk _ => h _ (lookK_mem hk), fun n e t k hd hj _ => by
  obtain ⟨o, ho, _⟩ := defOf_some hd
  have : e < ops.size := (Array.getElem?_eq_some_iff.1 ho).1
  rw [hl e this] at hj; cases hj⟩
theorem told_in (hu : uniq ops.toList = true) {listed : Array Bool} (h : Told ops κ listed s) (hdown : down ops listed) {n j u : Nat} {k : Option Nat} (hr : j ∈ Region.ready .any ops listed) (hk : inKey ops κ n j u = some k) : keyOf (s.tm u) = k := by
  unfold inKey at hk
  split at hk
  · rename_i hd
    exact h.1 u k hk fun e o ho hdst => absurd hdst (defOf_none hd ho)
  · rename_i e hd
    split at hk
    · rename_i hc
      exact h.2 n e u k hd (ready_deps hr e (by simpa using hc)) hk
    · split at hk
      · rename_i hw
        refine h.1 u k hk fun e' o ho hdst => ?_
        obtain ⟨o', ho', hdst'⟩ := defOf_some hd
        have : e' = e := uniq_spec hu (by simpa using ho) (by simpa using ho') hdst hdst'
        subst this
        refine Bool.eq_false_iff.2 fun hl => ?_
        have h2 := waits_listed hdown _ _ _ (hdown _ hl) hw
        have h3 := (mem_ready.1 hr).1
        rcases Nat.lt_or_ge j listed.size with h' | h'
        · simp [h'] at h2 h3; rw [h3] at h2; cases h2
        · simp [Array.getElem?_eq_none h'] at h2
      · cases hk
theorem steady_key {o : Oper} {x : Operand} (h : steady o = some x) {y : Yi} (hy : AY P o s y) : keyOf y.av = keyOf (s.ev x) := by
  unfold steady at h
  split at h
  · cases h
  · unfold AY at hy
    split at h <;> rename_i ho <;> first
      | (injection h with h; subst h)
      | (cases h; done)
    all_goals
      split at hy
      · rename_i ho'; rw [ho] at ho'; cases ho'
      · obtain ⟨hp, rfl⟩ := hy
        simp only [step, ho] at hp ⊢
        first
          | (unfold sField at hp ⊢; (repeat' split at hp) <;> first | (simp only [*]; rfl) | exact hp.elim)
          | (unfold sIndex at hp ⊢; (repeat' split at hp) <;> first | (simp only [*]; rfl) | exact hp.elim)
          | (unfold sNil at hp ⊢; (repeat' split at hp) <;> first | (simp only [*]; rfl) | exact hp.elim)
          | rfl
theorem steady_guard {o : Oper} {x : Operand} (h : steady o = some x) : o.guard = none := by
  unfold steady at h
  split at h
  · cases h
  · rename_i hg; simpa using hg
theorem plain_guard {o : Oper} {x : Operand} (h : plainOf o = some x) : o.guard = none := by
  unfold plainOf at h
  split at h
  · cases h
  · rename_i hg; simpa using hg
theorem plain_key {o : Oper} {x : Operand} (h : plainOf o = some x) {y : Yi} (hx : keyOf (s.ev x) = none) (hy : AY P o s y) : keyOf y.av = none := by
  unfold plainOf at h
  split at h
  · cases h
  · unfold AY at hy
    split at h <;> rename_i ho <;> first
      | (injection h with h; subst h)
      | (cases h; done)
    split at hy
    · rename_i ho'; rw [ho] at ho'; cases ho'
    · obtain ⟨hp, rfl⟩ := hy
      simp only [step, ho] at hp ⊢
      unfold sLoad at hp ⊢
      split at hp
      · rfl
      · rename_i e; rw [e] at hx; cases hx
      · rename_i e; rw [e] at hx; cases hx
      · exact hp.elim
theorem sure_guard {o : Oper} (h : sure o = true) : o.guard = none := by
  simp only [sure, Bool.and_eq_true, Option.isNone_iff_eq_none] at h
  exact h.1
theorem fresh_guard {o : Oper} {k : Option Nat} (h : freshOf o = some k) : o.guard = none := by
  unfold freshOf at h
  split at h
  · cases h
  · rename_i hg; simpa using hg
theorem fresh_key {o : Oper} {k : Option Nat} (h : freshOf o = some k) {y : Yi} (hy : AY P o s y) : keyOf y.av = k := by
  unfold freshOf at h
  split at h
  · cases h
  · split at h
    · rename_i ho hd
      injection h with h
      subst h
      unfold AY at hy
      split at hy
      · rename_i ho'; rw [ho] at ho'; cases ho'
      · obtain ⟨hp, rfl⟩ := hy
        simp only [step, ho, hd, Option.getD_some] at hp ⊢
        unfold sAlloc at hp ⊢
        split
        · rfl
        · rename_i e; rw [e] at hp; exact hp.elim
    · cases h
theorem sure_key {o : Oper} (h : sure o = true) {y : Yi} (hy : AY P o s y) : keyOf y.av = none := by
  simp only [sure, Bool.and_eq_true] at h
  have h := h.2
  unfold AY at hy
  split at h
  · rename_i ho
    split at hy
    · rename_i ho'; rw [ho] at ho'; cases ho'
    · obtain ⟨hp, rfl⟩ := hy
      simp only [step, ho] at hp ⊢
      unfold sBuildSlice at hp ⊢
      split at hp
      · split
        · rfl
        · split
          · rfl
          · rfl
      · exact hp.elim
  · rename_i ho
    split at hy
    · rename_i ho'; rw [ho] at ho'; cases ho'
    · obtain ⟨hp, rfl⟩ := hy
      simp only [step, ho] at hp ⊢
      unfold sBin sEq at hp ⊢
      (repeat' split at hp) <;> first | rfl | exact hp.elim
  · rename_i ho
    split at hy
    · rename_i ho'; rw [ho] at ho'; cases ho'
    · obtain ⟨hp, rfl⟩ := hy
      simp only [step, ho] at hp ⊢
      unfold sBuild at hp ⊢
      (repeat' split at hp) <;> first | rfl | exact hp.elim
  · cases h
theorem told_step (hu : uniq ops.toList = true) {listed : Array Bool} (h : Told ops κ listed s) (hdown : down ops listed) {j : Nat} {o : Oper} (ho : ops[j]? = some o) (hr : j ∈ Region.ready .any ops listed) {y : Yi} (hy : YieldsA P ops o y s) :
    Told ops κ (listed.setIfInBounds j true) (s.app o.dst y) := by
  have htm : ∀ t, o.dst ≠ some t → (s.app o.dst y).tm t = s.tm t := fun t hne => by
    rw [app_tm]
    cases hod : o.dst with
    | none => rfl
    | some d => exact upd_other _ _ (fun e => hne (by rw [hod, e]))
  have hjl : j < listed.size := by
    refine Decidable.byContradiction fun hn => ?_
    have h3 := (mem_ready.1 hr).1
    simp [Array.getElem?_eq_none (Nat.le_of_not_lt hn)] at h3
  refine ⟨fun t k hk hno => ?_, fun n e t k hd he hk => ?_⟩
  · have hne : o.dst ≠ some t := fun e => by
      have := hno j o ho e
      simp [hjl] at this
    rw [htm t hne]
    refine h.1 t k hk fun e' o' ho' hd' => ?_
    have hej : j ≠ e' := fun e => by subst e; rw [ho] at ho'; injection ho' with ho'; subst ho'; exact hne hd'
    have := hno e' o' ho' hd'
    rwa [getD_set_ne false hej] at this
  · obtain ⟨o', ho', hdst⟩ := defOf_some hd
    by_cases hej : e = j
    · subst hej
      rw [ho] at ho'; injection ho' with ho'; subst ho'
      cases n with
      | zero => simp [outKey] at hk
      | succ n =>
        have hin : ∀ {u : Nat} {k : Option Nat}, inKey ops κ n e u = some k → keyOf (s.tm u) = k := fun hk => told_in hu h hdown hr hk
        have hk' : (match steady o with
            | some (.tmp u) => inKey ops κ n e u
            | _ => match plainOf o with
              | some (.tmp u) => match inKey ops κ n e u with | some none => some none | _ => none
              | _ => if sure o then some none else freshOf o) = some k := by
          unfold outKey at hk
          rw [ho] at hk
          exact hk
        clear hk
        rw [app_tm, hdst]
        show keyOf (upd s.tm t y.av t) = k
        rw [upd_same]
        split at hk'
        · rename_i u hs
          rcases hy with ⟨_, hy, _⟩ | ⟨hw, _⟩
          · rw [steady_key hs hy]; exact hin hk'
          · simp [wantA, steady_guard hs] at hw
        · split at hk'
          · rename_i u hs
            split at hk'
            · rename_i hu0
              injection hk' with hk'; subst hk'
              rcases hy with ⟨_, hy, _⟩ | ⟨hw, _⟩
              · exact plain_key hs (hin hu0) hy
              · simp [wantA, plain_guard hs] at hw
            · cases hk'
          · split at hk'
            · rename_i hsu
              injection hk' with hk'; subst hk'
              rcases hy with ⟨_, hy, _⟩ | ⟨hw, _⟩
              · exact sure_key hsu hy
              · simp [wantA, sure_guard hsu] at hw
            · rcases hy with ⟨_, hy, _⟩ | ⟨hw, _⟩
              · exact fresh_key hk' hy
              · simp [wantA, fresh_guard hk'] at hw
    · have hne : o.dst ≠ some t := fun hod => hej (uniq_spec hu (by simpa using ho') (by simpa using ho) hdst hod)
      rw [htm t hne]
      refine h.2 n e t k hd ?_ hk
      rw [getD_set_ne false (Ne.symm hej)] at he; exact he

theorem clear_told (hu : uniq ops.toList = true) {listed : Array Bool} (h : Told ops κ listed s) (hdown : down ops listed) {j k : Nat} (hr : j ∈ Region.ready .any ops listed) : ∀ {xs : List Operand}, clear ops κ j k xs = true → ∀ x ∈ xs, keyOf (s.ev x) ≠ some k
  | [], _, x, hx => by simp at hx
  | y :: xs, hc, x, hx => by
    cases y with
    | tmp t =>
      simp only [clear, Bool.and_eq_true] at hc
      rcases List.mem_cons.1 hx with rfl | hx
      · have h2 := hc.1
        split at h2
        · rename_i k1 e1
          show keyOf (s.tm t) ≠ some k
          rw [told_in hu h hdown hr e1]
          simpa using h2
        · cases h2
      · exact clear_told hu h hdown hr hc.2 x hx
    | const v =>
      simp only [clear] at hc
      rcases List.mem_cons.1 hx with rfl | hx
      · simp [AS.ev, keyOf]
      · exact clear_told hu h hdown hr hc x hx
    | global g =>
      simp only [clear] at hc
      rcases List.mem_cons.1 hx with rfl | hx
      · simp [AS.ev, keyOf]
      · exact clear_told hu h hdown hr hc x hx
    | func f =>
      simp only [clear] at hc
      rcases List.mem_cons.1 hx with rfl | hx
      · simp [AS.ev, keyOf]
      · exact clear_told hu h hdown hr hc x hx
theorem wkey_told (hu : uniq ops.toList = true) {listed : Array Bool} (h : Told ops κ listed s) (hdown : down ops listed) {j k : Nat} {a : Operand × Option Nat} (hr : j ∈ Region.ready .any ops listed) (hk : wkey ops κ j a = some k) : wrow (keyOf (s.ev a.1)) a.2 = some k := by
  obtain ⟨a, d⟩ := a
  unfold wkey at hk
  dsimp only at hk
  split at hk
  · rename_i u
    split at hk
    · rename_i key e1
      show wrow (keyOf (s.tm u)) d = some k
      rw [told_in hu h hdown hr e1]
      exact hk
    · cases hk
  · exact hk
  · cases hk
theorem anyA_first2 {Q : AS → Prop} {n i : Nat} {oi : Oper} {y : Yi} (hu : uniq ops.toList = true) (hi : ops[i]? = some oi) (hdst : dstOk ops n = true) :
    ∀ (fuel : Nat) (listed : Array Bool) (s : AS), s.n = n → NE s → down ops listed → Told ops κ listed s →
    (∀ j oj, ops[j]? = some oj → j ≠ i → listed.getD j true = false → waits ops ops.size j i = false → okPair ops oi oj = true ∨ rdOk ops κ i j = true) →
    i ∈ Region.ready .any ops listed → YieldsA P ops oi y s → anyA P ops Q fuel (listed.setIfInBounds i true) (s.app oi.dst y) → anyA P ops Q (fuel + 1) listed s := by
  intro fuel
  induction fuel with
  | zero =>
    intro listed s hn hne hdown _ _ hr hy H
    refine ⟨fun h => (by rw [h] at hr; cases hr), fun j hj => ?_⟩
    by_cases hji : j = i
    · subst hji; unfold qA; rw [hi]; exact ⟨y, hy, H⟩
    · have := ready_mono hj hji
      rw [H.1] at this
      cases this
  | succ fuel ih =>
    intro listed s hn hne hdown htold hfree hr hy H
    refine ⟨fun h => (by rw [h] at hr; cases hr), fun j hj => ?_⟩
    by_cases hji : j = i
    · subst hji; unfold qA; rw [hi]; exact ⟨y, hy, H⟩
    · have h1 := H.2 j (ready_mono hj hji)
      obtain ⟨hjun, oj, hoj, _⟩ := mem_ready.1 hj
      have hjun' : listed.getD j true = false := hjun
      have hnw : waits ops ops.size j i = false := by
        refine Decidable.byContradiction fun hw => ?_
        have hw : waits ops ops.size j i = true := by simpa using hw
        have h2 := waits_listed hdown _ _ _ (ready_deps hj) hw
        have h3 := (mem_ready.1 hr).1
        rcases Nat.lt_or_ge i listed.size with h' | h'
        · simp [h'] at h2 h3; rw [h3] at h2; cases h2
        · simp [Array.getElem?_eq_none h'] at h2
      have hpair := hfree j oj hoj hji hjun' hnw
      unfold qA at h1 ⊢
      rw [hoj] at h1 ⊢
      obtain ⟨z, hz, hK⟩ := h1
      have hex : YieldsA P ops oj z s ∧ YieldsA P ops oi y (s.app oj.dst z) ∧ (s.app oj.dst z).app oi.dst y = (s.app oi.dst y).app oj.dst z := by
        rcases hpair with hpair | hpair
        · exact exchange hpair hne hy hz
        · unfold rdOk at hpair
          simp only [hi, hoj, Bool.and_eq_true, Bool.or_eq_true] at hpair
          obtain ⟨hap, hpair⟩ := hpair
          have wrow0 : ∀ {q : Option Nat} {k : Nat}, wrow q none = some k → q = some k := fun {q k} h => by cases q <;> simpa [wrow] using h
          rcases hpair with ((hpair | hpair) | hpair) | hpair
          · split at hpair
            · rename_i xs a hrd hwr
              split at hpair
              · rename_i k hk
                exact exchange2 hap hrd hwr (k := k) (wkey_told hu htold hdown hj hk) (clear_told hu htold hdown hr hpair) hy hz
              · cases hpair
            · cases hpair
          · split at hpair
            · rename_i a xs hwr hrd
              split at hpair
              · rename_i k hk
                exact exchange3 hap hrd hwr (k := k) (wkey_told hu htold hdown hr hk) (clear_told hu htold hdown hj hpair) hy hz
              · cases hpair
            · cases hpair
          · split at hpair
            · rename_i d a v hmk hst
              split at hpair
              · rename_i k hk
                simp only [Bool.and_eq_true, decide_eq_true_eq] at hpair
                exact exchange4 hap hmk hst (k := k) (wrow0 (wkey_told hu htold hdown hj hk)) hpair.1 (clear_told hu htold hdown hj hpair.2 v (by simp)) hy hz
              · cases hpair
            · cases hpair
          · split at hpair
            · rename_i a v d hst hmk
              split at hpair
              · rename_i k hk
                simp only [Bool.and_eq_true, decide_eq_true_eq] at hpair
                exact exchange5 hap hmk hst (k := k) (wrow0 (wkey_told hu htold hdown hr hk)) hpair.1 (clear_told hu htold hdown hr hpair.2 v (by simp)) hy hz
              · cases hpair
            · cases hpair
      obtain ⟨hz', hy', heq⟩ := hex
      refine ⟨z, hz', ?_⟩
      refine ih (listed.setIfInBounds j true) (s.app oj.dst z) (by rw [app_n]; exact hn) (hne.app hz' (by rw [hn]; exact dstOk_get hdst hoj)) (down_set hdown hj) (told_step hu htold hdown hoj hj hz') (fun k ok hk hki hun hno => ?_) (ready_mono hr (Ne.symm hji)) hy' ?_
      · refine hfree k ok hk hki ?_ hno
        by_cases hjk : j = k
        · subst hjk; exact hjun'
        · rw [getD_set_ne true hjk] at hun; exact hun
      · rw [Array.setIfInBounds_comm _ _ hji, heq]
        exact hK

theorem lexOk2_spec (h : lexOk2 ops κ = true) : uniq ops.toList = true ∧ ∀ i, i < ops.size → (∀ e ∈ deps ops i, e < i) ∧ ∀ j, i < j → j < ops.size → waits ops ops.size j i = false → ∀ x y, ops[i]? = some x → ops[j]? = some y → okPair ops x y = true ∨ rdOk ops κ i j = true := by
  unfold lexOk2 at h
  simp only [Bool.and_eq_true] at h
  obtain ⟨h1, h⟩ := h
  refine ⟨h1, fun i hi => ?_⟩
  have := List.all_eq_true.1 h i (by simpa using hi)
  simp only [Bool.and_eq_true, List.all_eq_true, decide_eq_true_eq] at this
  refine ⟨this.1, fun j hij hj hw x y hx hy => ?_⟩
  have h2 := this.2 j (by simpa using hj)
  rw [hx, hy] at h2
  simpa [hij, hw] using h2

theorem anyA_lex2 {Q : AS → Prop} {n : Nat} (hB : lexOk2 ops κ = true) (hdst : dstOk ops n = true) : ∀ (l : List Oper) (k : Nat) (listed : Array Bool) (s : AS), (∀ j, l[j]? = ops[k + j]?) → k + l.length = ops.size → listed.size = ops.size →
    (∀ j, j < ops.size → listed.getD j false = decide (j < k)) → s.n = n → NE s → Told ops κ listed s → lexA P ops Q l s → anyA P ops Q l.length listed s
  | [], k, listed, s, _, hlen, hsz, hl, _, _, _, h => by
    refine ⟨?_, h⟩
    refine List.eq_nil_iff_forall_not_mem.2 fun j hj => ?_
    obtain ⟨h1, o, ho, _⟩ := mem_ready.1 hj
    have hj' : j < ops.size := (Array.getElem?_eq_some_iff.1 ho).1
    have h2 := hl j hj'
    simp only [List.length_nil, Nat.add_zero] at hlen
    have hjl : j < listed.size := by omega
    simp [hjl] at h1 h2
    rw [h1] at h2
    have : j < k := by omega
    simp [this] at h2
  | o :: l, k, listed, s, hlk, hlen, hsz, hl, hn, hne, htold, h => by
    simp only [List.length_cons] at hlen
    have hk : k < ops.size := by omega
    have ho : ops[k]? = some o := by simpa using (hlk 0).symm
    obtain ⟨hu, hsp⟩ := lexOk2_spec hB
    obtain ⟨hdeps, hpairs⟩ := hsp k hk
    obtain ⟨y, hy, hrest⟩ := h
    have hunk : listed.getD k false = false := by rw [hl k hk]; simp
    have hsame : ∀ j, j < ops.size → listed.getD j true = listed.getD j false := fun j hj => by
      have : j < listed.size := by omega
      simp [this]
    have hready : k ∈ Region.ready .any ops listed := by
      refine mem_ready.2 ⟨by rw [hsame k hk]; exact hunk, o, ho, fun e he hb => ?_⟩
      have : e.on < k := hdeps e.on (by unfold deps; rw [ho]; exact List.mem_map.2 ⟨e, List.mem_filter.2 ⟨by simpa using he, hb⟩, rfl⟩)
      rw [hl e.on (by omega)]; simpa using this
    have hdown : down ops listed := fun j hj e he => by
      by_cases hjs : j < ops.size
      · rw [hl j hjs] at hj
        have hjk : j < k := by simpa using hj
        have := (hsp j hjs).1 e he
        rw [hl e (by omega)]; simp; omega
      · have : ¬ j < listed.size := by omega
        simp [Array.getElem?_eq_none (Nat.le_of_not_lt this)] at hj
    refine anyA_first2 hu ho hdst l.length listed s hn hne hdown htold (fun j oj hj hjk hun hw => ?_) hready hy ?_
    · have hj' : j < ops.size := (Array.getElem?_eq_some_iff.1 hj).1
      rw [hsame j hj', hl j hj'] at hun
      have : k < j := by simp at hun; omega
      exact hpairs j this hj' hw o oj ho hj
    · refine anyA_lex2 hB hdst l (k + 1) _ _ (fun j => by have := hlk (j + 1); simpa [Nat.add_assoc, Nat.add_comm 1 j] using this) (by omega) (by simpa using hsz) (fun j hj => ?_) (by rw [app_n]; exact hn) (hne.app hy (by rw [hn]; exact dstOk_get hdst ho))
        (told_step hu htold hdown ho hready hy) hrest
      by_cases hjk : k = j
      · subst hjk
        have : k < listed.size := by omega
        simp [this]
      · rw [getD_set_ne false hjk, hl j hj]
        simp; omega
theorem region_draw2 {C : Ctx} {id : Nat} {a : Act} {w : World} {Q : AS → Prop} {Q' : Exit → Act → World → Prop} (hm : P.follows .mixedOrders = true) (hB : lexOk2 ops κ = true) (hd : dstOk ops s.n = true) (hk : keysOk κ s)
    (hs : SRel C s a w) (hQ : ∀ s a w, Q s → SRel C s a w → Q' .normal a w) (h : lexA P ops Q ops.toList s) : (Code.region id ops true).wp P Q' a w := by
  obtain ⟨p, hs⟩ := hs
  have hs' : SR C p s a { w with drawn := w.drawn + 1 } := hs.below (w' := w.drew) ((Below.refl _ _).drew) (fun _ h => h) (fun _ h => .inl h) hs.rb
  refine wp_region_any hm (anyA_sound hQ _ _ _ _ _ p hd ?_ hs')
  have := anyA_lex2 (n := s.n) hB hd ops.toList 0 (Array.replicate ops.size false) s (by simp) (by simp) (by simp) (fun j hj => by simp [hj]) rfl ⟨C, p, a, w, hs⟩ (told_start hk fun j hj => by simp [hj]) h
  simpa using this
theorem awp_draw2 {C : Ctx} {Q : Exit → AS → Prop} {id : Nat} {l : List Oper} (hm : P.follows .mixedOrders = true) (hB : lexOk2 l.toArray κ = true) (hd : dstOk l.toArray s.n = true) (hk : keysOk κ s) (h : aops P true l.toArray l (Q .normal) s) :
    awp P C (.region id l.toArray true) Q s := fun a w hs => by
  obtain ⟨p, hp⟩ := hs
  exact region_draw2 hm hB hd hk ⟨p, hp⟩ (fun s a w hq hs => ⟨s, hs, hq⟩) (aops_lex l s hd ⟨C, p, a, w, hp⟩ h)
/-- The region, what follows it behind a name. -/
theorem awp_dreg2 {C : Ctx} {Q : Exit → AS → Prop} {id : Nat} {l : List Oper} (κ : List (Nat × Option Nat)) (hm : P.follows .mixedOrders = true) (hB : lexOk2 l.toArray κ = true) (hd : dstOk l.toArray s.n = true) (hk : keysOk κ s)
    (h : ∀ K : AS → Prop, (∀ s, Q .normal s → K s) → aops P true l.toArray l K s) : awp P C (.region id l.toArray true) Q s := awp_draw2 hm hB hd hk (h _ fun _ h => h)
end
end Go.Oc
