/- Regions that draw their order, with stores: what is read lies in other rows than what is written. -/
import Derived.Test.YtnklbfmdojpfkaaOq
namespace Go.Oc
open Go Go.RowKit

def keyOf : AV → Option Nat
  | .pt k _ _ => some k
  | .pe k _ _ _ _ => some k
  | .os k _ _ _ _ => some k
  | .mp k _ => some k
  | _ => none
/-- What an operation looks at, if it only reads, and minds but this one's row. -/
def reads (o : Oper) : Option Operand :=
  match o.op with
  | .load _ a => some a
  | .fieldAddr _ x _ => some x
  | .indexAddr _ x _ => some x
  | .nilCheck x => some x
  | .call ⟨.builtin .len, args, ts⟩ => match args.toList, ts.toList with | [x], [_] => some x | _, _ => none
  | _ => none
def writes (o : Oper) : Option Operand :=
  match o.op with
  | .store _ a _ => some a
  | _ => none

section
variable {P : Program} {s : AS} {ops : Array Oper}
theorem ver_set {rows : Nat → Row} {k : Nat} {c : RowC} (j : Nat) : (upd rows k ⟨(rows k).ver, c⟩ j).ver = (rows j).ver := by
  unfold upd
  split
  · rename_i e; subst e; rfl
  · rfl
theorem ver_set' {k : Nat} {c : RowC} : AS.ver { s with rows := upd s.rows k ⟨(s.rows k).ver, c⟩ } = s.ver := funext fun j => ver_set j
theorem reads_step {o : Oper} {x : Operand} (h : reads o = some x) {k : Nat} (hk : keyOf (s.ev x) ≠ some k) (c : RowC) : step P o { s with rows := upd s.rows k ⟨(s.rows k).ver, c⟩ } = step P o s := by
  have hev : ∀ y : Operand, AS.ev { s with rows := upd s.rows k ⟨(s.rows k).ver, c⟩ } y = s.ev y := fun y => ev_rows y
  unfold reads at h
  split at h <;> rename_i ho <;> first
    | (injection h with h; subst h)
    | (cases h; done)
    | skip
  · simp only [step, ho, hev]
    unfold sLoad
    split <;> first
      | rfl
      | (rename_i e; rw [e] at hk; simp only [keyOf, ne_eq, Option.some.injEq] at hk; simp only [upd_other _ _ hk])
  · simp only [step, ho, hev]
    unfold sField
    rw [ver_set']
  · simp only [step, ho, hev]
    unfold sIndex
    rw [ver_set']
  · simp only [step, ho, hev]
    unfold sNil
    rw [ver_set']
  · split at h
    · rename_i x' t' hx ht
      injection h with h; subst h
      simp only [step, ho, hev, hx, ht, List.map_cons, List.map_nil, sBuiltin]
      unfold sLen
      split <;> first
        | rfl
        | (rename_i e; rw [e] at hk; simp only [keyOf, ne_eq, Option.some.injEq] at hk; simp only [upd_other _ _ hk, ver_set'])
    · cases h
theorem reads_cls {o : Oper} {x : Operand} (h : reads o = some x) : cls o = 1 := by
  unfold reads at h
  split at h <;> rename_i ho <;> first
    | (simp [cls, ho]; done)
    | (cases h; done)
theorem reads_AY {o : Oper} {x : Operand} (h : reads o = some x) {y : Yi} : AY P o s y ↔ (step P o s).pre ∧ y = (step P o s).y := by
  unfold AY
  split
  · rename_i ho; simp [reads, ho] at h
  · rfl
theorem writes_cls {o : Oper} {a : Operand} (h : writes o = some a) : cls o = 3 := by
  unfold writes at h
  split at h
  · rename_i ho; simp [cls, ho]
  · cases h
theorem writes_eff {o : Oper} {a : Operand} (h : writes o = some a) {y : Yi} (hy : AY P o s y) : ∃ k c, keyOf (s.ev a) = some k ∧ y.eff = [(k, ⟨(s.rows k).ver, c⟩)] := by
  unfold writes at h
  split at h
  · rename_i t a' x ho
    injection h with h; subst h
    unfold AY at hy
    split at hy
    · rename_i ho'; rw [ho] at ho'; cases ho'
    · obtain ⟨hp, rfl⟩ := hy
      simp only [step, ho] at hp ⊢
      unfold sStore at hp ⊢
      split at hp
      · rename_i k n off xs _ e _
        split at hp
        · rename_i n' cs hr
          have hv : (s.rows k).ver = n' := by rw [hr]
          exact ⟨k, _, by rw [e]; rfl, congrArg (fun q => [(k, Row.mk q _)]) hv.symm⟩
        · exact hp.elim
      · rename_i k n sz idx off xs _ e _
        split at hp
        · rename_i n' t' sz' es xs' hr _
          have hv : (s.rows k).ver = n' := by rw [hr]
          exact ⟨k, _, by rw [e]; rfl, congrArg (fun q => [(k, Row.mk q _)]) hv.symm⟩
        · exact hp.elim
      · exact hp.elim
  · cases h

/-- oi reads, oj stores elsewhere: either may be first. -/
theorem exchange2 {oi oj : Oper} {y z : Yi} {x a : Operand} {k : Nat} (hap : oi.apart ops oj = true) (hr : reads oi = some x) (hw : writes oj = some a) (hka : keyOf (s.ev a) = some k) (hkx : keyOf (s.ev x) ≠ some k)
    (hy : YieldsA P ops oi y s) (hz : YieldsA P ops oj z (s.app oi.dst y)) :
    YieldsA P ops oj z s ∧ YieldsA P ops oi y (s.app oj.dst z) ∧ (s.app oj.dst z).app oi.dst y = (s.app oi.dst y).app oj.dst z := by
  obtain ⟨hap1, hap2, hap3⟩ := Oper.apart_spec hap
  have ci := reads_cls hr
  have cj := writes_cls hw
  have wj : wantA ops (s.app oi.dst y) oj = wantA ops s oj := wantA_put hap1 _
  have wi : wantA ops (s.app oj.dst z) oi = wantA ops s oi := wantA_put hap3 _
  have hye : y.eff = [] := by
    rcases hy with ⟨_, hy, _⟩ | ⟨_, rfl⟩
    · rcases AY_eff hy (by omega) with ⟨_, h⟩ | ⟨h, _⟩
      · exact h
      · omega
    · rfl
  have hyr : y.rows s.rows = s.rows := by simp [Yi.rows, hye]
  have tmj : ∀ x ∈ oj.op.operands, (s.app oi.dst y).ev x = s.ev x := fun x hx => by
    show (AS.put { s with rows := y.rows s.rows } oi.dst y.av).ev x = s.ev x
    rw [ev_put (fun t ht e => hap1 t ht (by subst e; exact List.mem_append_left _ (List.mem_filterMap.2 ⟨.tmp t, by simpa using hx, rfl⟩)))]
    exact ev_rows x
  have hz' : YieldsA P ops oj z s := by
    rcases hz with ⟨hw', hz, hdead⟩ | ⟨hw', hz⟩
    · refine .inl ⟨by rw [← wj]; exact hw', ?_, fun h => by omega⟩
      exact AY_congr (s := s.app oi.dst y) (by rw [app_rows, hyr]) (fun x hx => (tmj x hx).symm) hz
    · exact .inr ⟨by rw [← wj]; exact hw', hz⟩
  have hzr : ∃ c, z.rows s.rows = upd s.rows k ⟨(s.rows k).ver, c⟩ := by
    rcases hz' with ⟨_, hz, _⟩ | ⟨_, rfl⟩
    · obtain ⟨k', c, h1, h2⟩ := writes_eff hw hz
      rw [hka] at h1
      injection h1 with h1; subst h1
      exact ⟨c, by simp [Yi.rows, h2]⟩
    · refine ⟨(s.rows k).c, ?_⟩
      show s.rows = _
      exact (upd_self s.rows k).symm
  obtain ⟨c, hzr⟩ := hzr
  refine ⟨hz', ?_, ?_⟩
  · rcases hy with ⟨hw', hy, hdead⟩ | ⟨hw', hy⟩
    · refine .inl ⟨by rw [wi]; exact hw', ?_, fun h => by omega⟩
      have tmi : ∀ x ∈ oi.op.operands, (s.app oj.dst z).ev x = s.ev x := fun x hx => by
        show (AS.put { s with rows := z.rows s.rows } oj.dst z.av).ev x = s.ev x
        rw [ev_put (fun t ht e => hap3 t ht (by subst e; exact List.mem_append_left _ (List.mem_filterMap.2 ⟨.tmp t, by simpa using hx, rfl⟩)))]
        exact ev_rows x
      have h1 : AY P oi { s with rows := z.rows s.rows } y := by
        rw [hzr, reads_AY hr, reads_step hr hkx c, ← reads_AY hr]
        exact hy
      exact AY_congr (s := { s with rows := z.rows s.rows }) (by rw [app_rows]) (fun x hx => by rw [tmi x hx]; exact (ev_rows x).symm) h1
    · exact .inr ⟨by rw [wi]; exact hw', hy⟩
  · refine AS.ext (by simp only [app_n]) ?_ ?_
    · rw [app_tm, app_tm, app_tm, app_tm]
      cases hi : oi.dst with
      | none => cases oj.dst <;> rfl
      | some d =>
        cases hj : oj.dst with
        | none => rfl
        | some d' =>
          have : d ≠ d' := fun e => hap2 d hi (by rw [hj, e])
          exact upd_comm _ (Ne.symm this) _ _
    · rw [app_rows, app_rows, app_rows, app_rows]
      simp [Yi.rows, hye]
end

/-! ### Where the slots of a region point to -/
def defAt : List Oper → Nat → Nat → Option Nat
  | [], _, _ => none
  | o :: l, i, t => if o.dst = some t then some i else defAt l (i + 1) t
/-- Where the slot is made. -/
def defOf (ops : Array Oper) (t : Nat) : Option Nat := defAt ops.toList 0 t
theorem defAt_spec {t : Nat} : ∀ {l : List Oper} {i j : Nat}, defAt l i t = some j → i ≤ j ∧ ∃ o, l[j - i]? = some o ∧ o.dst = some t
  | [], _, _, h => by simp [defAt] at h
  | o :: l, i, j, h => by
    unfold defAt at h
    split at h
    · rename_i e
      injection h with h; subst h
      exact ⟨Nat.le_refl _, o, by simp, e⟩
    · obtain ⟨h1, o', h2, h3⟩ := defAt_spec h
      refine ⟨by omega, o', ?_, h3⟩
      rw [show j - i = (j - (i + 1)) + 1 from by omega]
      simpa using h2
theorem defAt_none {t : Nat} : ∀ {l : List Oper} {i : Nat}, defAt l i t = none → ∀ o ∈ l, o.dst ≠ some t
  | [], _, _, o, ho => by simp at ho
  | o' :: l, i, h, o, ho => by
    unfold defAt at h
    split at h
    · cases h
    · rename_i e
      rcases List.mem_cons.1 ho with rfl | ho
      · exact e
      · exact defAt_none h o ho
theorem defOf_some {ops : Array Oper} {t j : Nat} (h : defOf ops t = some j) : ∃ o, ops[j]? = some o ∧ o.dst = some t := by
  obtain ⟨_, o, h1, h2⟩ := defAt_spec h
  exact ⟨o, by simpa using h1, h2⟩
theorem defOf_none {ops : Array Oper} {t j : Nat} {o : Oper} (h : defOf ops t = none) (ho : ops[j]? = some o) : o.dst ≠ some t := by
  obtain ⟨hi, rfl⟩ := Array.getElem?_eq_some_iff.1 ho
  exact defAt_none h _ (by simp)
def steady (o : Oper) : Option Operand :=
  if o.guard.isSome then none else
  match o.op with
  | .fieldAddr _ x _ => some x
  | .indexAddr _ x _ => some x
  | .nilCheck x => some x
  | .move x => some x
  | _ => none
def lookK : List (Nat × Option Nat) → Nat → Option (Option Nat)
  | [], _ => none
  | (t, k) :: l, u => if u = t then some k else lookK l u
/-- In which row a slot's value lies: κ tells it of the slots that were there before. -/
def slotKey (ops : Array Oper) (κ : List (Nat × Option Nat)) : Nat → Nat → Option (Option Nat)
  | 0, _ => none
  | n + 1, t =>
    match defOf ops t with
    | none => lookK κ t
    | some j =>
      match ops[j]? with
      | some o => match steady o with
        | some (.tmp u) => slotKey ops κ n u
        | _ => none
      | none => none
def known (ops : Array Oper) (j : Nat) (t : Nat) : Bool := match defOf ops t with | none => true | some e => (deps ops j).contains e
def rdOk (ops : Array Oper) (κ : List (Nat × Option Nat)) (i j : Nat) : Bool :=
  match ops[i]?, ops[j]? with
  | some x, some y =>
    match reads x, writes y with
    | some (.tmp t), some (.tmp u) =>
      x.apart ops y && known ops i t && known ops j u && (match slotKey ops κ ops.size t, slotKey ops κ ops.size u with
        | some k1, some (some k2) => k1 != some k2
        | _, _ => false)
    | _, _ => false
  | _, _ => false
def uniq : List Oper → Bool
  | [] => true
  | o :: l => (match o.dst with | some t => l.all fun o' => o'.dst != some t | none => true) && uniq l
def steadyOk (ops : Array Oper) : Bool :=
  (List.range ops.size).all fun j => match ops[j]? with
    | some o => match steady o with
      | some (.tmp u) => known ops j u
      | _ => true
    | none => true
def lexOk2 (ops : Array Oper) (κ : List (Nat × Option Nat)) : Bool :=
  uniq ops.toList && steadyOk ops &&
  (List.range ops.size).all fun i => (deps ops i).all (fun e => decide (e < i)) &&
    (List.range ops.size).all fun j => !decide (i < j) || waits ops ops.size j i ||
      (match ops[i]?, ops[j]? with | some x, some y => okPair ops x y | _, _ => true) || rdOk ops κ i j
def keysOk (κ : List (Nat × Option Nat)) (s : AS) : Prop := ∀ p ∈ κ, keyOf (s.tm p.1) = p.2

section
variable {P : Program} {s : AS} {ops : Array Oper} {κ : List (Nat × Option Nat)}
theorem lookK_mem : ∀ {l : List (Nat × Option Nat)} {t : Nat} {k : Option Nat}, lookK l t = some k → (t, k) ∈ l
  | [], _, _, h => by simp [lookK] at h
  | (u, k') :: l, t, k, h => by
    unfold lookK at h
    split at h
    · rename_i e; subst e; injection h with h; subst h; simp
    · simp [lookK_mem h]
theorem uniq_spec : ∀ {l : List Oper} {i j : Nat} {x y : Oper} {t : Nat}, uniq l = true → l[i]? = some x → l[j]? = some y → x.dst = some t → y.dst = some t → i = j
  | [], _, _, _, _, _, _, h, _, _, _ => by simp at h
  | o :: l, i, j, x, y, t, hu, hi, hj, hx, hy => by
    simp only [uniq, Bool.and_eq_true] at hu
    have one : ∀ {j : Nat} {x y : Oper}, x.dst = some t → o = x → l[j]? = some y → y.dst = some t → False := fun hx e hj hy => by
      subst e
      have h1 := hu.1
      rw [hx] at h1
      have := List.all_eq_true.1 h1 _ (List.mem_of_getElem? hj)
      simp [hy] at this
    cases i with
    | zero =>
      cases j with
      | zero => rfl
      | succ j =>
        simp only [List.getElem?_cons_zero, Option.some.injEq, List.getElem?_cons_succ] at hi hj
        exact (one hx hi hj hy).elim
    | succ i =>
      cases j with
      | zero =>
        simp only [List.getElem?_cons_zero, Option.some.injEq, List.getElem?_cons_succ] at hi hj
        exact (one hy hj hi hx).elim
      | succ j =>
        simp only [List.getElem?_cons_succ] at hi hj
        rw [uniq_spec hu.2 hi hj hx hy]
/-- Each slot whose row is told lies in it, once it is made. -/
def Told (ops : Array Oper) (κ : List (Nat × Option Nat)) (listed : Array Bool) (s : AS) : Prop :=
  ∀ n t k, slotKey ops κ n t = some k → (defOf ops t = none ∨ ∃ j, defOf ops t = some j ∧ listed.getD j false = true) → keyOf (s.tm t) = k
theorem told_start (h : keysOk κ s) {listed : Array Bool} (hl : ∀ j, j < ops.size → listed.getD j false = false) : Told ops κ listed s := fun n t k hk hd => by
  rcases hd with hd | ⟨j, hd, hj⟩
  · cases n with
    | zero => simp [slotKey] at hk
    | succ n =>
      simp only [slotKey, hd] at hk
      exact h _ (lookK_mem hk)
  · obtain ⟨o, ho, _⟩ := defOf_some hd
    have : j < ops.size := (Array.getElem?_eq_some_iff.1 ho).1
    rw [hl j this] at hj; cases hj
theorem steady_key {o : Oper} {x : Operand} (h : steady o = some x) {y : Yi} (hy : AY P o s y) : keyOf y.av = keyOf (s.ev x) := by
  unfold steady at h
  split at h
  · cases h
  · unfold AY at hy
    split at h <;> rename_i ho <;> first
      | (injection h with h; subst h)
      | (cases h; done)
    all_goals
      split at hy
      · rename_i ho'; rw [ho] at ho'; cases ho'
      · obtain ⟨hp, rfl⟩ := hy
        simp only [step, ho] at hp ⊢
        first
          | (unfold sField at hp ⊢; (repeat' split at hp) <;> first | (simp only [*]; rfl) | exact hp.elim)
          | (unfold sIndex at hp ⊢; (repeat' split at hp) <;> first | (simp only [*]; rfl) | exact hp.elim)
          | (unfold sNil at hp ⊢; (repeat' split at hp) <;> first | (simp only [*]; rfl) | exact hp.elim)
          | rfl
theorem steady_guard {o : Oper} {x : Operand} (h : steady o = some x) : o.guard = none := by
  unfold steady at h
  split at h
  · cases h
  · rename_i hg; simpa using hg
theorem told_step (hu : uniq ops.toList = true) (hst : steadyOk ops = true) {listed : Array Bool} (h : Told ops κ listed s) {j : Nat} {o : Oper} (ho : ops[j]? = some o)
    (hdeps : ∀ e ∈ deps ops j, listed.getD e false = true) {y : Yi} (hy : YieldsA P ops o y s) : Told ops κ (listed.setIfInBounds j true) (s.app o.dst y) := fun n t k hk hd => by
  have htm : o.dst ≠ some t → (s.app o.dst y).tm t = s.tm t := fun hne => by
    rw [app_tm]
    cases hod : o.dst with
    | none => rfl
    | some d => exact upd_other _ _ (fun e => hne (by rw [hod, e]))
  rcases hd with hd | ⟨e, hd, he⟩
  · rw [htm (defOf_none hd ho)]
    exact h n t k hk (.inl hd)
  · obtain ⟨o', ho', hdst⟩ := defOf_some hd
    by_cases hej : e = j
    · subst hej
      rw [ho] at ho'; injection ho' with ho'; subst ho'
      cases n with
      | zero => simp [slotKey] at hk
      | succ n =>
        simp only [slotKey, hd, ho] at hk
        split at hk
        · rename_i u hs
          have hkn : known ops e u = true := by
            unfold steadyOk at hst
            have := List.all_eq_true.1 hst e (by simpa using (Array.getElem?_eq_some_iff.1 ho).1)
            rw [ho] at this
            simp only [hs] at this
            exact this
          have hku : keyOf (s.tm u) = k := h n u k hk (by
            unfold known at hkn
            split at hkn
            · rename_i e'; exact .inl e'
            · rename_i e' he'; exact .inr ⟨e', he', hdeps e' (by simpa using hkn)⟩)
          rw [app_tm, hdst]
          show keyOf (upd s.tm t y.av t) = k
          rw [upd_same]
          rcases hy with ⟨_, hy, _⟩ | ⟨hw, _⟩
          · rw [steady_key hs hy]; exact hku
          · simp [wantA, steady_guard hs] at hw
        · cases hk
    · have hne : o.dst ≠ some t := fun hod => hej (uniq_spec hu (by simpa using ho') (by simpa using ho) hdst hod)
      rw [htm hne]
      refine h n t k hk (.inr ⟨e, hd, ?_⟩)
      rw [getD_set_ne false (Ne.symm hej)] at he; exact he

theorem known_told {listed : Array Bool} (h : Told ops κ listed s) {j t n : Nat} {k : Option Nat} (hk : known ops j t = true) (hdeps : ∀ e ∈ deps ops j, listed.getD e false = true) (hs : slotKey ops κ n t = some k) : keyOf (s.tm t) = k := by
  refine h n t k hs ?_
  unfold known at hk
  split at hk
  · rename_i e; exact .inl e
  · rename_i e he; exact .inr ⟨e, he, hdeps e (by simpa using hk)⟩

theorem anyA_first2 {Q : AS → Prop} {n i : Nat} {oi : Oper} {y : Yi} (hu : uniq ops.toList = true) (hst : steadyOk ops = true) (hi : ops[i]? = some oi) (hdst : dstOk ops n = true) :
    ∀ (fuel : Nat) (listed : Array Bool) (s : AS), s.n = n → NE s → down ops listed → Told ops κ listed s →
    (∀ j oj, ops[j]? = some oj → j ≠ i → listed.getD j true = false → waits ops ops.size j i = false → okPair ops oi oj = true ∨ rdOk ops κ i j = true) →
    i ∈ Region.ready .any ops listed → YieldsA P ops oi y s → anyA P ops Q fuel (listed.setIfInBounds i true) (s.app oi.dst y) → anyA P ops Q (fuel + 1) listed s := by
  intro fuel
  induction fuel with
  | zero =>
    intro listed s hn hne hdown _ _ hr hy H
    refine ⟨fun h => (by rw [h] at hr; cases hr), fun j hj => ?_⟩
    by_cases hji : j = i
    · subst hji; unfold qA; rw [hi]; exact ⟨y, hy, H⟩
    · have := ready_mono hj hji
      rw [H.1] at this
      cases this
  | succ fuel ih =>
    intro listed s hn hne hdown htold hfree hr hy H
    refine ⟨fun h => (by rw [h] at hr; cases hr), fun j hj => ?_⟩
    by_cases hji : j = i
    · subst hji; unfold qA; rw [hi]; exact ⟨y, hy, H⟩
    · have h1 := H.2 j (ready_mono hj hji)
      obtain ⟨hjun, oj, hoj, _⟩ := mem_ready.1 hj
      have hjun' : listed.getD j true = false := hjun
      have hnw : waits ops ops.size j i = false := by
        refine Decidable.byContradiction fun hw => ?_
        have hw : waits ops ops.size j i = true := by simpa using hw
        have h2 := waits_listed hdown _ _ _ (ready_deps hj) hw
        have h3 := (mem_ready.1 hr).1
        rcases Nat.lt_or_ge i listed.size with h' | h'
        · simp [h'] at h2 h3; rw [h3] at h2; cases h2
        · simp [Array.getElem?_eq_none h'] at h2
      have hpair := hfree j oj hoj hji hjun' hnw
      unfold qA at h1 ⊢
      rw [hoj] at h1 ⊢
      obtain ⟨z, hz, hK⟩ := h1
      have hex : YieldsA P ops oj z s ∧ YieldsA P ops oi y (s.app oj.dst z) ∧ (s.app oj.dst z).app oi.dst y = (s.app oi.dst y).app oj.dst z := by
        rcases hpair with hpair | hpair
        · exact exchange hpair hne hy hz
        · unfold rdOk at hpair
          simp only [hi, hoj] at hpair
          split at hpair
          · rename_i t u hrd hwr
            simp only [Bool.and_eq_true] at hpair
            obtain ⟨⟨⟨hap, hk1⟩, hk2⟩, hkk⟩ := hpair
            split at hkk
            · rename_i k1 k2 e1 e2
              have g1 := known_told htold hk1 (ready_deps hr) e1
              have g2 := known_told htold hk2 (ready_deps hj) e2
              refine exchange2 hap hrd hwr (k := k2) g2 ?_ hy hz
              show keyOf (s.tm t) ≠ some k2
              rw [g1]
              simpa using hkk
            · cases hkk
          · cases hpair
      obtain ⟨hz', hy', heq⟩ := hex
      refine ⟨z, hz', ?_⟩
      refine ih (listed.setIfInBounds j true) (s.app oj.dst z) (by rw [app_n]; exact hn) (hne.app hz' (by rw [hn]; exact dstOk_get hdst hoj)) (down_set hdown hj) (told_step hu hst htold hoj (ready_deps hj) hz') (fun k ok hk hki hun hno => ?_) (ready_mono hr (Ne.symm hji)) hy' ?_
      · refine hfree k ok hk hki ?_ hno
        by_cases hjk : j = k
        · subst hjk; exact hjun'
        · rw [getD_set_ne true hjk] at hun; exact hun
      · rw [Array.setIfInBounds_comm _ _ hji, heq]
        exact hK

theorem lexOk2_spec (h : lexOk2 ops κ = true) : uniq ops.toList = true ∧ steadyOk ops = true ∧ ∀ i, i < ops.size → (∀ e ∈ deps ops i, e < i) ∧ ∀ j, i < j → j < ops.size → waits ops ops.size j i = false → ∀ x y, ops[i]? = some x → ops[j]? = some y → okPair ops x y = true ∨ rdOk ops κ i j = true := by
  unfold lexOk2 at h
  simp only [Bool.and_eq_true] at h
  obtain ⟨⟨h1, h2⟩, h⟩ := h
  refine ⟨h1, h2, fun i hi => ?_⟩
  have := List.all_eq_true.1 h i (by simpa using hi)
  simp only [Bool.and_eq_true, List.all_eq_true, decide_eq_true_eq] at this
  refine ⟨this.1, fun j hij hj hw x y hx hy => ?_⟩
  have h2 := this.2 j (by simpa using hj)
  rw [hx, hy] at h2
  simpa [hij, hw] using h2

theorem anyA_lex2 {Q : AS → Prop} {n : Nat} (hB : lexOk2 ops κ = true) (hdst : dstOk ops n = true) : ∀ (l : List Oper) (k : Nat) (listed : Array Bool) (s : AS), (∀ j, l[j]? = ops[k + j]?) → k + l.length = ops.size → listed.size = ops.size →
    (∀ j, j < ops.size → listed.getD j false = decide (j < k)) → s.n = n → NE s → Told ops κ listed s → lexA P ops Q l s → anyA P ops Q l.length listed s
  | [], k, listed, s, _, hlen, hsz, hl, _, _, _, h => by
    refine ⟨?_, h⟩
    refine List.eq_nil_iff_forall_not_mem.2 fun j hj => ?_
    obtain ⟨h1, o, ho, _⟩ := mem_ready.1 hj
    have hj' : j < ops.size := (Array.getElem?_eq_some_iff.1 ho).1
    have h2 := hl j hj'
    simp only [List.length_nil, Nat.add_zero] at hlen
    have hjl : j < listed.size := by omega
    simp [hjl] at h1 h2
    rw [h1] at h2
    have : j < k := by omega
    simp [this] at h2
  | o :: l, k, listed, s, hlk, hlen, hsz, hl, hn, hne, htold, h => by
    simp only [List.length_cons] at hlen
    have hk : k < ops.size := by omega
    have ho : ops[k]? = some o := by simpa using (hlk 0).symm
    obtain ⟨hu, hst, hsp⟩ := lexOk2_spec hB
    obtain ⟨hdeps, hpairs⟩ := hsp k hk
    obtain ⟨y, hy, hrest⟩ := h
    have hunk : listed.getD k false = false := by rw [hl k hk]; simp
    have hsame : ∀ j, j < ops.size → listed.getD j true = listed.getD j false := fun j hj => by
      have : j < listed.size := by omega
      simp [this]
    have hready : k ∈ Region.ready .any ops listed := by
      refine mem_ready.2 ⟨by rw [hsame k hk]; exact hunk, o, ho, fun e he hb => ?_⟩
      have : e.on < k := hdeps e.on (by unfold deps; rw [ho]; exact List.mem_map.2 ⟨e, List.mem_filter.2 ⟨by simpa using he, hb⟩, rfl⟩)
      rw [hl e.on (by omega)]; simpa using this
    have hdown : down ops listed := fun j hj e he => by
      by_cases hjs : j < ops.size
      · rw [hl j hjs] at hj
        have hjk : j < k := by simpa using hj
        have := (hsp j hjs).1 e he
        rw [hl e (by omega)]; simp; omega
      · have : ¬ j < listed.size := by omega
        simp [Array.getElem?_eq_none (Nat.le_of_not_lt this)] at hj
    refine anyA_first2 hu hst ho hdst l.length listed s hn hne hdown htold (fun j oj hj hjk hun hw => ?_) hready hy ?_
    · have hj' : j < ops.size := (Array.getElem?_eq_some_iff.1 hj).1
      rw [hsame j hj', hl j hj'] at hun
      have : k < j := by simp at hun; omega
      exact hpairs j this hj' hw o oj ho hj
    · refine anyA_lex2 hB hdst l (k + 1) _ _ (fun j => by have := hlk (j + 1); simpa [Nat.add_assoc, Nat.add_comm 1 j] using this) (by omega) (by simpa using hsz) (fun j hj => ?_) (by rw [app_n]; exact hn) (hne.app hy (by rw [hn]; exact dstOk_get hdst ho))
        (told_step hu hst htold ho (ready_deps hready) hy) hrest
      by_cases hjk : k = j
      · subst hjk
        have : k < listed.size := by omega
        simp [this]
      · rw [getD_set_ne false hjk, hl j hj]
        simp; omega
theorem region_draw2 {C : Ctx} {id : Nat} {a : Act} {w : World} {Q : AS → Prop} {Q' : Exit → Act → World → Prop} (hm : P.follows .mixedOrders = true) (hB : lexOk2 ops κ = true) (hd : dstOk ops s.n = true) (hk : keysOk κ s)
    (hs : SRel C s a w) (hQ : ∀ s a w, Q s → SRel C s a w → Q' .normal a w) (h : lexA P ops Q ops.toList s) : (Code.region id ops true).wp P Q' a w := by
  obtain ⟨p, hs⟩ := hs
  have hs' : SR C p s a { w with drawn := w.drawn + 1 } := hs.below (w' := w.drew) ((Below.refl _ _).drew) (fun _ h => h) (fun _ h => .inl h) hs.rb
  refine wp_region_any hm (anyA_sound hQ _ _ _ _ _ p hd ?_ hs')
  have := anyA_lex2 (n := s.n) hB hd ops.toList 0 (Array.replicate ops.size false) s (by simp) (by simp) (by simp) (fun j hj => by simp [hj]) rfl ⟨C, p, a, w, hs⟩ (told_start hk fun j hj => by simp [hj]) h
  simpa using this
theorem awp_draw2 {C : Ctx} {Q : Exit → AS → Prop} {id : Nat} {l : List Oper} (hm : P.follows .mixedOrders = true) (hB : lexOk2 l.toArray κ = true) (hd : dstOk l.toArray s.n = true) (hk : keysOk κ s) (h : aops P true l.toArray l (Q .normal) s) :
    awp P C (.region id l.toArray true) Q s := fun a w hs => by
  obtain ⟨p, hp⟩ := hs
  exact region_draw2 hm hB hd hk ⟨p, hp⟩ (fun s a w hq hs => ⟨s, hs, hq⟩) (aops_lex l s hd ⟨C, p, a, w, hp⟩ h)
/-- The region, what follows it behind a name. -/
theorem awp_dreg2 {C : Ctx} {Q : Exit → AS → Prop} {id : Nat} {l : List Oper} (κ : List (Nat × Option Nat)) (hm : P.follows .mixedOrders = true) (hB : lexOk2 l.toArray κ = true) (hd : dstOk l.toArray s.n = true) (hk : keysOk κ s)
    (h : ∀ K : AS → Prop, (∀ s, Q .normal s → K s) → aops P true l.toArray l K s) : awp P C (.region id l.toArray true) Q s := awp_draw2 hm hB hd hk (h _ fun _ h => h)
end
end Go.Oc
