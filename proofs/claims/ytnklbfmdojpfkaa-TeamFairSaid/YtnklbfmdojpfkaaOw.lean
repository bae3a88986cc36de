/- Calls that write: a callee is lent rows, under keys from 1000 on, and leaves them as its contract says. -/
import Derived.Test.YtnklbfmdojpfkaaOm
namespace Go.Oc
open Go Go.RowKit

def lookc (l : List (Nat × RowC)) : Nat → RowC
  | j => match l with
    | [] => .dead
    | (k, v) :: l => if j = k then v else lookc l j
theorem lookc_nil {j : Nat} : lookc [] j = .dead := rfl
theorem lookc_cons {k j : Nat} {v : RowC} {cs : List (Nat × RowC)} : lookc ((k, v) :: cs) j = if j = k then v else lookc cs j := rfl

/-- The call returns r; the rows L, which it is lent, become L'; all else that was there stays. -/
def MCalls (P : Program) (f : FuncId) (L L' : List (Nat × RowC)) (args : List AV) (r : AV) : Prop :=
  callable P f = true ∧ ∀ (w : World) (p : Plan) (vs : Array Value),
    (∀ b, p.R b → b < w.heap.size) → (∀ k b, p.β k = some b → b < w.heap.size ∧ ¬ p.R b) → (∀ k k' b, p.β k = some b → p.β k' = some b → k = k') → (∀ k, p.γ k ≤ maxLen) →
    (∀ k, rowRel w p (fun _ => 0) k (lookc L k)) → AV.relV w p (fun _ => 0) args vs.toList →
    Calls P f vs w fun e w' => ∃ v R', e = .returned v ∧ (w'.os = w.os ∧ w'.tape = w.tape ∧ w'.output = w.output ∧ w.heap.size ≤ w'.heap.size) ∧
      (∀ k, k < w.heap.size → (∀ j, p.β j ≠ some k) → w'.heap[k]? = w.heap[k]?) ∧ (∀ b, p.R b → R' b) ∧ (∀ b, R' b → p.R b ∨ w.heap.size ≤ b) ∧ (∀ b, R' b → b < w'.heap.size) ∧
      (∀ k, rowRel w' { p with R := R' } (fun _ => 0) k (lookc L' k)) ∧ r.rel w' { p with R := R' } (fun _ => 0) v

/-! ### What the callee is shown -/
def lendKey : List (Nat × Nat) → Nat → Option Nat
  | [], _ => none
  | (pk, k) :: ρ, ck => if ck = k then some pk else lendKey ρ ck
def pinOf : List (Nat × Nat) → Nat → Option Nat
  | [], _ => none
  | (pk, k) :: ρ, j => if j = pk then some k else pinOf ρ j
mutual
def lendA (ρ : List (Nat × Nat)) (ver : Nat → Nat) : AV → Option AV
  | .r v => some (.r v)
  | .pt k n off => match lendKey ρ k with | some pk => if n = ver k then some (.pt pk 0 off) else none | none => none
  | .pe k n sz idx off => match lendKey ρ k with | some pk => if n = ver k then some (.pe pk 0 sz idx off) else none | none => none
  | .os k n sz off m => match lendKey ρ k with | some pk => if n = ver k then some (.os pk 0 sz off m) else none | none => none
  | .mp k n => match lendKey ρ k with | some pk => if n = ver k then some (.mp pk 0) else none | none => none
  | .fn f cs => match lendL ρ ver cs with | some xs => some (.fn f xs) | none => none
  | .ag cs => match lendL ρ ver cs with | some xs => some (.ag xs) | none => none
  | .tu _ => none
  | .mi _ _ => none
def lendL (ρ : List (Nat × Nat)) (ver : Nat → Nat) : List AV → Option (List AV)
  | [] => some []
  | x :: xs => match lendA ρ ver x, lendL ρ ver xs with | some y, some ys => some (y :: ys) | _, _ => none
end
def lendC (ρ : List (Nat × Nat)) (ver : Nat → Nat) : RowC → Option RowC
  | .box cs => match lendL ρ ver cs with | some xs => some (.box xs) | none => none
  | .arr t sz es => some (.arr t sz es)
  | .mp m => some (.mp m)
  | _ => none
def lendOk (ρ : List (Nat × Nat)) (s : AS) : List (Nat × Nat) → List (Nat × RowC) → Prop
  | [], [] => True
  | (pk, ck) :: l, (k, c) :: L => k = pk ∧ lendC ρ s.ver (s.rows ck).c = some c ∧ lendOk ρ s l L
  | _, _ => False
mutual
def backA (ρ : List (Nat × Nat)) (ver : Nat → Nat) : AV → AV
  | .r v => .r v
  | .pt k _ off => match pinOf ρ k with | some ck => .pt ck (ver ck) off | none => .r .un
  | .pe k _ sz idx off => match pinOf ρ k with | some ck => .pe ck (ver ck) sz idx off | none => .r .un
  | .os k _ sz off m => match pinOf ρ k with | some ck => .os ck (ver ck) sz off m | none => .r .un
  | .mp k _ => match pinOf ρ k with | some ck => .mp ck (ver ck) | none => .r .un
  | .fn f cs => .fn f (backL ρ ver cs)
  | .ag cs => .ag (backL ρ ver cs)
  | .tu cs => .tu (backL ρ ver cs)
  | .mi _ _ => .r .un
def backL (ρ : List (Nat × Nat)) (ver : Nat → Nat) : List AV → List AV
  | [] => []
  | x :: xs => backA ρ ver x :: backL ρ ver xs
end
def backC (ρ : List (Nat × Nat)) (ver : Nat → Nat) : RowC → RowC
  | .box cs => .box (backL ρ ver cs)
  | .arr t sz es => .arr t sz es
  | .mp m => .mp m
  | _ => .dead
def okC : RowC → Bool
  | .box _ => true
  | .arr .. => true
  | .mp _ => true
  | _ => false
/-- The caller's rows behind the call. -/
def backRows (ρ : List (Nat × Nat)) (ver : Nat → Nat) (L' : List (Nat × RowC)) : List (Nat × Nat) → (Nat → Row) → Nat → Row
  | [], rows => rows
  | (pk, ck) :: l, rows => backRows ρ ver L' l (upd rows ck ⟨ver ck, backC ρ ver (lookc L' pk)⟩)
def apart : List (Nat × Nat) → Bool
  | [] => true
  | (pk, ck) :: l => (pinOf l pk).isNone && (lendKey l ck).isNone && apart l
def sameKeys : List (Nat × Nat) → List (Nat × RowC) → Bool
  | [], [] => true
  | (pk, _) :: l, (k, c) :: L => decide (pk = k) && okC c && sameKeys l L
  | _, _ => false
def AS.backs (s : AS) (ρ : List (Nat × Nat)) (L' : List (Nat × RowC)) : AS := { s with rows := backRows ρ s.ver L' ρ s.rows }
/-- A call by a contract that writes, and what follows. -/
def mcall (P : Program) (s : AS) (d : Option Nat) (f : AV) (xs : List AV) (K : AS → Prop) : Prop :=
  ∃ F cs ρ L L' args r, callee? f = some (F, cs) ∧ lendL ρ s.ver (xs ++ cs) = some args ∧ lendOk ρ s ρ L ∧ apart ρ = true ∧ sameKeys ρ L' = true ∧ MCalls P F L L' args r ∧ K (AS.put (s.backs ρ L') d (backA ρ s.ver r))

section
variable {P : Program} {C : Ctx} {p : Plan} {s : AS} {a : Act} {w w' : World} {o : Oper}

theorem pin_lend : ∀ {ρ : List (Nat × Nat)} {pk ck : Nat}, apart ρ = true → lendKey ρ ck = some pk → pinOf ρ pk = some ck
  | [], _, _, _, h => by simp [lendKey] at h
  | (a, b) :: ρ, pk, ck, ha, h => by
    simp only [apart, Bool.and_eq_true] at ha
    simp only [lendKey] at h
    simp only [pinOf]
    split at h
    · rename_i e
      injection h with h
      subst e h
      simp
    · have := pin_lend ha.2 h
      by_cases e : pk = a
      · subst e
        rw [this] at ha
        simp at ha
      · simpa [e] using this
theorem pinOf_inj : ∀ {ρ : List (Nat × Nat)} {j j' ck : Nat}, apart ρ = true → pinOf ρ j = some ck → pinOf ρ j' = some ck → j = j'
  | [], _, _, _, _, h, _ => by simp [pinOf] at h
  | (a, b) :: ρ, j, j', ck, ha, h, h' => by
    simp only [apart, Bool.and_eq_true] at ha
    simp only [pinOf] at h h'
    have lk : ∀ {ρ : List (Nat × Nat)} {j ck : Nat}, pinOf ρ j = some ck → (lendKey ρ ck).isSome = true := fun {ρ j ck} => by
      induction ρ with
      | nil => intro h; simp [pinOf] at h
      | cons q ρ ih =>
        obtain ⟨x, y⟩ := q
        intro h
        simp only [pinOf] at h
        simp only [lendKey]
        split at h
        · injection h with h; subst h; simp
        · split
          · rfl
          · exact ih h
    split at h <;> split at h'
    · rename_i e1 e2; rw [e1, e2]
    · rename_i e1 e2
      injection h with h; subst h
      have := lk h'
      rw [Option.isNone_iff_eq_none.1 ha.1.2] at this; cases this
    · rename_i e1 e2
      injection h' with h'; subst h'
      have := lk h
      rw [Option.isNone_iff_eq_none.1 ha.1.2] at this; cases this
    · exact pinOf_inj ha.2 h h'

/-- The callee's plan. -/
def lendPlan (ρ : List (Nat × Nat)) (p : Plan) : Plan :=
  ⟨p.R, fun k => match pinOf ρ k with | some ck => p.β ck | none => none, fun k => match pinOf ρ k with | some ck => p.γ ck | none => 1⟩
theorem lendPlan_pin {ρ : List (Nat × Nat)} {pk ck : Nat} (h : pinOf ρ pk = some ck) : (lendPlan ρ p).β pk = p.β ck ∧ (lendPlan ρ p).γ pk = p.γ ck := by simp [lendPlan, h]
mutual
theorem lend_rel {ρ : List (Nat × Nat)} {ver : Nat → Nat} (ha : apart ρ = true) : ∀ (x y : AV) (v : Value), lendA ρ ver x = some y → x.rel w p ver v → y.rel w (lendPlan ρ p) (fun _ => 0) v
  | .r x, y, v, h, hv => by simp only [lendA, Option.some.injEq] at h; subst h; simp only [AV.rel] at hv ⊢; exact hv
  | .pt k n off, y, v, h, hv => by
    simp only [lendA] at h
    split at h
    · rename_i pk e
      split at h
      · rename_i hn
        injection h with h; subst h
        simp only [AV.rel] at hv ⊢
        rw [(lendPlan_pin (p := p) (pin_lend ha e)).1]
        exact ⟨Nat.le_refl _, fun _ => hv.2 hn⟩
      · cases h
    · cases h
  | .pe k n sz idx off, y, v, h, hv => by
    simp only [lendA] at h
    split at h
    · rename_i pk e
      split at h
      · rename_i hn
        injection h with h; subst h
        simp only [AV.rel] at hv ⊢
        rw [(lendPlan_pin (p := p) (pin_lend ha e)).1]
        exact ⟨Nat.le_refl _, fun _ => hv.2 hn⟩
      · cases h
    · cases h
  | .os k n sz off m, y, v, h, hv => by
    simp only [lendA] at h
    split at h
    · rename_i pk e
      split at h
      · rename_i hn
        injection h with h; subst h
        simp only [AV.rel] at hv ⊢
        rw [(lendPlan_pin (p := p) (pin_lend ha e)).1, (lendPlan_pin (p := p) (pin_lend ha e)).2]
        exact ⟨Nat.le_refl _, fun _ => hv.2 hn⟩
      · cases h
    · cases h
  | .mp k n, y, v, h, hv => by
    simp only [lendA] at h
    split at h
    · rename_i pk e
      split at h
      · rename_i hn
        injection h with h; subst h
        simp only [AV.rel] at hv ⊢
        rw [(lendPlan_pin (p := p) (pin_lend ha e)).1]
        exact ⟨Nat.le_refl _, fun _ => hv.2 hn⟩
      · cases h
    · cases h
  | .fn f cs, y, v, h, hv => by
    simp only [lendA] at h
    split at h
    · rename_i xs e
      injection h with h; subst h
      simp only [AV.rel] at hv ⊢
      obtain ⟨vs, e1, hV⟩ := hv
      exact ⟨vs, e1, lend_relV ha cs xs _ e hV⟩
    · cases h
  | .ag cs, y, v, h, hv => by
    simp only [lendA] at h
    split at h
    · rename_i xs e
      injection h with h; subst h
      simp only [AV.rel] at hv ⊢
      obtain ⟨vs, e1, h1, hV⟩ := hv
      exact ⟨vs, e1, h1, lend_relV ha cs xs _ e hV⟩
    · cases h
  | .tu _, _, _, h, _ => by simp [lendA] at h
  | .mi _ _, _, _, h, _ => by simp [lendA] at h
theorem lend_relV {ρ : List (Nat × Nat)} {ver : Nat → Nat} (ha : apart ρ = true) : ∀ (xs ys : List AV) (vs : List Value), lendL ρ ver xs = some ys → AV.relV w p ver xs vs → AV.relV w (lendPlan ρ p) (fun _ => 0) ys vs
  | [], ys, vs, h, hV => by simp only [lendL, Option.some.injEq] at h; subst h; simpa only [AV.relV] using hV
  | x :: xs, ys, vs, h, hV => by
    simp only [lendL] at h
    split at h
    · rename_i y ys' e1 e2
      injection h with h; subst h
      simp only [AV.relV] at hV ⊢
      obtain ⟨u, us, e, h1, h2⟩ := hV
      exact ⟨u, us, e, lend_rel ha x y u e1 h1, lend_relV ha xs ys' us e2 h2⟩
    · cases h
end
theorem lendC_rel {ρ : List (Nat × Nat)} (ha : apart ρ = true) {ver : Nat → Nat} {pk ck : Nat} (hpk : pinOf ρ pk = some ck) {c c' : RowC} (h : lendC ρ ver c = some c') (hr : rowRel w p ver ck c) : rowRel w (lendPlan ρ p) (fun _ => 0) pk c' := by
  obtain ⟨hβ, hγ⟩ := lendPlan_pin (p := p) hpk
  unfold lendC at h
  split at h
  · split at h
    · rename_i cs _ xs e
      injection h with h; subst h
      simp only [rowRel] at hr ⊢
      obtain ⟨b, cells, t, h1, h2, h3, h4⟩ := hr
      exact ⟨b, cells, t, hβ.trans h1, h2, lend_relV ha cs xs _ e h3, h4⟩
    · cases h
  · injection h with h; subst h
    simp only [rowRel] at hr ⊢
    rw [hβ, hγ]; exact hr
  · injection h with h; subst h
    simp only [rowRel] at hr ⊢
    rw [hβ]; exact hr
  · cases h

mutual
theorem back_rel {ρ : List (Nat × Nat)} {R' : Nat → Prop} {ver : Nat → Nat} : ∀ (x : AV) (v : Value), x.rel w { lendPlan ρ p with R := R' } (fun _ => 0) v → (backA ρ ver x).rel w { p with R := R' } ver v
  | .r x, v, hv => by simp only [AV.rel] at hv; simp only [backA, AV.rel]; exact hv
  | .pt k n off, v, hv => by
    simp only [AV.rel] at hv
    simp only [backA]
    split
    · rename_i ck e
      simp only [AV.rel]
      refine ⟨Nat.le_refl _, fun _ => ?_⟩
      have := hv.2 (Nat.le_zero.1 hv.1)
      rwa [show ({ lendPlan ρ p with R := R' } : Plan).β k = p.β ck from (lendPlan_pin e).1] at this
    · exact AV.rel_un _ _ _ _
  | .pe k n sz idx off, v, hv => by
    simp only [AV.rel] at hv
    simp only [backA]
    split
    · rename_i ck e
      simp only [AV.rel]
      refine ⟨Nat.le_refl _, fun _ => ?_⟩
      have := hv.2 (Nat.le_zero.1 hv.1)
      rwa [show ({ lendPlan ρ p with R := R' } : Plan).β k = p.β ck from (lendPlan_pin e).1] at this
    · exact AV.rel_un _ _ _ _
  | .os k n sz off m, v, hv => by
    simp only [AV.rel] at hv
    simp only [backA]
    split
    · rename_i ck e
      simp only [AV.rel]
      refine ⟨Nat.le_refl _, fun _ => ?_⟩
      have := hv.2 (Nat.le_zero.1 hv.1)
      rwa [show ({ lendPlan ρ p with R := R' } : Plan).β k = p.β ck from (lendPlan_pin e).1, show ({ lendPlan ρ p with R := R' } : Plan).γ k = p.γ ck from (lendPlan_pin e).2] at this
    · exact AV.rel_un _ _ _ _
  | .mp k n, v, hv => by
    simp only [AV.rel] at hv
    simp only [backA]
    split
    · rename_i ck e
      simp only [AV.rel]
      refine ⟨Nat.le_refl _, fun _ => ?_⟩
      have := hv.2 (Nat.le_zero.1 hv.1)
      rwa [show ({ lendPlan ρ p with R := R' } : Plan).β k = p.β ck from (lendPlan_pin e).1] at this
    · exact AV.rel_un _ _ _ _
  | .fn f cs, v, hv => by
    simp only [AV.rel] at hv
    simp only [backA, AV.rel]
    obtain ⟨vs, e, hV⟩ := hv
    exact ⟨vs, e, back_relV cs _ hV⟩
  | .ag cs, v, hv => by
    simp only [AV.rel] at hv
    simp only [backA, AV.rel]
    obtain ⟨vs, e, h1, hV⟩ := hv
    exact ⟨vs, e, h1, back_relV cs _ hV⟩
  | .tu cs, v, hv => by
    simp only [AV.rel] at hv
    simp only [backA, AV.rel]
    obtain ⟨vs, e, hV⟩ := hv
    exact ⟨vs, e, back_relV cs _ hV⟩
  | .mi _ _, _, _ => by simp only [backA]; exact AV.rel_un _ _ _ _
theorem back_relV {ρ : List (Nat × Nat)} {R' : Nat → Prop} {ver : Nat → Nat} : ∀ (xs : List AV) (vs : List Value), AV.relV w { lendPlan ρ p with R := R' } (fun _ => 0) xs vs → AV.relV w { p with R := R' } ver (backL ρ ver xs) vs
  | [], _, hV => by simp only [AV.relV] at hV; simp only [backL, AV.relV]; exact hV
  | x :: xs, _, hV => by
    simp only [AV.relV] at hV
    obtain ⟨u, us, e, h1, h2⟩ := hV
    simp only [backL, AV.relV]
    exact ⟨u, us, e, back_rel x u h1, back_relV xs us h2⟩
end
theorem backC_rel {ρ : List (Nat × Nat)} {R' : Nat → Prop} {ver : Nat → Nat} {pk ck : Nat} (hpk : pinOf ρ pk = some ck) {c : RowC} (hok : okC c = true) (hr : rowRel w { lendPlan ρ p with R := R' } (fun _ => 0) pk c) : rowRel w { p with R := R' } ver ck (backC ρ ver c) := by
  obtain ⟨hβ, hγ⟩ := lendPlan_pin (p := p) hpk
  cases c with
  | box cs =>
    simp only [rowRel] at hr
    simp only [backC, rowRel]
    obtain ⟨b, cells, t, h1, h2, h3, h4⟩ := hr
    exact ⟨b, cells, t, hβ.symm.trans h1, h2, back_relV cs _ h3, h4⟩
  | arr t sz es =>
    simp only [rowRel] at hr
    simp only [backC, rowRel]
    rw [show ({ lendPlan ρ p with R := R' } : Plan).β pk = p.β ck from hβ, show ({ lendPlan ρ p with R := R' } : Plan).γ pk = p.γ ck from hγ] at hr
    exact hr
  | mp m =>
    simp only [rowRel] at hr
    simp only [backC, rowRel]
    rw [show ({ lendPlan ρ p with R := R' } : Plan).β pk = p.β ck from hβ] at hr
    exact hr
  | _ => simp [okC] at hok

theorem lendOk_get {ρ : List (Nat × Nat)} : ∀ {l : List (Nat × Nat)} {L : List (Nat × RowC)}, lendOk ρ s l L → (∀ pk ck, pinOf l pk = some ck → lendC ρ s.ver (s.rows ck).c = some (lookc L pk)) ∧ ∀ pk, pinOf l pk = none → lookc L pk = .dead
  | [], [], _ => ⟨fun _ _ h => by simp [pinOf] at h, fun _ _ => rfl⟩
  | [], _ :: _, h => by simp [lendOk] at h
  | _ :: _, [], h => by simp [lendOk] at h
  | (a, b) :: l, (k, c) :: L, h => by
    simp only [lendOk] at h
    obtain ⟨rfl, h1, h2⟩ := h
    obtain ⟨g1, g2⟩ := lendOk_get h2
    refine ⟨fun pk ck hp => ?_, fun pk hp => ?_⟩
    · simp only [pinOf] at hp
      simp only [lookc_cons]
      split at hp
      · rename_i e
        injection hp with hp; subst hp
        simp [e, h1]
      · rename_i e
        simp only [e, if_false]
        exact g1 pk ck hp
    · simp only [pinOf] at hp
      simp only [lookc_cons]
      split at hp
      · cases hp
      · rename_i e
        simp only [e, if_false]
        exact g2 pk hp
theorem backRows_get {ρ : List (Nat × Nat)} {ver : Nat → Nat} {L' : List (Nat × RowC)} : ∀ {l : List (Nat × Nat)} {rows : Nat → Row}, apart l = true →
    ∀ j, (lendKey l j = none → backRows ρ ver L' l rows j = rows j) ∧ ∀ pk, lendKey l j = some pk → backRows ρ ver L' l rows j = ⟨ver j, backC ρ ver (lookc L' pk)⟩
  | [], rows, _, j => ⟨fun _ => rfl, fun _ h => by simp [lendKey] at h⟩
  | (a, b) :: l, rows, ha, j => by
    simp only [apart, Bool.and_eq_true] at ha
    obtain ⟨g1, g2⟩ := backRows_get (ρ := ρ) (ver := ver) (L' := L') (rows := upd rows b ⟨ver b, backC ρ ver (lookc L' a)⟩) ha.2 j
    simp only [lendKey, backRows]
    refine ⟨fun h => ?_, fun pk h => ?_⟩
    · split at h
      · cases h
      · rename_i e
        rw [g1 h, upd_other _ _ e]
    · split at h
      · rename_i e
        injection h with h
        subst e h
        rw [g1 (Option.isNone_iff_eq_none.1 ha.1.2), upd_same]
      · exact g2 pk h

theorem sameKeys_ok : ∀ {l : List (Nat × Nat)} {L' : List (Nat × RowC)}, sameKeys l L' = true → ∀ pk, (pinOf l pk).isSome = true → okC (lookc L' pk) = true
  | [], [], _, pk, h => by simp [pinOf] at h
  | [], _ :: _, h, _, _ => by simp [sameKeys] at h
  | _ :: _, [], h, _, _ => by simp [sameKeys] at h
  | (a, b) :: l, (k, c) :: L, h, pk, hp => by
    simp only [sameKeys, Bool.and_eq_true, decide_eq_true_eq] at h
    obtain ⟨⟨rfl, h1⟩, h2⟩ := h
    simp only [pinOf] at hp
    simp only [lookc_cons]
    by_cases e : pk = a
    · simpa [e] using h1
    · simp only [e, if_false] at hp ⊢
      exact sameKeys_ok h2 pk hp
theorem lendKey_of_pin : ∀ {ρ : List (Nat × Nat)} {pk ck : Nat}, apart ρ = true → pinOf ρ pk = some ck → lendKey ρ ck = some pk
  | [], _, _, _, h => by simp [pinOf] at h
  | (a, b) :: ρ, pk, ck, ha, h => by
    simp only [apart, Bool.and_eq_true] at ha
    simp only [pinOf] at h
    simp only [lendKey]
    split at h
    · rename_i e
      injection h with h
      subst e h
      simp
    · have := lendKey_of_pin ha.2 h
      by_cases e : ck = b
      · subst e
        rw [Option.isNone_iff_eq_none.1 ha.1.2] at this; cases this
      · simpa [e] using this

theorem mcall_sound (h : SR C p s a w) {f : Operand} {args : Array Operand} {ts : Array TypeId} (ho : o.op = .call ⟨.value f, args, ts⟩) {KA : AS → Prop} (hm : mcall P s o.dst (s.ev f) (args.toList.map s.ev) KA)
    (hd : ∀ t, o.dst = some t → t < s.n) {K : Act → World → Prop} {Q : Exit → Act → World → Prop} (hK : ∀ a' w' p' s', SR C p' s' a' w' → s'.n = s.n → KA s' → K a' w') : o.wp P a w K Q := by
  obtain ⟨F, cs, ρ, L, L', as, r, hF, hl, hlo, hap, hsk, ⟨hcal, hcalls⟩, hKA⟩ := hm
  have hokc := sameKeys_ok hsk
  have hargs := relV_ev h args.toList
  obtain ⟨vs, hfv, hcs⟩ : ∃ vs : Array Value, a.eval f = .func (.func F) #[] vs ∧ AV.relV w p s.ver cs vs.toList := by
    have hx := h.ev f
    unfold callee? at hF
    split at hF
    · rename_i g cs' e
      injection hF with hF
      injection hF with h1 h2
      subst h1 h2
      rw [e] at hx
      simp only [AV.rel, RV.rel] at hx
      obtain ⟨vs, hv, hV⟩ := hx
      exact ⟨vs, hv, AV.relV_map_r hV⟩
    · rename_i g cs' e
      injection hF with hF
      injection hF with h1 h2
      subst h1 h2
      rw [e] at hx
      simp only [AV.rel] at hx
      exact hx
    · cases hF
  have hall := AV.relV_append hargs hcs
  have hlist : (args.map a.eval ++ vs).toList = args.toList.map a.eval ++ vs.toList := by simp
  rw [← hlist] at hall
  have hrun : (execOp a.eval o).run P w = .ok (.enter F (args.map a.eval ++ vs)) w := by
    simp only [execOp, ho, Sem.run_bind, resolve, hfv, Deferred.ofValue, Sem.run_pure, Result.andThen_ok, invoke]
    simpa using run_callFunc hcal (args.map a.eval ++ vs) w
  unfold Oper.wp
  rw [hrun, Oper.upon_enter]
  obtain ⟨hg1, hg2⟩ := lendOk_get hlo
  have hβl : ∀ k b, (lendPlan ρ p).β k = some b → ∃ ck, pinOf ρ k = some ck ∧ p.β ck = some b := fun k b hb => by
    simp only [lendPlan] at hb
    split at hb
    · rename_i ck e; exact ⟨ck, e, hb⟩
    · cases hb
  refine (hcalls w (lendPlan ρ p) _ h.rb (fun k b hb => ?_) (fun k k' b hb hb' => ?_) (fun k => ?_) (fun k => ?_) (lend_relV hap _ _ _ hl hall)).mono ?_
  · obtain ⟨ck, _, hb⟩ := hβl k b hb
    exact ⟨(h.bl ck b hb).1, (h.bl ck b hb).2.1⟩
  · obtain ⟨ck, e1, hb⟩ := hβl k b hb
    obtain ⟨ck', e2, hb'⟩ := hβl k' b hb'
    have := h.ij ck ck' b hb hb'
    subst this
    exact pinOf_inj hap e1 e2
  · simp only [lendPlan]
    split
    · exact h.cap _
    · simp [maxLen]
  · cases hp : pinOf ρ k with
    | none =>
      rw [hg2 k hp]
      simp only [rowRel, lendPlan, hp]
      exact ⟨trivial, trivial⟩
    | some ck => exact lendC_rel hap hp (hg1 k ck hp) (h.rw ck)
  rintro e w' ⟨v, R', rfl, ⟨g1, g2, g3, g4⟩, hblk, hR1, hR2, hR3, hrows, hrel⟩
  -- blocks that are not lent stay
  have hstay : ∀ b, b < w.heap.size → (∀ ck, (lendKey ρ ck).isSome = true → p.β ck ≠ some b) → w'.heap[b]? = w.heap[b]? := fun b hb hn => hblk b hb (fun j hj => by
    obtain ⟨ck, e1, hb'⟩ := hβl j b hj
    exact hn ck (by rw [lendKey_of_pin hap e1]; rfl) hb')
  have hstayR : ∀ b, p.R b → w'.heap[b]? = w.heap[b]? := fun b hb => hstay b (h.rb b hb) (fun ck _ hc => (h.bl ck b hc).2.1 hb)
  have hver : ∀ j, (backRows ρ s.ver L' ρ s.rows j).ver = s.ver j := fun j => by
    obtain ⟨q1, q2⟩ := backRows_get (ρ := ρ) (ver := s.ver) (L' := L') (rows := s.rows) hap j
    cases hk : lendKey ρ j with
    | none => rw [q1 hk]; rfl
    | some pk => rw [q2 pk hk]
  have hk : Kept w w' p { p with R := R' } s.ver (AS.ver { s with rows := backRows ρ s.ver L' ρ s.rows }) :=
    ⟨hR1, fun ad hr => World.cell?_of_block (hstayR _ hr), fun j => Nat.le_of_eq (hver j).symm, fun j _ => ⟨rfl, rfl⟩⟩
  have hpin : ∀ j pk, lendKey ρ j = some pk → pinOf ρ pk = some j := fun j pk hj => pin_lend hap hj
  have hok : ∀ j pk, lendKey ρ j = some pk → ∃ c, lendC ρ s.ver (s.rows j).c = some c := fun j pk hj => ⟨_, hg1 pk j (hpin j pk hj)⟩
  have hnmp : ∀ j pk, lendKey ρ j = some pk → (s.rows j).c.isMpi = false ∧ (s.rows j).c.isMi = false := fun j pk hj => by
    obtain ⟨c, hc⟩ := hok j pk hj
    unfold lendC at hc
    split at hc
    · rename_i e; rw [e]; exact ⟨rfl, rfl⟩
    · rename_i e; rw [e]; exact ⟨rfl, rfl⟩
    · rename_i e; rw [e]; exact ⟨rfl, rfl⟩
    · cases hc
  have hSR : SR C { p with R := R' } { s with rows := backRows ρ s.ver L' ρ s.rows } a w' := {
    base := ⟨g1.trans h.base.os, g2.trans h.base.tape, g3.trans h.base.output, Nat.le_trans h.base.size g4, fun b hb hn => by
      refine (hstay b (Nat.lt_of_lt_of_le hb h.base.size) fun ck _ hc => ?_).trans (h.base.block b hb hn)
      rcases (h.bl ck b hc).2.2 with h1 | h1
      · omega
      · exact hn h1.2⟩
    r0 := fun b hb => hR1 b (h.r0 b hb)
    rn := fun b hb => (hR2 b hb).elim (h.rn b) (fun hl => .inr (Nat.le_trans h.base.size hl))
    rb := hR3
    tm := fun t => AV.rel_mono hk _ _ (h.tm t)
    sz := h.sz
    df := h.df
    rw := fun j => by
      show rowRel _ _ _ j (backRows ρ s.ver L' ρ s.rows j).c
      obtain ⟨q1, q2⟩ := backRows_get (ρ := ρ) (ver := s.ver) (L' := L') (rows := s.rows) hap j
      cases hj : lendKey ρ j with
      | none =>
        rw [q1 hj]
        refine rowRel_mono hk rfl rfl (fun b hb => hstay b (h.bl j b hb).1 fun ck hc hb' => ?_) _ (fun km n l cur hcc hn b hb => hstay b (h.bl km b hb).1 fun ck hc hb' => ?_) (h.rw j)
        · have := h.ij j ck b hb hb'
          subst this
          rw [hj] at hc; cases hc
        · have e3 := h.ij km ck b hb hb'
          subst e3
          obtain ⟨pk, hpk⟩ := Option.isSome_iff_exists.1 hc
          have h1 := h.lk j km n l cur hcc (hn.trans (hver km))
          rw [(hnmp km pk hpk).1] at h1; cases h1
      | some pk =>
        rw [q2 pk hj]
        have e : AS.ver { s with rows := backRows ρ s.ver L' ρ s.rows } = s.ver := funext hver
        rw [e]
        exact backC_rel (hpin j pk hj) (hokc pk (by rw [hpin j pk hj]; rfl)) (hrows pk)
    bl := fun j b hb => ⟨Nat.lt_of_lt_of_le (h.bl j b hb).1 g4, fun hr => (hR2 b hr).elim (h.bl j b hb).2.1 (fun hl => by have := (h.bl j b hb).1; omega), (h.bl j b hb).2.2⟩
    ij := h.ij
    cap := h.cap
    pn := fun j x hx => by
      obtain ⟨h1, h2, h3, h4⟩ := h.pn j x hx
      exact ⟨h1, h2, (hver j).trans h3, h4⟩
    lk := fun j km n l cur hj hn => by
      show (backRows ρ s.ver L' ρ s.rows km).c.isMpi = true
      have hj' : (backRows ρ s.ver L' ρ s.rows j).c = .mi km n l cur := hj
      obtain ⟨q1, q2⟩ := backRows_get (ρ := ρ) (ver := s.ver) (L' := L') (rows := s.rows) hap j
      cases hjk : lendKey ρ j with
      | none =>
        rw [q1 hjk] at hj'
        have h1 := h.lk j km n l cur hj' (hn.trans (hver km))
        obtain ⟨q3, q4⟩ := backRows_get (ρ := ρ) (ver := s.ver) (L' := L') (rows := s.rows) hap km
        cases hkk : lendKey ρ km with
        | none => rw [q3 hkk]; exact h1
        | some pk => rw [(hnmp km pk hkk).1] at h1; cases h1
      | some pk =>
        rw [q2 pk hjk] at hj'
        have : ∀ c : RowC, backC ρ s.ver c ≠ .mi km n l cur := fun c => by cases c <;> simp [backC]
        exact (this _ hj').elim }
  have hput := hSR.put' (d := o.dst) (av := backA ρ s.ver r) (v := v) (by
    have e : AS.ver { s with rows := backRows ρ s.ver L' ρ s.rows } = s.ver := funext hver
    rw [e]
    exact back_rel r v hrel) hd
  refine hK _ _ _ _ hput ?_ hKA
  cases o.dst <;> rfl

/-! ### Calls that return a slice of their own making -/
/-- The call reads, and returns m elements, the first ones of a row that nobody else knows: its elements are es. -/
def OCalls (P : Program) (f : FuncId) (args : List RV) (t sz : Nat) (es : List (List RV)) (m : Nat) : Prop :=
  callable P f = true ∧ ∀ (w : World) (R : Nat → Prop) (vs : Array Value), (∀ b, R b → b < w.heap.size) → RV.relV w R args vs.toList →
    Calls P f vs w fun e w' => ∃ v β g, e = .returned v ∧ Below w.heap.size w w' ∧ g ≤ maxLen ∧ (∀ b, β = some b → w.heap.size ≤ b ∧ b < w'.heap.size) ∧
      ((β = none ∧ es = [] ∧ g = 0 ∧ m = 0 ∧ ∃ A, v = .slice A 0 0) ∨
        ∃ b cells A, β = some b ∧ w'.heap[b]? = some (.cells cells t (0, 0)) ∧ cells.size = g * sz ∧ es.length ≤ g ∧ RV.relE w' (fun _ => False) sz es ⟨b, 0, none⟩ 0 ∧ v = .slice A m g ∧ m ≤ g ∧ A = some ⟨b, 0, none⟩)
def ocall (P : Program) (s : AS) (d : Option Nat) (f : AV) (xs : List AV) (K : AS → Prop) : Prop :=
  ∃ F cs args t sz es m dd, callee? f = some (F, cs) ∧ snapPL s.rows (xs ++ cs) ∧ RV.leL (snapVL s.rows (xs ++ cs)) args ∧ OCalls P F args t sz es m ∧ d = some dd ∧ dd < 1000 ∧
    K (AS.put (s.row dd ⟨(s.rows dd).ver + 1, .arr t sz es⟩) d (.os dd ((s.rows dd).ver + 1) sz 0 m))
theorem ocall_sound (h : SR C p s a w) {f : Operand} {args : Array Operand} {ts : Array TypeId} (ho : o.op = .call ⟨.value f, args, ts⟩) {KA : AS → Prop} (hm : ocall P s o.dst (s.ev f) (args.toList.map s.ev) KA)
    (hd : ∀ t, o.dst = some t → t < s.n) {K : Act → World → Prop} {Q : Exit → Act → World → Prop} (hK : ∀ a' w' p' s', SR C p' s' a' w' → s'.n = s.n → KA s' → K a' w') : o.wp P a w K Q := by
  obtain ⟨F, cs, args', t, sz, es, m, dd, hF, hsn, hle, ⟨hcal, hcalls⟩, hdd, hd0, hKA⟩ := hm
  have hargs := relV_ev h args.toList
  obtain ⟨vs, hfv, hcs⟩ : ∃ vs : Array Value, a.eval f = .func (.func F) #[] vs ∧ AV.relV w p s.ver cs vs.toList := by
    have hx := h.ev f
    unfold callee? at hF
    split at hF
    · rename_i g cs' e
      injection hF with hF
      injection hF with h1 h2
      subst h1 h2
      rw [e] at hx
      simp only [AV.rel, RV.rel] at hx
      obtain ⟨vs, hv, hV⟩ := hx
      exact ⟨vs, hv, AV.relV_map_r hV⟩
    · rename_i g cs' e
      injection hF with hF
      injection hF with h1 h2
      subst h1 h2
      rw [e] at hx
      simp only [AV.rel] at hx
      exact hx
    · cases hF
  have hall := AV.relV_append hargs hcs
  have hlist : (args.map a.eval ++ vs).toList = args.toList.map a.eval ++ vs.toList := by simp
  have hrun : (execOp a.eval o).run P w = .ok (.enter F (args.map a.eval ++ vs)) w := by
    simp only [execOp, ho, Sem.run_bind, resolve, hfv, Deferred.ofValue, Sem.run_pure, Result.andThen_ok, invoke]
    simpa using run_callFunc hcal (args.map a.eval ++ vs) w
  unfold Oper.wp
  rw [hrun, Oper.upon_enter]
  have hV := le_relV _ _ _ hle (snap_relV h _ _ hsn (by rw [← hlist] at hall; exact hall))
  refine (hcalls w p.all _ (fun b hb => hb.elim (h.rb b) (fun ⟨k, hk⟩ => (h.bl k b hk).1)) hV).mono ?_
  rintro e w' ⟨v, β, g, rfl, hb, hg, hβ, hrow⟩
  have hSR := h.reRow (w' := w') dd hd0 (.arr t sz es) rfl β g hg hb.os hb.tape hb.output hb.size (fun i hi _ => hb.block i hi) (fun b hb' => ⟨(hβ b hb').2, .inr (hβ b hb').1⟩) (fun p' ver' _ hβ' hγ' _ => by
    simp only [rowRel]
    rw [hβ', hγ']
    rcases hrow with ⟨h1, h2, h3, _⟩ | ⟨b, cells, A, h1, h2, h3, h4, h5, _⟩
    · exact .inl ⟨h1, h2, h3⟩
    · exact .inr ⟨b, cells, h1, h2, h3, h4, RV.relE_mono (fun _ h => h.elim) (fun _ _ => rfl) _ _ _ _ (fun _ => rfl) h5⟩)
  have hput := hSR.put' (d := o.dst) (av := .os dd ((s.rows dd).ver + 1) sz 0 m) (v := v) (by
    simp only [AV.rel, AS.ver, upd_same]
    refine ⟨Nat.le_refl _, fun _ => ?_⟩
    rcases hrow with ⟨h1, h2, h3, h4, A, h5⟩ | ⟨b, cells, A, h1, h2, h3, h4, h5, h6, h7, h8⟩
    · exact .inl ⟨h1, h3, trivial, h4, A, h5⟩
    · exact .inr ⟨b, A, h1, by simpa using h6, by omega, fun _ => by simpa using h8⟩) hd
  refine hK _ _ _ _ hput ?_ hKA
  cases o.dst <;> rfl
end
end Go.Oc
