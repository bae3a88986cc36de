/- Each operation does what 'step' says: what reads. -/
import Derived.Test.YtnklbfmdojpfkaaOd
import Derived.Laws.StructEq
import Derived.ChangeKeysEq
namespace Go.Oc
open Go Go.RowKit

/-- The operation goes through, and leaves what 'r' says. -/
def Done (P : Program) (C : Ctx) (o : Oper) (s : AS) (a : Act) (w : World) (r : Res) : Prop :=
  ∃ nx v w' p', (execOp a.eval o).run P w = .ok nx w' ∧ (nx = .value v ∨ (nx = .skip ∧ v = undef)) ∧ r.ass ∧
    SR C p' { s with rows := r.y.rows s.rows } a w' ∧ r.y.av.rel w' p' (vers (r.y.rows s.rows)) v

section
variable {P : Program} {C : Ctx} {p : Plan} {s : AS} {a : Act} {w : World} {o : Oper}

theorem done_of {r : Res} (h : SR C p s a w) {v : Value} (hrun : (execOp a.eval o).run P w = .ok (.value v) w) (heff : r.y.eff = []) (hass : r.ass) (hrel : r.y.av.rel w p s.ver v) : Done P C o s a w r := by
  have hr : r.y.rows s.rows = s.rows := by simp [Yi.rows, heff]
  refine ⟨_, v, w, p, hrun, .inl rfl, hass, ?_, ?_⟩
  · rw [hr]; exact h
  · rw [hr]; exact hrel
theorem done_when {c : Prop} {av : AV} (h : SR C p s a w) {v : Value} (hrun : (execOp a.eval o).run P w = .ok (.value v) w) (hrel : av.rel w p s.ver v) : Done P C o s a w (.when c av) :=
  done_of h hrun rfl trivial hrel
theorem done_v {av : AV} (h : SR C p s a w) {v : Value} (hrun : (execOp a.eval o).run P w = .ok (.value v) w) (hrel : av.rel w p s.ver v) : Done P C o s a w (.val av) :=
  done_of h hrun rfl trivial hrel

theorem good_move {x : Operand} (h : SR C p s a w) (ho : o.op = .move x) : Done P C o s a w (.val (s.ev x)) :=
  done_v h (by simp [execOp, ho]) (h.ev x)
theorem good_assign {x : Operand} (h : SR C p s a w) (ho : o.op = .assign x) : Done P C o s a w (.val (s.ev x)) :=
  done_v h (by simp [execOp, ho]) (h.ev x)

theorem ev_bo {x : Operand} {b : Bool} (h : SR C p s a w) (e : s.ev x = .r (.bo b)) : a.eval x = .bool b := by
  have := h.ev x; rw [e] at this; simpa [AV.rel, RV.rel] using this
theorem ev_it {x : Operand} {k : IntKind} {n : Int} (h : SR C p s a w) (e : s.ev x = .r (.it k n)) : a.eval x = .int k n := by
  have := h.ev x; rw [e] at this; simpa [AV.rel, RV.rel] using this
theorem ev_rp {x : Operand} {cs : List RV} (h : SR C p s a w) (e : s.ev x = .r (.rp cs)) : ∃ ad, a.eval x = .pointer (some ad) ∧ p.R ad.block ∧ RV.relC w p.R cs ad 0 := by
  have := h.ev x; rw [e] at this; simpa [AV.rel, RV.rel] using this
theorem ev_pt {x : Operand} {k n off : Nat} (h : SR C p s a w) (e : s.ev x = .pt k n off) (hn : n = s.ver k) : ∃ b, p.β k = some b ∧ a.eval x = .pointer (some ⟨b, off, none⟩) := by
  have := h.ev x; rw [e] at this; simp only [AV.rel] at this; exact this.2 hn
theorem ev_pe {x : Operand} {k n sz idx off : Nat} (h : SR C p s a w) (e : s.ev x = .pe k n sz idx off) (hn : n = s.ver k) : ∃ b, p.β k = some b ∧ a.eval x = .pointer (some ⟨b, idx * sz + off, none⟩) := by
  have := h.ev x; rw [e] at this; simp only [AV.rel] at this; exact this.2 hn
theorem ev_ns {x : Operand} (h : SR C p s a w) (e : s.ev x = .r .ns) : ∃ A, a.eval x = .slice A 0 0 := by
  have := h.ev x; rw [e] at this; simpa [AV.rel, RV.rel] using this
theorem ev_sl {x : Operand} {sz : Nat} {es : List (List RV)} (h : SR C p s a w) (e : s.ev x = .r (.sl sz es)) :
    ∃ A c, a.eval x = .slice A es.length c ∧ es.length ≤ c ∧ c ≤ maxLen ∧ (es ≠ [] → ∃ ad, A = some ad ∧ p.R ad.block ∧ RV.relE w p.R sz es ad 0) := by
  have := h.ev x; rw [e] at this; simpa only [AV.rel, RV.rel] using this
theorem ev_os {x : Operand} {k n sz off m : Nat} (h : SR C p s a w) (e : s.ev x = .os k n sz off m) (hn : n = s.ver k) :
    (p.β k = none ∧ p.γ k = 0 ∧ off = 0 ∧ m = 0 ∧ ∃ A, a.eval x = .slice A 0 0) ∨
      ∃ b A, p.β k = some b ∧ a.eval x = .slice A m (p.γ k - off) ∧ off + m ≤ p.γ k ∧ ((0 < m ∨ off = 0) → A = some ⟨b, off * sz, none⟩) := by
  have := h.ev x; rw [e] at this; simp only [AV.rel] at this; exact this.2 hn

theorem good_pick {c x y : Operand} (h : SR C p s a w) (ho : o.op = .pick c x y) (hp : (sPick (s.ev c) (s.ev x) (s.ev y)).pre) : Done P C o s a w (sPick (s.ev c) (s.ev x) (s.ev y)) := by
  unfold sPick at hp ⊢
  split at hp
  · rename_i t e
    have hc := ev_bo h e
    have hrun : (execOp a.eval o).run P w = .ok (.value (if t then a.eval x else a.eval y)) w := by
      simp [execOp, ho, hc, asBool]
    refine done_v h hrun ?_
    unfold pickA
    split
    · rename_i u v e1 e2
      have h1 := ev_bo h e1
      have h2 := ev_bo h e2
      rw [h1, h2]
      cases t <;> simp [AV.rel, RV.rel]
    · cases t
      · exact h.ev y
      · exact h.ev x
  · exact hp.elim

theorem run_int_shift {op : BinOp} {t t' : TypeId} {x y : Operand} (ho : o.op = .binOp op t x y t') {k k' : IntKind} {m n : Int} (hx : a.eval x = .int k m) (hy : a.eval y = .int k' n) {v : Value}
    (hr : (Go.binOp op t (.int k m) (.int k' n)).run P w = .ok v w) : (execOp a.eval o).run P w = .ok (.value v) w := by
  have hg : (eqGuard op t x y (.int k m) (.int k' n)).run P w = .ok () w := by
    unfold eqGuard
    split <;> simp
  simp [execOp, ho, hx, hy, hg, hr]
theorem run_and {P : Program} {t : TypeId} {k : IntKind} {m n : Int} (w : World) : (Go.binOp .and t (.int k m) (.int k n)).run P w = .ok (.int k (bitAnd k m n)) w := by
  simp only [Go.binOp, Op.intBits, ne_eq, not_true_eq_false, if_false, Sem.run_pure, bitAnd]
theorem run_or {P : Program} {t : TypeId} {k : IntKind} {m n : Int} (w : World) : (Go.binOp .or t (.int k m) (.int k n)).run P w = .ok (.int k (bitOr k m n)) w := by
  simp only [Go.binOp, Op.intBits, ne_eq, not_true_eq_false, if_false, Sem.run_pure, bitOr]
theorem run_shr {P : Program} {t : TypeId} {k k' : IntKind} {m n : Int} (w : World) (hn : 0 ≤ n) : (Go.binOp .shr t (.int k m) (.int k' n)).run P w = .ok (.int k (shrI k m n)) w := by
  simp only [Go.binOp, Op.shift, if_neg (show ¬ n < 0 by omega), Sem.run_pure, shrI]
theorem run_shl {P : Program} {t : TypeId} {k k' : IntKind} {m n : Int} (w : World) (hn : 0 ≤ n) : (Go.binOp .shl t (.int k m) (.int k' n)).run P w = .ok (.int k (shlI k m n)) w := by
  simp only [Go.binOp, Op.shift, if_neg (show ¬ n < 0 by omega), Sem.run_pure, shlI]
theorem good_un {op : UnOp} {t : TypeId} {x : Operand} (h : SR C p s a w) (ho : o.op = .unOp op t x) (hp : (sUn op (s.ev x)).pre) : Done P C o s a w (sUn op (s.ev x)) := by
  unfold sUn at hp ⊢
  split at hp
  · rename_i b e
    exact done_v h (v := .bool (!b)) (by simp [execOp, ho, ev_bo h e, Op.unary]) (by simp [AV.rel, RV.rel])
  · rename_i k n e
    exact done_v h (v := .int k (k.wrap (0 - n))) (by simp [execOp, ho, ev_it h e, Op.unary, Op.intArith]) (by simp [AV.rel, RV.rel])
  · exact hp.elim

theorem run_int_bin {op : BinOp} {t t' : TypeId} {x y : Operand} (ho : o.op = .binOp op t x y t') {k : IntKind} {m n : Int} (hx : a.eval x = .int k m) (hy : a.eval y = .int k n) {v : Value}
    (hr : (Go.binOp op t (.int k m) (.int k n)).run P w = .ok v w) : (execOp a.eval o).run P w = .ok (.value v) w := by
  have hg : (eqGuard op t x y (.int k m) (.int k n)).run P w = .ok () w := by
    unfold eqGuard
    split <;> simp
  simp [execOp, ho, hx, hy, hg, hr]

theorem run_equal_bool {t : TypeId} (w : World) (hu : P.underlying t = some .bool) (u v : Bool) : (Op.equal t (.bool u) (.bool v)).run P w = .ok (u == v) w := by
  have h : ∀ d : Nat, (Op.equalIn (d + 1) t (.bool u) (.bool v)).run P w = .ok (u == v) w := fun d => by
    simp only [Op.equalIn, Sem.run_bind, run_underlying hu, Result.andThen_ok, Sem.run_pure]
  exact h 9999
/-! ### Equality of several cells -/
theorem roL_rel : ∀ {xs : List AV} {ys : List RV} {vs : List Value} {ver : Nat → Nat}, roL xs = some ys → AV.relV w p ver xs vs → RV.relV w p.R ys vs
  | [], ys, vs, _, h, hV => by simp only [roL] at h; injection h with h; subst h; simpa only [AV.relV, RV.relV] using hV
  | x :: xs, ys, vs, _, h, hV => by
    cases x with
    | r v =>
      simp only [roL] at h
      cases hr : roL xs with
      | none => simp [hr] at h
      | some zs =>
        simp only [hr, Option.some.injEq] at h
        subst h
        simp only [AV.relV] at hV
        obtain ⟨u, us, rfl, hu, hV⟩ := hV
        simp only [RV.relV]
        simp only [AV.rel] at hu
        exact ⟨u, us, rfl, hu, roL_rel hr hV⟩
    | _ => simp [roL] at h
theorem agR_rel {x : AV} {xs : List RV} {v : Value} {ver : Nat → Nat} (h : agR x = some xs) (hx : x.rel w p ver v) : ∃ vs, v = .agg vs ∧ (∀ u ∈ vs.toList, u.oneCell' = true) ∧ RV.relV w p.R xs vs.toList := by
  unfold agR at h
  split at h
  · injection h with h; subst h
    simp only [AV.rel, RV.rel] at hx
    exact hx
  · simp only [AV.rel] at hx
    obtain ⟨vs, e, h1, hV⟩ := hx
    exact ⟨vs, e, h1, roL_rel h hV⟩
  · cases h
theorem valR_rel {x : AV} {y : RV} {v : Value} {ver : Nat → Nat} (h : valR x = some y) (hx : x.rel w p ver v) : y.rel w p.R v := by
  unfold valR at h
  split at h
  · injection h with h; subst h; simpa only [AV.rel] using hx
  · split at h
    · rename_i xs e
      injection h with h; subst h
      simp only [AV.rel] at hx
      obtain ⟨vs, e2, h1, hV⟩ := hx
      simp only [RV.rel]
      exact ⟨vs, e2, h1, roL_rel e hV⟩
    · cases h
  · cases h
theorem cmpL_len : ∀ {as bs : List RV} {r : Bool}, cmpL as bs = some r → as.length = bs.length
  | [], [], _, _ => rfl
  | [], _ :: _, _, h => by simp [cmpL] at h
  | a :: as, [], _, h => by cases a <;> simp [cmpL] at h
  | a :: as, b :: bs, r, h => by
    cases a <;> cases b <;> simp only [cmpL, reduceCtorEq] at h
    split at h
    · split at h
      · rename_i e; simp [cmpL_len e]
      · cases h
    · cases h
/-- The cells from i on, compared one after another. -/
theorem cmpL_cons {as bs : List RV} {r : Bool} (h : cmpL as bs = some r) {i : Nat} (hi : i < as.length) : ∃ k a b, as[i]? = some (.it k a) ∧ bs[i]? = some (.it k b) := by
  induction as generalizing bs r i with
  | nil => simp at hi
  | cons x as ih =>
    cases bs with
    | nil => cases x <;> simp [cmpL] at h
    | cons y bs =>
      cases x <;> cases y <;> simp only [cmpL, reduceCtorEq] at h
      split at h
      · rename_i hk
        subst hk
        split at h
        · rename_i r' e
          cases i with
          | zero => exact ⟨_, _, _, rfl, rfl⟩
          | succ i => simpa using ih e (by simpa using hi)
        · cases h
      · cases h
theorem run_part_int {e : TypeId} {k : IntKind} (he : P.underlying e = some (.int k)) {xs : Array Value} {off : Nat} {v : Value} (hx : xs[off]? = some v) : (part e xs off).run P w = .ok v w := by
  simp [part, isAgg, run_underlying he, hx]
theorem eqFields_run (d : Nat) (xs ys : Array Value) : ∀ (fs : List Field) (i : Nat) (as bs : List RV) (r : Bool), (∀ f ∈ fs, f.name ≠ "_" ∧ ∃ k, P.underlying f.type = some (.int k)) → fs.map (·.offset) = List.range' i fs.length →
    RV.relV w p.R as (xs.toList.drop i) → RV.relV w p.R bs (ys.toList.drop i) → as.length = fs.length → cmpL as bs = some r → (Op.eqFields (d + 1) xs ys fs).run P w = .ok r w
  | [], _, as, bs, r, _, _, _, _, hl, h => by
    have : as = [] := List.eq_nil_of_length_eq_zero hl
    subst this
    have hb := cmpL_len h
    have : bs = [] := List.eq_nil_of_length_eq_zero hb.symm
    subst this
    simp only [cmpL, Option.some.injEq] at h
    subst h
    simp [Op.eqFields]
  | f :: fs, i, [], _, _, _, _, _, _, hl, _ => by simp at hl
  | f :: fs, i, a :: as, [], _, _, _, _, _, hl, h => by cases a <;> simp [cmpL] at h
  | f :: fs, i, a :: as, b :: bs, r, hf, ho, hx, hy, hl, h => by
    obtain ⟨hn, k, hk⟩ := hf f (by simp)
    simp only [List.map_cons, List.length_cons, List.range'_succ, List.cons.injEq] at ho
    simp only [RV.relV] at hx hy
    obtain ⟨u, us, hxe, hu, hx⟩ := hx
    obtain ⟨u', us', hye, hu', hy⟩ := hy
    have hxi : xs[i]? = some u := by
      have : (xs.toList.drop i)[0]? = some u := by rw [hxe]; rfl
      simpa using this
    have hyi : ys[i]? = some u' := by
      have : (ys.toList.drop i)[0]? = some u' := by rw [hye]; rfl
      simpa using this
    have hx' : xs.toList.drop (i + 1) = us := by rw [← List.drop_drop, hxe]; rfl
    have hy' : ys.toList.drop (i + 1) = us' := by rw [← List.drop_drop, hye]; rfl
    cases a <;> cases b <;> simp only [cmpL, reduceCtorEq] at h
    split at h
    · rename_i ka m kb n e
      subst e
      split at h
      · rename_i r' e
        injection h with h
        subst h
        simp only [RV.rel] at hu hu'
        subst hu hu'
        simp only [Op.eqFields, ne_eq, hn, not_false_eq_true, if_true, Sem.run_bind, ho.1, run_part_int hk hxi, run_part_int hk hyi, Result.andThen_ok, run_equalIn_int w d f.type ka k m n hk]
        cases hmn : (m == n)
        · simp
        · simp only [Bool.not_true, Bool.false_eq_true, if_false, Bool.true_and]
          exact eqFields_run d xs ys fs (i + 1) as bs r' (fun g hg => hf g (by simp [hg])) ho.2 (by rw [hx']; exact hx) (by rw [hy']; exact hy) (by simpa using hl) e
      · cases h
    · cases h
theorem eqItems_run (d : Nat) {e : TypeId} {k : IntKind} (hk : P.underlying e = some (.int k)) (xs ys : Array Value) : ∀ (n i : Nat) (as bs : List RV) (r : Bool),
    RV.relV w p.R as (xs.toList.drop i) → RV.relV w p.R bs (ys.toList.drop i) → as.length = n → cmpL as bs = some r → (Op.eqItems (d + 1) e 1 xs ys (List.range' i n)).run P w = .ok r w
  | 0, _, as, bs, r, _, _, hl, h => by
    have : as = [] := List.eq_nil_of_length_eq_zero hl
    subst this
    have hb := cmpL_len h
    have : bs = [] := List.eq_nil_of_length_eq_zero hb.symm
    subst this
    simp only [cmpL, Option.some.injEq] at h
    subst h
    simp [Op.eqItems]
  | n + 1, i, [], _, _, _, _, hl, _ => by simp at hl
  | n + 1, i, a :: as, [], _, _, _, hl, h => by cases a <;> simp [cmpL] at h
  | n + 1, i, a :: as, b :: bs, r, hx, hy, hl, h => by
    simp only [RV.relV] at hx hy
    obtain ⟨u, us, hxe, hu, hx⟩ := hx
    obtain ⟨u', us', hye, hu', hy⟩ := hy
    have hxi : xs[i]? = some u := by
      have : (xs.toList.drop i)[0]? = some u := by rw [hxe]; rfl
      simpa using this
    have hyi : ys[i]? = some u' := by
      have : (ys.toList.drop i)[0]? = some u' := by rw [hye]; rfl
      simpa using this
    have hx' : xs.toList.drop (i + 1) = us := by rw [← List.drop_drop, hxe]; rfl
    have hy' : ys.toList.drop (i + 1) = us' := by rw [← List.drop_drop, hye]; rfl
    cases a <;> cases b <;> simp only [cmpL, reduceCtorEq] at h
    split at h
    · rename_i ka m kb n' e
      subst e
      split at h
      · rename_i r' e
        injection h with h
        subst h
        simp only [RV.rel] at hu hu'
        subst hu hu'
        simp only [List.range'_succ, Op.eqItems, Sem.run_bind, Nat.mul_one, run_part_int hk hxi, run_part_int hk hyi, Result.andThen_ok, run_equalIn_int w d _ ka k m n' hk]
        cases hmn : (m == n')
        · simp
        · simp only [Bool.not_true, Bool.false_eq_true, if_false, Bool.true_and]
          exact eqItems_run d hk xs ys n (i + 1) as bs r' (by rw [hx']; exact hx) (by rw [hy']; exact hy) (by simpa using hl) e
      · cases h
    · cases h
theorem eqT_run {t : TypeId} {n : Nat} (ht : eqT P t = some n) {xs ys : Array Value} {as bs : List RV} {r : Bool} (hx : RV.relV w p.R as xs.toList) (hy : RV.relV w p.R bs ys.toList) (hl : as.length = n) (h : cmpL as bs = some r) :
    (Op.equalIn 10000 t (.agg xs) (.agg ys)).run P w = .ok r w ∧ P.eqGuardType P.depth t = false := by
  unfold eqT at ht
  split at ht
  · rename_i fs hu
    split at ht
    · rename_i hc
      injection ht with ht
      subst ht
      simp only [Bool.and_eq_true, List.all_eq_true, bne_iff_ne, ne_eq, beq_iff_eq, Bool.not_eq_true'] at hc
      obtain ⟨⟨⟨h1, h2⟩, h3⟩, h4⟩ := hc
      have hfs : P.fieldsOf t = fs := by simp [Program.fieldsOf, hu]
      refine ⟨?_, h4⟩
      rw [run_equalIn_struct w 9999 t xs ys (by rw [hfs]; exact hu) h3, hfs]
      refine eqFields_run 9998 xs ys fs.toList 0 as bs r (fun f hf => ?_) ?_ (by simpa using hx) (by simpa using hy) (by simpa using hl) h
      · obtain ⟨g1, g2⟩ := h1 f hf
        refine ⟨g1, ?_⟩
        split at g2
        · rename_i k e; exact ⟨k, e⟩
        · cases g2
      · rw [h2, List.range_eq_range']; simp
    · cases ht
  · rename_i m e hu
    split at ht
    · rename_i k he
      split at ht
      · rename_i hc
        injection ht with ht
        subst ht
        simp only [Bool.and_eq_true, beq_iff_eq, Bool.not_eq_true', true_and] at hc
        obtain ⟨⟨h2, h3⟩, h4⟩ := hc
        obtain ⟨i, hi⟩ := Option.isSome_iff_exists.1 h3
        refine ⟨?_, h4⟩
        rw [run_equalIn_array w 9999 xs ys hu hi, h2, List.range_eq_range']
        exact eqItems_run 9998 he xs ys m 0 as bs r (by simpa using hx) (by simpa using hy) hl h
      · cases ht
    · simp at ht
  · cases ht
theorem good_eq {op : BinOp} {t t' : TypeId} {x y : Operand} (h : SR C p s a w) (ho : o.op = .binOp op t x y t') (hp : (sEq P op t (s.ev x) (s.ev y)).pre) : Done P C o s a w (sEq P op t (s.ev x) (s.ev y)) := by
  unfold sEq at hp ⊢
  split at hp
  · rename_i n as bs e1 e2 e3
    split at hp
    · rename_i r e4
      obtain ⟨xs, hxe, _, hx⟩ := agR_rel e2 (h.ev x)
      obtain ⟨ys, hye, _, hy⟩ := agR_rel e3 (h.ev y)
      obtain ⟨hrun, hg⟩ := eqT_run (w := w) e1 hx hy hp e4
      refine done_when h (v := .bool r) ?_ (by simp [AV.rel, RV.rel])
      simp only [execOp, ho, hxe, hye, Sem.run_bind, run_eqGuard_agg w .eql t x y xs ys hg, Result.andThen_ok, run_eql_struct, hrun, Sem.run_pure]
    · exact hp.elim
  · rename_i n as bs e1 e2 e3
    split at hp
    · rename_i r e4
      obtain ⟨xs, hxe, _, hx⟩ := agR_rel e2 (h.ev x)
      obtain ⟨ys, hye, _, hy⟩ := agR_rel e3 (h.ev y)
      obtain ⟨hrun, hg⟩ := eqT_run (w := w) e1 hx hy hp e4
      refine done_when h (v := .bool (!r)) ?_ (by simp [AV.rel, RV.rel])
      simp only [execOp, ho, hxe, hye, Sem.run_bind, run_eqGuard_agg w .neq t x y xs ys hg, Result.andThen_ok, run_neq_struct, hrun, Sem.run_pure]
    · exact hp.elim
  · exact hp.elim

theorem good_bin {op : BinOp} {t t' : TypeId} {x y : Operand} (h : SR C p s a w) (ho : o.op = .binOp op t x y t') (hp : (sBin P op t (s.ev x) (s.ev y)).pre) :
    Done P C o s a w (sBin P op t (s.ev x) (s.ev y)) := by
  unfold sBin at hp ⊢
  split at hp
  · rename_i k m k' n e1 e2
    have hx := ev_it h e1
    have hy := ev_it h e2
    by_cases o1 : op = .and
    · subst o1
      obtain rfl : k = k' := hp
      exact done_when h (run_int_bin ho hx hy (run_and w)) (by simp [AV.rel, RV.rel])
    by_cases o2 : op = .or
    · subst o2
      obtain rfl : k = k' := hp
      exact done_when h (run_int_bin ho hx hy (run_or w)) (by simp [AV.rel, RV.rel])
    by_cases o3 : op = .shr
    · subst o3
      have hb : 0 ≤ n := hp
      exact done_when h (run_int_shift ho hx hy (run_shr w hb)) (by simp [AV.rel, RV.rel])
    by_cases o4 : op = .shl
    · subst o4
      have hb : 0 ≤ n := hp
      exact done_when h (run_int_shift ho hx hy (run_shl w hb)) (by simp [AV.rel, RV.rel])
    split at hp <;> first
      | exact absurd rfl o1
      | exact absurd rfl o2
      | exact absurd rfl o3
      | exact absurd rfl o4
      | (obtain rfl : k = k' := hp
         exact done_when h (run_int_bin ho hx hy (by simp [Go.binOp, Op.intArith, Op.intCmp]; rfl)) (by simp [AV.rel, RV.rel]))
      | (obtain ⟨rfl, hb⟩ : k = k' ∧ n ≠ 0 := hp
         exact done_when h (run_int_bin ho hx hy (by simp [Go.binOp, Op.intDiv, hb]; rfl)) (by simp [AV.rel, RV.rel]))
      | exact hp.elim
  · rename_i u v e1 e2
    have hx := ev_bo h e1
    have hy := ev_bo h e2
    split at hp
    · rename_i e3
      cases hq : tyq P t with
      | none => simp [hq] at e3
      | some T =>
        obtain ⟨k, sz, agg, z⟩ := T
        simp [hq] at e3
        subst e3
        have hu := tyq_bool hq
        refine done_v h (v := .bool (u == v)) ?_ (by simp [AV.rel, RV.rel])
        have he := run_equal_bool w hu u v
        have hg : (eqGuard .eql t x y (.bool u) (.bool v)).run P w = .ok () w := by simp [eqGuard]
        simp only [execOp, ho, hx, hy, Sem.run_bind, hg, Result.andThen_ok, Go.binOp, he, Sem.run_pure]
    · rename_i e3
      cases hq : tyq P t with
      | none => simp [hq] at e3
      | some T =>
        obtain ⟨k, sz, agg, z⟩ := T
        simp [hq] at e3
        subst e3
        have hu := tyq_bool hq
        refine done_v h (v := .bool (!(u == v))) ?_ (by simp [AV.rel, RV.rel])
        have he := run_equal_bool w hu u v
        have hg : (eqGuard .neq t x y (.bool u) (.bool v)).run P w = .ok () w := by simp [eqGuard]
        simp only [execOp, ho, hx, hy, Sem.run_bind, hg, Result.andThen_ok, Go.binOp, he, Sem.run_pure]
    · exact hp.elim
  · exact good_eq h ho hp

theorem good_conv {src dst : TypeId} {x : Operand} (h : SR C p s a w) (ho : o.op = .convert src dst x) (hp : (sConv P src dst (s.ev x)).pre) : Done P C o s a w (sConv P src dst (s.ev x)) := by
  unfold sConv at hp ⊢
  split at hp
  · rename_i T k _ _ _ k' n e1 e2 e3
    have hx := ev_it h e3
    obtain ⟨d, hd⟩ := okT_und (tyq_base e1).1
    have hk := tyq_int e2
    refine done_v h (v := .int k (k.wrap n)) ?_ (by simp [AV.rel, RV.rel])
    simp [execOp, ho, hx, Go.convert, run_underlying hd, run_underlying hk, Conv.intToInt]
  · exact hp.elim

/-! ### Loads -/
theorem relC_vals : ∀ {cs : List RV} {ad : Addr} {j : Nat} {R : Nat → Prop}, RV.relC w R cs ad j → ∃ us : List Value, us.length = cs.length ∧ (∀ i u, us[i]? = some u → w.cell? (ad.add (j + i)) = some u) ∧ RV.relV w R cs us ∧ ∀ u ∈ us, u.oneCell' = true
  | [], _, _, _, _ => ⟨[], rfl, by simp, by simp [RV.relV], by simp⟩
  | c :: cs, ad, j, R, h => by
    simp only [RV.relC] at h
    obtain ⟨⟨u, hu, ho, hc⟩, h2⟩ := h
    obtain ⟨us, hl, hget, hv, h1⟩ := relC_vals h2
    refine ⟨u :: us, by simp [hl], fun i v hi => ?_, by simp only [RV.relV]; exact ⟨u, us, rfl, hc, hv⟩, by simpa using ⟨ho, h1⟩⟩
    cases i with
    | zero => simp at hi; subst hi; simpa using hu
    | succ i =>
      simp at hi
      have := hget i v hi
      rwa [show j + 1 + i = j + (i + 1) from by omega] at this

theorem run_loadVar_list {t : TypeId} {T : TI} (ht : tyq P t = some T) {ad : Addr} {us : List Value} (hget : ∀ i u, us[i]? = some u → w.cell? (ad.add i) = some u) (hn : us.length = need T) :
    (loadVar t ad).run P w = .ok (if T.agg then .agg us.toArray else us.headD undef) w := by
  obtain ⟨hok, hsz, hagg, _⟩ := tyq_base ht
  unfold loadVar
  simp only [Sem.run_bind, run_isAgg_ok hok, Result.andThen_ok, ← hagg]
  cases hA : T.agg
  · simp only [need, hA, Bool.false_eq_true, if_false] at hn
    match us, hn with
    | [u], _ =>
      have := hget 0 u (by simp)
      rw [add_zero] at this
      simp [run_load, this]
  · simp only [need, hA, if_true] at hn
    simp only [if_true, Sem.run_bind, run_sizeOf_ok hok, Result.andThen_ok, ← hsz, ← hn, run_loadCells_list w ad us hget, Sem.run_pure]

theorem load_ok {t : TypeId} {x : Operand} (h : SR C p s a w) (hp : (sLoad P s t (s.ev x)).pre) :
    ∃ ad v, a.eval x = .pointer (some ad) ∧ (loadVar t ad).run P w = .ok v w ∧ (sLoad P s t (s.ev x)).y.av.rel w p s.ver v ∧ (sLoad P s t (s.ev x)).y.eff = [] ∧ (sLoad P s t (s.ev x)).ass := by
  unfold sLoad at hp ⊢
  split at hp
  · rename_i T cs e1 e2
    obtain ⟨ad, hv, hR, hC⟩ := ev_rp h e2
    have hlen : need T ≤ cs.length := hp
    obtain ⟨us, hl, hget, hV, h1⟩ := relC_vals (RV.relC_take (need T) hC)
    have hlu : us.length = need T := by rw [hl, List.length_take]; omega
    have hrun := run_loadVar_list (w := w) e1 (ad := ad) (us := us) (fun i u hi => by simpa using hget i u hi) hlu
    refine ⟨_, if T.agg then .agg us.toArray else us.headD undef, hv, hrun, ?_, rfl, trivial⟩
    show AV.rel _ _ _ (.r (cutR _ _)) _
    simp only [AV.rel]
    unfold cutR
    cases hA : T.agg
    · simp only [need, hA, Bool.false_eq_true, if_false] at hlen hlu hV ⊢
      match cs, us, hlen, hlu, hV with
      | c :: cs, [u], _, _, hV =>
        simp only [List.take_succ_cons, List.take_zero, RV.relV] at hV
        obtain ⟨u', us', he, hc, _⟩ := hV
        injection he with he1 he2
        subst he1
        exact hc
    · simp only [need, hA, if_true] at hV ⊢
      simp only [RV.rel]
      exact ⟨us.toArray, rfl, h1, hV⟩
  · rename_i T k n off e1 e2
    split at hp
    · rename_i n' cs e3
      obtain ⟨hn, hlen⟩ : n = n' ∧ need T ≤ (cs.drop off).length := hp
      have hver : n = s.ver k := by rw [hn]; simp [AS.ver, e3]
      obtain ⟨b, hβ, hv⟩ := ev_pt h e2 hver
      have hrow := h.rw k
      rw [e3] at hrow
      simp only [rowRel] at hrow
      obtain ⟨b', cells, ty, hβ', hh, hV, h1⟩ := hrow
      rw [hβ] at hβ'
      injection hβ' with hβ'
      subst hβ'
      have hV' := AV.relV_take (need T) (AV.relV_drop off hV)
      have hlu : ((cells.toList.drop off).take (need T)).length = need T := by
        have := AV.relV_length hV'
        rw [this, List.length_take]; omega
      have hget : ∀ i u, ((cells.toList.drop off).take (need T))[i]? = some u → w.cell? ((⟨b, off, none⟩ : Addr).add i) = some u := fun i u hi => by
        rw [add_at, cell_of_row w b (off + i) cells ty (0, 0) hh]
        rw [List.getElem?_take] at hi
        split at hi
        · rw [List.getElem?_drop] at hi; simpa using hi
        · cases hi
      have h1' : ∀ u ∈ (cells.toList.drop off).take (need T), u.oneCell' = true := fun u hu => h1 u (List.mem_of_mem_drop (List.mem_of_mem_take hu))
      generalize (cells.toList.drop off).take (need T) = us at hV' hlu hget h1'
      have hrun := run_loadVar_list (w := w) e1 hget hlu
      refine ⟨_, if T.agg then .agg us.toArray else us.headD undef, hv, hrun, ?_, rfl, trivial⟩
      show AV.rel _ _ _ (cutA _ _) _
      unfold cutA
      cases hA : T.agg
      · simp only [need, hA, Bool.false_eq_true, if_false] at hlen hlu hV' ⊢
        cases hcs : cs.drop off with
        | nil => simp [hcs] at hlen
        | cons c rest =>
          simp only [hcs, List.take_succ_cons, List.take_zero, AV.relV] at hV'
          obtain ⟨u', us', he, hc, _⟩ := hV'
          rw [he]
          simpa using hc
      · simp only [need, hA, if_true] at hV' ⊢
        simp only [AV.rel]
        exact ⟨us.toArray, rfl, h1', hV'⟩
    · exact hp.elim
  · rename_i T k n sz idx off e1 e2
    split at hp
    · rename_i n' t' sz' es e3
      obtain ⟨hn, hsz, hpos, hlen⟩ : n = n' ∧ sz = sz' ∧ 0 < need T ∧ need T ≤ ((es.getD idx []).drop off).length := hp
      subst hsz
      have hver : n = s.ver k := by rw [hn]; simp [AS.ver, e3]
      obtain ⟨b, hβ, hv⟩ := ev_pe h e2 hver
      have hrow := h.rw k
      rw [e3] at hrow
      simp only [rowRel] at hrow
      rcases hrow with ⟨hb, he, _⟩ | ⟨b', cells, hβ', hh, hcs, hle, hE⟩
      · rw [hb] at hβ; cases hβ
      · rw [hβ] at hβ'
        injection hβ' with hβ'
        subst hβ'
        cases hx : es[idx]? with
        | none =>
          have : es.getD idx [] = [] := by simp [List.getD, hx]
          rw [this] at hlen; simp at hlen; omega
        | some e =>
          have hgd : es.getD idx [] = e := by simp [List.getD, hx]
          rw [hgd] at hlen ⊢
          have hE1 := (RV.relE_get hE hx).2
          have hC : RV.relC w p.R (e.drop off) ⟨b, idx * sz + off, none⟩ 0 := by
            have h1 := RV.relC_base (j := 0) (idx * sz) (by simpa using hE1)
            have h2 := RV.relC_drop off h1
            simpa [add_at] using h2
          obtain ⟨us, hl, hget, hV, h1⟩ := relC_vals (RV.relC_take (need T) hC)
          have hlu : us.length = need T := by rw [hl, List.length_take]; omega
          have hrun := run_loadVar_list (w := w) e1 (ad := ⟨b, idx * sz + off, none⟩) (us := us) (fun i u hi => by simpa using hget i u hi) hlu
          refine ⟨_, if T.agg then .agg us.toArray else us.headD undef, hv, hrun, ?_, rfl, trivial⟩
          show AV.rel _ _ _ (.r (cutR _ _)) _
          simp only [AV.rel]
          unfold cutR
          cases hA : T.agg
          · simp only [need, hA, Bool.false_eq_true, if_false] at hlen hlu hV ⊢
            generalize e.drop off = cs at hlen hV
            match cs, us, hlen, hlu, hV with
            | c :: cs, [u], _, _, hV =>
              simp only [List.take_succ_cons, List.take_zero, RV.relV] at hV
              obtain ⟨u', us', he, hc, _⟩ := hV
              injection he with he1 he2
              subst he1
              exact hc
          · simp only [need, hA, if_true] at hV ⊢
            simp only [RV.rel]
            exact ⟨us.toArray, rfl, h1, hV⟩
    · exact hp.elim
  · exact hp.elim
theorem good_load {t : TypeId} {x : Operand} (h : SR C p s a w) (ho : o.op = .load t x) (hp : (sLoad P s t (s.ev x)).pre) : Done P C o s a w (sLoad P s t (s.ev x)) := by
  obtain ⟨ad, v, hv, hrun, hrel, heff, hass⟩ := load_ok h hp
  exact done_of h (by simp [execOp, ho, hv, Instr.loadAt, Instr.sureAddr, hrun]) heff hass hrel
end
end Go.Oc
