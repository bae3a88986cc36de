/- Each operation does what 'step' says: cuts, lengths, variables, stores, append. -/
import Derived.Test.YtnklbfmdojpfkaaOh
namespace Go.Oc
open Go Go.RowKit

section
variable {P : Program} {C : Ctx} {p : Plan} {s : AS} {a : Act} {w w' : World} {o : Oper}

theorem relE_cut {sz : Nat} {R : Nat → Prop} {es : List (List RV)} {ad : Addr} (h : RV.relE w R sz es ad 0) (l k : Nat) : RV.relE w R sz ((es.take k).drop l) (ad.add (l * sz)) 0 := by
  refine RV.relE_of_get fun i e hi => ?_
  rw [List.getElem?_drop, List.getElem?_take] at hi
  split at hi
  · obtain ⟨h1, h2⟩ := RV.relE_get h hi
    refine ⟨h1, RV.relC_base (j := 0 + i * sz) (l * sz) ?_⟩
    rw [show 0 + i * sz + l * sz = 0 + (l + i) * sz by rw [Nat.add_mul]; omega]
    exact h2
  · cases hi

theorem ev_bound (h : SR C p s a w) {x : Option Operand} {d l : Int} (hb : bound (x.map s.ev) d = some l) : (x = none ∧ l = d) ∨ ∃ y k, x = some y ∧ a.eval y = .int k l := by
  cases x with
  | none => simp [bound] at hb; exact .inl ⟨rfl, hb.symm⟩
  | some y =>
    simp only [Option.map_some] at hb
    unfold bound at hb
    split at hb
    · rename_i e; cases e
    · rename_i k i e
      injection e with e
      injection hb with hb
      subst hb
      exact .inr ⟨y, k, rfl, ev_it h e⟩
    · cases hb

theorem run_sliceBound {k : IntKind} {i : Nat} {y : Nat} {code : BoundsCode} (hi : i ≤ y) : (Instr.sliceBound (.int k (i : Int)) y code).run P w = .ok i w := by
  simp [Instr.sliceBound, asIntOf, hi]

/-- A slice expression: the bounds are there or not. -/
theorem run_cut {t e : TypeId} (hu : P.underlying t = some (.slice e)) (hok : okT P e = true) {A : Option Addr} {len cap : Nat} {lo hi : Option Value} {l h : Nat}
    (hlo : (lo = none ∧ l = 0) ∨ ∃ k, lo = some (.int k (l : Int))) (hhi : (hi = none ∧ h = len) ∨ ∃ k, hi = some (.int k (h : Int))) (h1 : l ≤ h) (h2 : h ≤ cap) :
    (Instr.sliceAt t (.slice A len cap) lo hi none).run P w = .ok (.slice (if cap = l then A else A.map (·.add (l * P.cellsOf e))) (h - l) (cap - l)) w := by
  unfold Instr.sliceAt
  simp only [Sem.run_bind, run_underlying hu, Result.andThen_ok]
  unfold Instr.slice
  simp only [Sem.run_bind, run_underlying hu, Result.andThen_ok]
  have hb : (Instr.sliceBounds true len cap lo hi none).run P w = .ok (l, h, cap) w := by
    rcases hlo with ⟨rfl, rfl⟩ | ⟨k, rfl⟩ <;> rcases hhi with ⟨rfl, rfl⟩ | ⟨k', rfl⟩
    · simp [Instr.sliceBounds]
    · simp [Instr.sliceBounds, run_sliceBound h2]
    · simp [Instr.sliceBounds, run_sliceBound h1]
    · simp [Instr.sliceBounds, run_sliceBound h1, run_sliceBound h2]
  simp only [hb, Result.andThen_ok, run_sizeOf_ok hok, Sem.run_pure]

theorem bound_nat {x : Option Operand} {l : Int} {d n : Nat} (hx : (x = none ∧ l = (d : Int)) ∨ ∃ y k, x = some y ∧ a.eval y = .int k l) (hl : l = (n : Int)) : (x.map a.eval = none ∧ n = d) ∨ ∃ k, x.map a.eval = some (.int k (n : Int)) := by
  subst hl
  rcases hx with ⟨rfl, h⟩ | ⟨y, k, rfl, h⟩
  · exact .inl ⟨rfl, by omega⟩
  · exact .inr ⟨k, by simp [h]⟩

theorem run_cut3 {t e : TypeId} (hu : P.underlying t = some (.slice e)) (hok : okT P e = true) {A : Option Addr} {len cap : Nat} {lo : Option Value} {kh km : IntKind} {l q m : Nat}
    (hlo : (lo = none ∧ l = 0) ∨ ∃ k, lo = some (.int k (l : Int))) (h1 : l ≤ q) (h2 : q ≤ m) (h3 : m ≤ cap) :
    (Instr.sliceAt t (.slice A len cap) lo (some (.int kh (q : Int))) (some (.int km (m : Int)))).run P w = .ok (.slice (if m = l then A else A.map (·.add (l * P.cellsOf e))) (q - l) (m - l)) w := by
  unfold Instr.sliceAt
  simp only [Sem.run_bind, run_underlying hu, Result.andThen_ok]
  unfold Instr.slice
  simp only [Sem.run_bind, run_underlying hu, Result.andThen_ok]
  have hb : (Instr.sliceBounds true len cap lo (some (.int kh (q : Int))) (some (.int km (m : Int)))).run P w = .ok (l, q, m) w := by
    rcases hlo with ⟨rfl, rfl⟩ | ⟨k, rfl⟩
    · simp [Instr.sliceBounds, run_sliceBound h3, run_sliceBound h2]
    · simp [Instr.sliceBounds, run_sliceBound h3, run_sliceBound h2, run_sliceBound h1]
  simp only [hb, Result.andThen_ok, run_sizeOf_ok hok, Sem.run_pure]
theorem lenA_slice (h : SR C p s a w) {x : Operand} {c : Prop} {m : Nat} (hl : lenA s (s.ev x) = some (c, m)) (hc : c) : ∃ A cap, a.eval x = .slice A m cap ∧ m ≤ cap := by
  unfold lenA at hl
  split at hl
  · rename_i sz es e
    injection hl with hl; injection hl with h1 h2; subst h2
    obtain ⟨A, c, hv, hc1, _, _⟩ := ev_sl h e
    exact ⟨A, c, hv, hc1⟩
  · rename_i e
    injection hl with hl; injection hl with h1 h2; subst h2
    obtain ⟨A, hv⟩ := ev_ns h e
    exact ⟨A, 0, hv, Nat.le_refl _⟩
  · rename_i k n sz off m' e
    injection hl with hl; injection hl with h1 h2; subst h1 h2
    rcases ev_os h e hc with ⟨_, _, _, rfl, A, hv⟩ | ⟨b, A, hβ, hv, hle, _⟩
    · exact ⟨A, 0, hv, Nat.le_refl _⟩
    · exact ⟨A, _, hv, by omega⟩
  · cases hl
theorem good_slice3 {t : TypeId} {x : Operand} {lo hi mx : Option Operand} {e esz eb : Nat} {ez : List RV} {sz0 : Nat} {agg0 : Bool} {z0 : List RV} {mv : AV} (h : SR C p s a w) (ho : o.op = .slice t x lo hi mx) (e1 : tyq P t = some ⟨.slice e esz eb ez, sz0, agg0, z0⟩) (e2 : mx.map s.ev = some mv)
    (hp : (sSlice3 s (s.ev x) (lo.map s.ev) (hi.map s.ev) mv).pre) : Done P C o s a w (sSlice3 s (s.ev x) (lo.map s.ev) (hi.map s.ev) mv) := by
  obtain ⟨hu, hok, hsz, _, _⟩ := tyq_slice e1
  unfold sSlice3 at hp ⊢
  split at hp
  · rename_i c m l q km z g1 g2 g3
    obtain ⟨hc, h1, h2, h3, h4⟩ : c ∧ 0 ≤ l ∧ l ≤ q ∧ q ≤ z ∧ z ≤ (m : Int) := hp
    obtain ⟨l', rfl⟩ := Int.eq_ofNat_of_zero_le h1
    obtain ⟨q', rfl⟩ := Int.eq_ofNat_of_zero_le (Int.le_trans h1 h2)
    obtain ⟨z', rfl⟩ := Int.eq_ofNat_of_zero_le (Int.le_trans (Int.le_trans h1 h2) h3)
    have hl := bound_nat (d := 0) (ev_bound h g2) rfl
    obtain ⟨A, cap, hv, hcap⟩ := lenA_slice h g1 hc
    have hq : ∃ k, hi.map a.eval = some (.int k (q' : Int)) := by
      rcases ev_bound h g3 with ⟨_, e⟩ | ⟨y, k, rfl, hy⟩
      · omega
      · exact ⟨k, by simp [hy]⟩
    obtain ⟨kq, hq⟩ := hq
    have hm : mx.map a.eval = some (.int km (z' : Int)) := by
      cases mx with
      | none => simp at e2
      | some y =>
        simp only [Option.map_some, Option.some.injEq] at e2
        simp [ev_it h e2]
    have hr := run_cut3 (w := w) hu hok (A := A) (len := m) (cap := cap) (kh := kq) (km := km) hl (by omega : l' ≤ q') (by omega : q' ≤ z') (by omega)
    exact done_when h (by simp only [execOp, ho, Sem.run_bind, hv, hq, hm, hr, Result.andThen_ok, Sem.run_pure]; rfl) (AV.rel_un _ _ _ _)
  · exact hp.elim
theorem good_slice {t : TypeId} {x : Operand} {lo hi mx : Option Operand} (h : SR C p s a w) (ho : o.op = .slice t x lo hi mx) (hp : (sSlice P s t (s.ev x) (lo.map s.ev) (hi.map s.ev) (mx.map s.ev)).pre) :
    Done P C o s a w (sSlice P s t (s.ev x) (lo.map s.ev) (hi.map s.ev) (mx.map s.ev)) := by
  unfold sSlice at hp ⊢
  split at hp
  · rename_i e esz eb ez _ _ _ e1 e2
    have hmx : mx = none := by simpa using e2
    obtain ⟨hu, hok, hsz, _, _⟩ := tyq_slice e1
    subst hsz
    split at hp
    · rename_i sz es e3
      split at hp
      · rename_i l q e4 e5
        obtain ⟨h1, h2, h3, h4⟩ : sz = P.cellsOf e ∧ 0 ≤ l ∧ l ≤ q ∧ q ≤ (es.length : Int) := hp
        subst h1
        obtain ⟨l', rfl⟩ := Int.eq_ofNat_of_zero_le h2
        obtain ⟨q', rfl⟩ := Int.eq_ofNat_of_zero_le (Int.le_trans h2 h3)
        have hl := bound_nat (d := 0) (ev_bound h e4) rfl
        have hq := bound_nat (ev_bound h e5) rfl
        obtain ⟨A, c, hv, hc1, hc2, hne⟩ := ev_sl h e3
        have hr := run_cut (w := w) hu hok (A := A) (len := es.length) (cap := c) hl hq (by omega) (by omega)
        refine done_when h (by simp only [execOp, ho, Sem.run_bind, hv, hmx, Option.map_none, hr, Result.andThen_ok, Sem.run_pure]; rfl) ?_
        simp only [AV.rel, RV.rel, Int.toNat_natCast]
        have hlen : ((es.take q').drop l').length = q' - l' := by simp; omega
        refine ⟨_, _, by rw [hlen], by rw [hlen]; omega, by omega, fun hnil => ?_⟩
        have hpos : 0 < q' - l' := by rw [← hlen]; exact List.length_pos_iff.2 hnil
        obtain ⟨ad, rfl, hR, hE⟩ := hne (fun e => by subst e; simp at h4; omega)
        rw [if_neg (by omega)]
        exact ⟨_, rfl, by rw [block_add]; exact hR, relE_cut hE l' q'⟩
      · exact hp.elim
    · rename_i k n sz off m e3
      split at hp
      · rename_i l q e4 e5
        obtain ⟨hn, h1, h2, h3, h4⟩ : n = s.ver k ∧ sz = P.cellsOf e ∧ 0 ≤ l ∧ l ≤ q ∧ (q ≤ (m : Int) ∨ (off = 0 ∧ q + off ≤ rowLen (s.rows k).c)) := hp
        subst h1
        obtain ⟨l', rfl⟩ := Int.eq_ofNat_of_zero_le h2
        obtain ⟨q', rfl⟩ := Int.eq_ofNat_of_zero_le (Int.le_trans h2 h3)
        have hl := bound_nat (d := 0) (ev_bound h e4) rfl
        have hq := bound_nat (ev_bound h e5) rfl
        have hrl : rowLen (s.rows k).c ≤ p.γ k ∨ rowLen (s.rows k).c ≤ 0 := by
          have hrow := h.rw k
          cases hcc : (s.rows k).c with
          | arr t0 sz0 es0 =>
            rw [hcc] at hrow
            simp only [rowRel] at hrow
            rcases hrow with ⟨_, h9, _⟩ | ⟨_, _, _, _, _, h9, _⟩
            · right; simp [rowLen, h9]
            · left; simp only [rowLen]; omega
          | _ => right; simp [rowLen]
        rcases ev_os h e3 hn with ⟨hβ, hγ0, ho0, hm0, A, hv⟩ | ⟨b, A, hβ, hv, hle, hA⟩
        · have hl0 : l' = 0 := by omega
          have hq0 : q' = 0 := by omega
          subst ho0 hm0 hl0 hq0
          have hr := run_cut (w := w) hu hok (A := A) (len := 0) (cap := 0) hl hq (by omega) (by omega)
          refine done_when h (by simp only [execOp, ho, Sem.run_bind, hv, hmx, Option.map_none, hr, Result.andThen_ok, Sem.run_pure]; rfl) ?_
          simp only [AV.rel]
          exact ⟨Nat.le_of_eq hn, fun _ => .inl ⟨hβ, hγ0, by simp, by simp, _, by simp; rfl⟩⟩
        · have hr := run_cut (w := w) hu hok (A := A) (len := m) (cap := p.γ k - off) hl hq (by omega) (by omega)
          refine done_when h (by simp only [execOp, ho, Sem.run_bind, hv, hmx, Option.map_none, hr, Result.andThen_ok, Sem.run_pure]; rfl) ?_
          simp only [AV.rel, Int.toNat_natCast]
          refine ⟨Nat.le_of_eq hn, fun _ => .inr ⟨b, _, hβ, by rw [show p.γ k - off - l' = p.γ k - (off + l') by omega], by omega, fun hor => ?_⟩⟩
          rcases hor with hpos | hzero
          · rw [if_neg (by omega), hA (by omega)]
            simp [add_at, Nat.add_mul]
          · have h0 : l' = 0 := by omega
            have h0' : off = 0 := by omega
            subst h0 h0'
            rw [hA (.inr rfl)]
            split <;> simp [add_zero]
      · exact hp.elim
    · rename_i e3
      split at hp
      · rename_i l q e4 e5
        obtain ⟨h1, h2⟩ : l = 0 ∧ q = 0 := hp
        subst h1 h2
        have hl := bound_nat (d := 0) (n := 0) (ev_bound h e4) rfl
        have hq := bound_nat (d := 0) (n := 0) (ev_bound h e5) rfl
        obtain ⟨A, hv⟩ := ev_ns h e3
        have hr := run_cut (w := w) hu hok (A := A) (len := 0) (cap := 0) hl hq (by omega) (by omega)
        refine done_when h (by simp only [execOp, ho, Sem.run_bind, hv, hmx, Option.map_none, hr, Result.andThen_ok, Sem.run_pure]; rfl) ?_
        simp only [AV.rel, RV.rel]
        exact ⟨_, by simp; rfl⟩
      · exact hp.elim
    · exact hp.elim
  · rename_i e esz eb ez _ _ _ mv e1 e2
    exact good_slice3 h ho e1 e2 hp
  · exact hp.elim

theorem run_builtin_of {b : Builtin} {args : Array Operand} {ts : Array TypeId} (ho : o.op = .call ⟨.builtin b, args, ts⟩) {w2 : World} {v : Value}
    (hr : (builtin b ts o.type (args.map fun | .const _ => true | _ => false) (args.map a.eval)).run P w = .ok (.value v) w2) : (execOp a.eval o).run P w = .ok (.value v) w2 := by
  simp only [execOp, ho, Sem.run_bind, resolve, Sem.run_pure, Result.andThen_ok, invoke]
  exact hr

theorem arr1 {α β : Type} {args : Array α} {f : α → β} {y : β} (h : args.toList.map f = [y]) : ∃ x, args = #[x] ∧ y = f x := by
  obtain ⟨l⟩ := args
  match l, h with
  | [x], h => simp at h; exact ⟨x, rfl, h.symm⟩
theorem arr2 {α β : Type} {args : Array α} {f : α → β} {y z : β} (h : args.toList.map f = [y, z]) : ∃ x x', args = #[x, x'] ∧ y = f x ∧ z = f x' := by
  obtain ⟨l⟩ := args
  match l, h with
  | [x, x'], h => simp at h; exact ⟨x, x', rfl, h.1.symm, h.2.symm⟩

theorem good_len {x : Operand} {t : TypeId} (h : SR C p s a w) (ho : o.op = .call ⟨.builtin .len, #[x], #[t]⟩) (hp : (sLen P s t (s.ev x)).pre) : Done P C o s a w (sLen P s t (s.ev x)) := by
  have go : ∀ {v : Value}, (Builtin.len_ #[t] o.type #[a.eval x]).run P w = .ok v w → (execOp a.eval o).run P w = .ok (.value v) w := fun hr =>
    run_builtin_of ho (by simp only [builtin, Sem.run_bind, List.map_toArray, List.map_cons, List.map_nil, hr, Result.andThen_ok, Sem.run_pure])
  unfold sLen at hp ⊢
  split at hp
  · rename_i e esz eb ez _ _ _ sz es e1 e2
    obtain ⟨hu, _⟩ := tyq_slice e1
    obtain ⟨A, c, hv, h1, h2, _⟩ := ev_sl h e2
    refine done_of h (v := .int .i64 es.length) (go ?_) rfl ?_ (by simp [AV.rel, RV.rel])
    · simp [Builtin.len_, run_underlying hu, hv, goInt]
    · simp only [maxLen] at h2
      show (es.length : Int) ≤ 9223372036854775807
      omega
  · rename_i e esz eb ez _ _ _ e1 e2
    obtain ⟨hu, _⟩ := tyq_slice e1
    obtain ⟨A, hv⟩ := ev_ns h e2
    exact done_v h (v := .int .i64 0) (go (by simp [Builtin.len_, run_underlying hu, hv, goInt])) (by simp [AV.rel, RV.rel])
  · rename_i e esz eb ez _ _ _ k n sz off m e1 e2
    obtain ⟨hu, _⟩ := tyq_slice e1
    have hn : n = s.ver k := hp
    have hg := h.rw k
    rcases ev_os h e2 hn with ⟨_, _, _, rfl, A, hv⟩ | ⟨b, A, hβ, hv, hle, _⟩
    · exact done_of h (v := .int .i64 0) (go (by simp [Builtin.len_, run_underlying hu, hv, goInt])) rfl (by show ((0 : Nat) : Int) ≤ 9223372036854775807; omega) (by simp [AV.rel, RV.rel])
    · refine done_of h (v := .int .i64 m) (go (by simp [Builtin.len_, run_underlying hu, hv, goInt])) rfl ?_ (by simp [AV.rel, RV.rel])
      have hγ := h.cap k
      simp only [maxLen] at hγ
      show (m : Int) ≤ 9223372036854775807
      omega
  · rename_i km em _ _ _ k n e1 e2
    split at hp
    · rename_i m e3
      have hn : n = (s.rows k).ver := hp
      have hu := tyq_map e1
      have hx := h.ev x
      rw [e2] at hx
      simp only [AV.rel] at hx
      obtain ⟨b, hβ, hv⟩ := hx.2 hn
      obtain ⟨b', hβ', es, cl, hh, hM, _⟩ := mapOf_row h e3
      rw [hβ] at hβ'
      injection hβ' with hβ'
      subst hβ'
      have hl := relM_length hM
      refine done_when h (v := .int .i64 m.length) (go ?_) (by simp [AV.rel, RV.rel])
      simp [Builtin.len_, run_underlying hu, hv, getObj, Sem.run, hh, goInt, ← hl]
    · exact hp.elim
  · rename_i n esz eagg _ _ _ cs e1 e2
    obtain ⟨e, hu, _⟩ := tyq_arr e1
    have hx := h.ev x
    rw [e2] at hx
    simp only [AV.rel, RV.rel] at hx
    obtain ⟨vs, hv, _⟩ := hx
    exact done_v h (v := .int .i64 n) (go (by simp [Builtin.len_, run_underlying hu, hv, goInt])) (by simp [AV.rel, RV.rel])
  · rename_i n esz eagg _ _ _ cs e1 e2
    obtain ⟨e, hu, _⟩ := tyq_arr e1
    have hx := h.ev x
    rw [e2] at hx
    simp only [AV.rel] at hx
    obtain ⟨vs, hv, _⟩ := hx
    exact done_v h (v := .int .i64 n) (go (by simp [Builtin.len_, run_underlying hu, hv, goInt])) (by simp [AV.rel, RV.rel])
  · exact hp.elim

theorem run_minF {k : IntKind} : ∀ (xs : List Operand) (n : Int) (r : RV), SR C p s a w → minF k n (xs.map s.ev) = some r → ∃ m, r = .it k m ∧ ((xs.map a.eval).foldlM Builtin.min2 (.int k n)).run P w = .ok (.int k m) w
  | [], n, r, _, h => by simp only [List.map_nil, minF] at h; injection h with h; exact ⟨n, h.symm, by simp⟩
  | x :: xs, n, r, hs, h => by
    simp only [List.map_cons] at h
    unfold minF at h
    split at h
    · rename_i heq; cases heq
    · rename_i n' _ _ k' b rest heq
      injection heq with h1 h2
      split at h
      · rename_i hk
        subst hk
        subst h2
        obtain ⟨m, rfl, hr⟩ := run_minF xs (min n' b) r hs h
        refine ⟨m, rfl, ?_⟩
        have hx := ev_it hs h1
        simp only [List.map_cons, List.foldlM_cons, hx, Builtin.min2, Sem.run_bind, Sem.run_pure, Result.andThen_ok]
        rw [show (if b < n' then b else n') = min n' b by omega]
        exact hr
      · cases h
    · cases h
theorem run_maxF {k : IntKind} : ∀ (xs : List Operand) (n : Int) (r : RV), SR C p s a w → maxF k n (xs.map s.ev) = some r → ∃ m, r = .it k m ∧ ((xs.map a.eval).foldlM Builtin.max2 (.int k n)).run P w = .ok (.int k m) w
  | [], n, r, _, h => by simp only [List.map_nil, maxF] at h; injection h with h; exact ⟨n, h.symm, by simp⟩
  | x :: xs, n, r, hs, h => by
    simp only [List.map_cons] at h
    unfold maxF at h
    split at h
    · rename_i heq; cases heq
    · rename_i n' _ _ k' b rest heq
      injection heq with h1 h2
      split at h
      · rename_i hk
        subst hk
        subst h2
        obtain ⟨m, rfl, hr⟩ := run_maxF xs (max n' b) r hs h
        refine ⟨m, rfl, ?_⟩
        have hx := ev_it hs h1
        simp only [List.map_cons, List.foldlM_cons, hx, Builtin.max2, Sem.run_bind, Sem.run_pure, Result.andThen_ok]
        rw [show (if b > n' then b else n') = max n' b by omega]
        exact hr
      · cases h
    · cases h

theorem good_min {args : Array Operand} {ts : Array TypeId} (h : SR C p s a w) (ho : o.op = .call ⟨.builtin .min, args, ts⟩) (hp : (sMinMax (minA (args.toList.map s.ev))).pre) : Done P C o s a w (sMinMax (minA (args.toList.map s.ev))) := by
  obtain ⟨l⟩ := args
  cases l with
  | nil => simp [sMinMax, minA, Res.bad] at hp
  | cons x l =>
    simp only [List.map_cons] at hp ⊢
    unfold sMinMax at hp ⊢
    split at hp
    · rename_i v e
      unfold minA at e
      split at e
      · rename_i k n rest heq
        injection heq with h1 h2
        subst h2
        obtain ⟨m, rfl, hr⟩ := run_minF (P := P) l n v h e
        have hx := ev_it h h1
        refine done_v h (v := .int k m) (run_builtin_of ho ?_) (by simp [AV.rel, RV.rel])
        simp only [builtin, Builtin.min_, List.map_toArray, List.map_cons, Sem.run_bind, hx, hr, Result.andThen_ok, Sem.run_pure]
      · cases e
    · exact hp.elim
theorem good_max {args : Array Operand} {ts : Array TypeId} (h : SR C p s a w) (ho : o.op = .call ⟨.builtin .max, args, ts⟩) (hp : (sMinMax (maxA (args.toList.map s.ev))).pre) : Done P C o s a w (sMinMax (maxA (args.toList.map s.ev))) := by
  obtain ⟨l⟩ := args
  cases l with
  | nil => simp [sMinMax, maxA, Res.bad] at hp
  | cons x l =>
    simp only [List.map_cons] at hp ⊢
    unfold sMinMax at hp ⊢
    split at hp
    · rename_i v e
      unfold maxA at e
      split at e
      · rename_i k n rest heq
        injection heq with h1 h2
        subst h2
        obtain ⟨m, rfl, hr⟩ := run_maxF (P := P) l n v h e
        have hx := ev_it h h1
        refine done_v h (v := .int k m) (run_builtin_of ho ?_) (by simp [AV.rel, RV.rel])
        simp only [builtin, Builtin.max_, List.map_toArray, List.map_cons, Sem.run_bind, hx, hr, Result.andThen_ok, Sem.run_pure]
      · cases e
    · exact hp.elim

/-! ### Variables -/
theorem rows_one (rows : Nat → Row) (v : AV) (k : Nat) (r : Row) : (Yi.mk v [(k, r)]).rows rows = upd rows k r := rfl

theorem good_box {t : TypeId} {x : Operand} (h : SR C p s a w) (ho : o.op = .box t x) (hp : (sBox s (o.dst.getD 0) (s.ev x)).pre) : Done P C o s a w (sBox s (o.dst.getD 0) (s.ev x)) := by
  unfold sBox at hp ⊢
  split at hp
  · rename_i cs e
    obtain ⟨hc, h1⟩ := cells_rel e (h.ev x)
    have hn := h.newRow (o.dst.getD 0) hp (.box cs) rfl 0 (Nat.zero_le _) (.cells (a.eval x).cells t) (fun p' ver' _ hβ _ hk => by
      simp only [rowRel]
      exact ⟨_, _, t, hβ, heap_alloc_new w _, AV.relV_mono hk _ _ hc, h1⟩)
    refine ⟨_, .pointer (some ⟨w.heap.size, 0, none⟩), _, _, ?_, .inl rfl, trivial, by rw [rows_one]; exact hn, ?_⟩
    · simp [execOp, ho, Instr.box, newVar, newRow]
    · rw [rows_one]
      simp only [AV.rel, vers, upd_same]
      exact ⟨Nat.le_refl _, fun _ => ⟨_, rfl, rfl⟩⟩
  · exact hp.elim

theorem good_alloc {t : TypeId} (h : SR C p s a w) (ho : o.op = .alloc t) (hp : (sAlloc P s (o.dst.getD 0) t).pre) : Done P C o s a w (sAlloc P s (o.dst.getD 0) t) := by
  unfold sAlloc at hp ⊢
  split at hp
  · rename_i T e
    obtain ⟨_, _, _, z, hz, hzz⟩ := tyq_base e
    obtain ⟨v, hv, hvz⟩ := run_zeroValue_ok (w := w) hz
    have hz2 := zero_rel (s := s) (w := w) (p := p) hz
    have hn := h.newRow (o.dst.getD 0) hp (.box (T.zero.map .r)) rfl 0 (Nat.zero_le _) (.cells v.cells t) (fun p' ver' _ hβ _ hk => by
      simp only [rowRel]
      exact ⟨_, _, t, hβ, heap_alloc_new w _, by rw [hvz, hzz]; exact AV.relV_mono hk _ _ hz2.1, by rw [hvz]; exact hz2.2⟩)
    refine ⟨_, .pointer (some ⟨w.heap.size, 0, none⟩), _, _, ?_, .inl rfl, trivial, by rw [rows_one]; exact hn, ?_⟩
    · simp [execOp, ho, Instr.alloc, newVar, newRow, hv]
    · rw [rows_one]
      simp only [AV.rel, vers, upd_same]
      exact ⟨Nat.le_refl _, fun _ => ⟨_, rfl, rfl⟩⟩
  · exact hp.elim

theorem good_makeSlice {t : TypeId} {l c : Operand} (h : SR C p s a w) (ho : o.op = .makeSlice t l c) (hp : (sMakeSlice P s (o.dst.getD 0) t (s.ev l) (s.ev c)).pre) :
    Done P C o s a w (sMakeSlice P s (o.dst.getD 0) t (s.ev l) (s.ev c)) := by
  unfold sMakeSlice at hp ⊢
  split at hp
  · rename_i e esz eb ez _ _ _ kl n kc m e1 e2 e3
    obtain ⟨hu, hok, hsz, hby, zv, hzv, hez⟩ := tyq_slice e1
    obtain ⟨i, z, hi, hzero, hcells, hz1, hzl⟩ := zeroOf_spec hzv
    rw [bytesOf_info hi] at hby
    rw [cellsOf_info hi] at hsz
    subst hsz hby
    obtain ⟨h0, h1, h2, h3, h4, h5⟩ : 0 ≤ n ∧ n ≤ m ∧ (i.bytes : Int) * m ≤ 281474976710656 ∧ m ≤ 9223372036854775807 ∧ 0 < i.size ∧ o.dst.getD 0 < 1000 := hp
    have hr := run_make (P := P) w t e i z hu hi hzero kl kc n m h0 h1 h2 h3
    have hzc : z.cells.size = i.size := by rw [cellsOf_info hi] at hzl; rw [← hzl, ← hcells]; simp
    have hlist := madeCells_list z.cells m.toNat
    rw [hzc, hcells] at hlist
    obtain ⟨d, hd⟩ : ∃ d, m.toNat = n.toNat + d := ⟨m.toNat - n.toNat, by omega⟩
    have hn := h.newRow (o.dst.getD 0) h5 (.arr e i.size (List.replicate n.toNat ez)) rfl m.toNat (by simp only [maxLen]; omega) (.cells (madeCells z.cells (m.toNat * i.size)) e) (fun p' ver' _ hβ hγ hk => by
      simp only [rowRel]
      rw [hγ]
      refine .inr ⟨_, _, hβ, heap_alloc_new w _, size_madeCells _ _, by simp; omega, ?_⟩
      refine relE_of_vals (us := (List.replicate n.toNat zv).flatten) (fun e he => by rw [List.eq_of_mem_replicate he, hez, List.length_map, hzl, cellsOf_info hi]) ?_ ?_ (fun j u hj => ?_)
      · rw [hez]
        generalize n.toNat = q
        induction q with
        | zero => simp [RV.relV]
        | succ q ih => simp only [List.replicate_succ, List.flatten_cons]; exact RV.relV_append (RV.relV_ofV1 _ _ zv) ih
      · intro u hu
        obtain ⟨l, hl, hul⟩ := List.mem_flatten.1 hu
        rw [List.eq_of_mem_replicate hl] at hul
        exact hz1 u hul
      · rw [add_at]
        simp only [Nat.zero_add, World.cell?_alloc_new]
        rw [← Array.getElem?_toList, hlist, hd, ← List.replicate_append_replicate, List.flatten_append]
        rw [List.getElem?_append_left (List.getElem?_eq_some_iff.1 hj).1]
        exact hj)
    refine ⟨_, .slice (some ⟨w.heap.size, 0, none⟩) n.toNat m.toNat, _, _, ?_, .inl rfl, trivial, by rw [rows_one]; exact hn, ?_⟩
    · simp only [execOp, ho, ev_it h e2, ev_it h e3, Sem.run_bind, hr, Result.andThen_ok, Sem.run_pure]
    · rw [rows_one]
      simp only [AV.rel, vers, upd_same]
      exact ⟨Nat.le_refl _, fun _ => .inr ⟨_, _, rfl, by simp; rfl, by omega, fun _ => by simp⟩⟩
  · exact hp.elim
end
end Go.Oc
