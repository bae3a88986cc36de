/- The abstract values of the walks: plain data, references into rows that the call owns, and what it means that a concrete value reads as an abstract one. No program in sight. -/
import Derived.WalkKit
import Derived.Maps.AppendAt
namespace Go.Oc
open Go Go.RowKit

/-- Plain data: closed, never written again. -/
inductive RV where
  | un
  | bo (b : Bool)
  | it (k : IntKind) (n : Int)
  | ns
  | sl (sz : Nat) (es : List (List RV))
  | np
  | rp (cs : List RV)
  | ag (cs : List RV)
  | fn (f : FuncId) (caps : List RV)
  | nf
  | tu (vs : List RV)
  | st (s : ByteArray)
  | ud

theorem block_add (a : Addr) (n : Nat) : (a.add n).block = a.block := by unfold Addr.add; split <;> rfl
theorem add_add (a : Addr) (i j : Nat) : (a.add i).add j = a.add (i + j) := by
  unfold Addr.add
  by_cases hi : i = 0 <;> by_cases hj : j = 0 <;> simp [hi, hj, Nat.add_assoc]
theorem add_zero (a : Addr) : a.add 0 = a := rfl
theorem add_at (b o j : Nat) : (⟨b, o, none⟩ : Addr).add j = ⟨b, o + j, none⟩ := by
  unfold Addr.add; split <;> simp_all

mutual
def RV.rel (w : World) (R : Nat → Prop) : RV → Value → Prop
  | .un, _ => True
  | .bo b, v => v = .bool b
  | .it k n, v => v = .int k n
  | .ns, v => ∃ A, v = .slice A 0 0
  | .sl sz es, v => ∃ A c, v = .slice A es.length c ∧ es.length ≤ c ∧ c ≤ maxLen ∧ (es ≠ [] → ∃ ad, A = some ad ∧ R ad.block ∧ RV.relE w R sz es ad 0)
  | .np, v => v = .pointer none
  | .rp cs, v => ∃ ad, v = .pointer (some ad) ∧ R ad.block ∧ RV.relC w R cs ad 0
  | .ag cs, v => ∃ vs, v = .agg vs ∧ (∀ u ∈ vs.toList, u.oneCell' = true) ∧ RV.relV w R cs vs.toList
  | .fn f caps, v => ∃ vs, v = .func (.func f) #[] vs ∧ RV.relV w R caps vs.toList
  | .nf, v => v = .nilFunc
  | .tu xs, v => ∃ vs, v = .tuple vs ∧ RV.relV w R xs vs.toList
  | .st s, v => v = .string s
  | .ud, v => v = undef
def RV.relV (w : World) (R : Nat → Prop) : List RV → List Value → Prop
  | [], vs => vs = []
  | x :: xs, vs => ∃ u us, vs = u :: us ∧ x.rel w R u ∧ RV.relV w R xs us
def RV.relC (w : World) (R : Nat → Prop) : List RV → Addr → Nat → Prop
  | [], _, _ => True
  | x :: xs, ad, j => (∃ u, w.cell? (ad.add j) = some u ∧ u.oneCell' = true ∧ x.rel w R u) ∧ RV.relC w R xs ad (j + 1)
def RV.relE (w : World) (R : Nat → Prop) (sz : Nat) : List (List RV) → Addr → Nat → Prop
  | [], _, _ => True
  | e :: es, ad, j => e.length = sz ∧ RV.relC w R e ad j ∧ RV.relE w R sz es ad (j + sz)
end

section
variable {w w' : World} {R R' : Nat → Prop}
mutual
theorem RV.rel_mono (hR : ∀ b, R b → R' b) (hw : ∀ a : Addr, R a.block → w'.cell? a = w.cell? a) : ∀ (x : RV) (v : Value), x.rel w R v → x.rel w' R' v
  | .un, _, _ => by simp only [RV.rel]
  | .bo _, _, h => by simpa only [RV.rel] using h
  | .it _ _, _, h => by simpa only [RV.rel] using h
  | .ns, _, h => by simpa only [RV.rel] using h
  | .sl sz es, v, h => by
    simp only [RV.rel] at h ⊢
    obtain ⟨A, c, hv, h1, h2, h3⟩ := h
    exact ⟨A, c, hv, h1, h2, fun hne => by obtain ⟨ad, e, hr, hc⟩ := h3 hne; exact ⟨ad, e, hR _ hr, RV.relE_mono hR hw sz es ad 0 (fun j => hw _ (by rw [block_add]; exact hr)) hc⟩⟩
  | .np, _, h => by simpa only [RV.rel] using h
  | .rp cs, v, h => by
    simp only [RV.rel] at h ⊢
    obtain ⟨ad, hv, hr, hc⟩ := h
    exact ⟨ad, hv, hR _ hr, RV.relC_mono hR hw cs ad 0 (fun j => hw _ (by rw [block_add]; exact hr)) hc⟩
  | .ag cs, v, h => by
    simp only [RV.rel] at h ⊢
    obtain ⟨vs, hv, ho, hc⟩ := h
    exact ⟨vs, hv, ho, RV.relV_mono hR hw cs _ hc⟩
  | .fn f cs, v, h => by
    simp only [RV.rel] at h ⊢
    obtain ⟨vs, hv, hc⟩ := h
    exact ⟨vs, hv, RV.relV_mono hR hw cs _ hc⟩
  | .nf, _, h => by simpa only [RV.rel] using h
  | .tu cs, v, h => by
    simp only [RV.rel] at h ⊢
    obtain ⟨vs, hv, hc⟩ := h
    exact ⟨vs, hv, RV.relV_mono hR hw cs _ hc⟩
  | .st _, _, h => by simpa only [RV.rel] using h
  | .ud, _, h => by simpa only [RV.rel] using h
theorem RV.relV_mono (hR : ∀ b, R b → R' b) (hw : ∀ a : Addr, R a.block → w'.cell? a = w.cell? a) : ∀ (xs : List RV) (vs : List Value), RV.relV w R xs vs → RV.relV w' R' xs vs
  | [], _, h => by simpa only [RV.relV] using h
  | x :: xs, vs, h => by
    simp only [RV.relV] at h ⊢
    obtain ⟨u, us, hv, h1, h2⟩ := h
    exact ⟨u, us, hv, RV.rel_mono hR hw x u h1, RV.relV_mono hR hw xs us h2⟩
theorem RV.relC_mono (hR : ∀ b, R b → R' b) (hw : ∀ a : Addr, R a.block → w'.cell? a = w.cell? a) : ∀ (xs : List RV) (ad : Addr) (j : Nat), (∀ j, w'.cell? (ad.add j) = w.cell? (ad.add j)) → RV.relC w R xs ad j → RV.relC w' R' xs ad j
  | [], _, _, _, _ => by simp only [RV.relC]
  | x :: xs, ad, j, hr, h => by
    simp only [RV.relC] at h ⊢
    obtain ⟨⟨u, hu, ho, h1⟩, h2⟩ := h
    exact ⟨⟨u, (hr _).trans hu, ho, RV.rel_mono hR hw x u h1⟩, RV.relC_mono hR hw xs ad (j + 1) hr h2⟩
theorem RV.relE_mono (hR : ∀ b, R b → R' b) (hw : ∀ a : Addr, R a.block → w'.cell? a = w.cell? a) : ∀ (sz : Nat) (es : List (List RV)) (ad : Addr) (j : Nat), (∀ j, w'.cell? (ad.add j) = w.cell? (ad.add j)) → RV.relE w R sz es ad j → RV.relE w' R' sz es ad j
  | _, [], _, _, _, _ => by simp only [RV.relE]
  | sz, e :: es, ad, j, hr, h => by
    simp only [RV.relE] at h ⊢
    exact ⟨h.1, RV.relC_mono hR hw e ad j hr h.2.1, RV.relE_mono hR hw sz es ad (j + sz) hr h.2.2⟩
end

theorem RV.relV_length : ∀ {xs : List RV} {vs : List Value}, RV.relV w R xs vs → vs.length = xs.length
  | [], _, h => by simp only [RV.relV] at h; subst h; rfl
  | x :: xs, vs, h => by
    simp only [RV.relV] at h
    obtain ⟨u, us, rfl, _, h2⟩ := h
    simp [RV.relV_length h2]
theorem RV.relV_append : ∀ {xs ys : List RV} {us vs : List Value}, RV.relV w R xs us → RV.relV w R ys vs → RV.relV w R (xs ++ ys) (us ++ vs)
  | [], _, _, _, h, h' => by simp only [RV.relV] at h; subst h; simpa using h'
  | x :: xs, ys, us, vs, h, h' => by
    simp only [RV.relV] at h
    obtain ⟨u, us, rfl, h1, h2⟩ := h
    simp only [List.cons_append, RV.relV]
    exact ⟨u, _, rfl, h1, RV.relV_append h2 h'⟩
theorem RV.relV_get : ∀ {xs : List RV} {vs : List Value} {i : Nat} {x : RV}, RV.relV w R xs vs → xs[i]? = some x → ∃ u, vs[i]? = some u ∧ x.rel w R u
  | [], _, _, _, _, hx => by simp at hx
  | y :: xs, vs, i, x, h, hx => by
    simp only [RV.relV] at h
    obtain ⟨u, us, rfl, h1, h2⟩ := h
    cases i with
    | zero => simp at hx; subst hx; exact ⟨u, by simp, h1⟩
    | succ i => simp at hx; simpa using RV.relV_get h2 hx
theorem RV.relV_drop : ∀ {xs : List RV} {vs : List Value} (n : Nat), RV.relV w R xs vs → RV.relV w R (xs.drop n) (vs.drop n)
  | [], vs, n, h => by simp only [RV.relV] at h; subst h; simp [RV.relV]
  | x :: xs, vs, n, h => by
    cases n with
    | zero => exact h
    | succ n =>
      simp only [RV.relV] at h
      obtain ⟨u, us, rfl, _, h2⟩ := h
      exact RV.relV_drop n h2
theorem RV.relV_take : ∀ {xs : List RV} {vs : List Value} (n : Nat), RV.relV w R xs vs → RV.relV w R (xs.take n) (vs.take n)
  | [], vs, n, h => by simp only [RV.relV] at h; subst h; simp [RV.relV]
  | x :: xs, vs, n, h => by
    cases n with
    | zero => simp [RV.relV]
    | succ n =>
      simp only [RV.relV] at h
      obtain ⟨u, us, rfl, h1, h2⟩ := h
      simp only [List.take_succ_cons, RV.relV]
      exact ⟨u, _, rfl, h1, RV.relV_take n h2⟩
theorem RV.relC_get : ∀ {xs : List RV} {ad : Addr} {j i : Nat} {x : RV}, RV.relC w R xs ad j → xs[i]? = some x → ∃ u, w.cell? (ad.add (j + i)) = some u ∧ u.oneCell' = true ∧ x.rel w R u
  | [], _, _, _, _, _, hx => by simp at hx
  | y :: xs, ad, j, i, x, h, hx => by
    simp only [RV.relC] at h
    obtain ⟨⟨u, hu, ho, h1⟩, h2⟩ := h
    cases i with
    | zero => simp at hx; subst hx; exact ⟨u, by simpa using hu, ho, h1⟩
    | succ i =>
      simp at hx
      have := RV.relC_get h2 hx
      rwa [show j + 1 + i = j + (i + 1) from by omega] at this
theorem RV.relC_drop : ∀ {xs : List RV} {ad : Addr} {j : Nat} (n : Nat), RV.relC w R xs ad j → RV.relC w R (xs.drop n) (ad.add n) j
  | [], ad, j, n, h => by simp [RV.relC]
  | x :: xs, ad, j, 0, h => by simpa [add_zero] using h
  | x :: xs, ad, j, n + 1, h => by
    simp only [RV.relC] at h
    have h3 := RV.relC_shift xs ad j h.2
    have := RV.relC_drop n h3
    rw [add_add, Nat.add_comm 1 n] at this
    simpa using this
  where RV.relC_shift : ∀ (xs : List RV) (ad : Addr) (j : Nat), RV.relC w R xs ad (j + 1) → RV.relC w R xs (ad.add 1) j
  | [], _, _, _ => by simp [RV.relC]
  | x :: xs, ad, j, h => by
    simp only [RV.relC] at h ⊢
    refine ⟨?_, RV.relC_shift xs ad (j + 1) h.2⟩
    rw [add_add, Nat.add_comm 1 j]
    exact h.1
theorem RV.relC_take : ∀ {xs : List RV} {ad : Addr} {j : Nat} (n : Nat), RV.relC w R xs ad j → RV.relC w R (xs.take n) ad j
  | [], ad, j, n, h => by simp [RV.relC]
  | x :: xs, ad, j, 0, h => by simp [RV.relC]
  | x :: xs, ad, j, n + 1, h => by
    simp only [RV.relC] at h
    simp only [List.take_succ_cons, RV.relC]
    exact ⟨h.1, RV.relC_take n h.2⟩
theorem RV.relC_append : ∀ {xs ys : List RV} {ad : Addr} {j : Nat}, RV.relC w R xs ad j → RV.relC w R ys ad (j + xs.length) → RV.relC w R (xs ++ ys) ad j
  | [], ys, ad, j, _, h => by simpa using h
  | x :: xs, ys, ad, j, h, h' => by
    simp only [RV.relC] at h
    simp only [List.cons_append, RV.relC]
    exact ⟨h.1, RV.relC_append h.2 (by simpa [Nat.add_assoc, Nat.add_comm 1] using h')⟩
/-- Cells read one after another. -/
theorem RV.relC_of_get : ∀ {xs : List RV} {ad : Addr} {j : Nat}, (∀ i x, xs[i]? = some x → ∃ u, w.cell? (ad.add (j + i)) = some u ∧ u.oneCell' = true ∧ x.rel w R u) → RV.relC w R xs ad j
  | [], _, _, _ => by simp [RV.relC]
  | x :: xs, ad, j, h => by
    simp only [RV.relC]
    refine ⟨by simpa using h 0 x (by simp), RV.relC_of_get fun i y hy => ?_⟩
    have := h (i + 1) y (by simpa using hy)
    rwa [show j + (i + 1) = j + 1 + i from by omega] at this
theorem RV.relE_get : ∀ {sz : Nat} {es : List (List RV)} {ad : Addr} {j i : Nat} {e : List RV}, RV.relE w R sz es ad j → es[i]? = some e → e.length = sz ∧ RV.relC w R e ad (j + i * sz)
  | _, [], _, _, _, _, _, hx => by simp at hx
  | sz, y :: es, ad, j, i, e, h, hx => by
    simp only [RV.relE] at h
    obtain ⟨hl, h1, h2⟩ := h
    cases i with
    | zero => simp at hx; subst hx; exact ⟨hl, by simpa using h1⟩
    | succ i =>
      simp at hx
      have := RV.relE_get h2 hx
      rwa [show j + sz + i * sz = j + (i + 1) * sz from by rw [Nat.add_mul]; omega] at this
theorem RV.relC_base : ∀ {xs : List RV} {ad : Addr} {j : Nat} (n : Nat), RV.relC w R xs ad (j + n) → RV.relC w R xs (ad.add n) j
  | [], _, _, _, _ => by simp [RV.relC]
  | x :: xs, ad, j, n, h => by
    simp only [RV.relC] at h ⊢
    refine ⟨?_, RV.relC_base n ?_⟩
    · rw [add_add, Nat.add_comm n j]; exact h.1
    · rw [show j + 1 + n = j + n + 1 from by omega]; exact h.2
theorem RV.relC_unbase : ∀ {xs : List RV} {ad : Addr} {j : Nat} (n : Nat), RV.relC w R xs (ad.add n) j → RV.relC w R xs ad (j + n)
  | [], _, _, _, _ => by simp [RV.relC]
  | x :: xs, ad, j, n, h => by
    simp only [RV.relC] at h ⊢
    refine ⟨?_, ?_⟩
    · have := h.1; rwa [add_add, Nat.add_comm n j] at this
    · have := RV.relC_unbase n h.2; rwa [show j + 1 + n = j + n + 1 from by omega] at this
theorem RV.relE_of_get : ∀ {sz : Nat} {es : List (List RV)} {ad : Addr} {j : Nat}, (∀ i e, es[i]? = some e → e.length = sz ∧ RV.relC w R e ad (j + i * sz)) → RV.relE w R sz es ad j
  | _, [], _, _, _ => by simp [RV.relE]
  | sz, e :: es, ad, j, h => by
    simp only [RV.relE]
    have h0 := h 0 e (by simp)
    refine ⟨h0.1, by simpa using h0.2, RV.relE_of_get fun i y hy => ?_⟩
    have := h (i + 1) y (by simpa using hy)
    rwa [show j + (i + 1) * sz = j + sz + i * sz from by rw [Nat.add_mul]; omega] at this
end

/-- Values of the walk: plain data, or references into rows that the call owns (by the row's name and its version). -/
inductive AV where
  | r (v : RV)
  | pt (k ver off : Nat)
  | pe (k ver sz idx off : Nat)
  | os (k ver sz off n : Nat)
  | mp (k ver : Nat)
  | mi (k ver : Nat)
  | fn (f : FuncId) (caps : List AV)
  | ag (cs : List AV)
  | tu (vs : List AV)

/-- What a row holds. 'box': a variable's cells. 'arr': the elements of a slice, each some cells of plain data. 'mp': a map's entries; 'mpi': a map that is ranged over; 'mi': the range over the map in row km: what is left, and the entry that came last. -/
inductive RowC where
  | dead
  | box (cs : List AV)
  | arr (t sz : Nat) (es : List (List RV))
  | mp (m : List (RV × RV))
  | mpi (m : List (RV × RV))
  | mi (km ver : Nat) (left : List (RV × RV)) (cur : Option (RV × RV))
def RowC.isMi : RowC → Bool
  | .mi .. => true
  | _ => false
def RowC.isMpi : RowC → Bool
  | .mpi _ => true
  | _ => false

structure Row where
  ver : Nat
  c : RowC

/-- Where the rows lie, and their capacities. -/
structure Plan where
  R : Nat → Prop
  β : Nat → Option Nat
  γ : Nat → Nat

mutual
def AV.rel (w : World) (p : Plan) (ver : Nat → Nat) : AV → Value → Prop
  | .r x, v => x.rel w p.R v
  | .pt k n off, v => n ≤ ver k ∧ (n = ver k → ∃ b, p.β k = some b ∧ v = .pointer (some ⟨b, off, none⟩))
  | .pe k n sz idx off, v => n ≤ ver k ∧ (n = ver k → ∃ b, p.β k = some b ∧ v = .pointer (some ⟨b, idx * sz + off, none⟩))
  | .os k n sz off m, v => n ≤ ver k ∧ (n = ver k → (p.β k = none ∧ p.γ k = 0 ∧ off = 0 ∧ m = 0 ∧ ∃ A, v = .slice A 0 0) ∨
      ∃ b A, p.β k = some b ∧ v = .slice A m (p.γ k - off) ∧ off + m ≤ p.γ k ∧ ((0 < m ∨ off = 0) → A = some ⟨b, off * sz, none⟩))
  | .mp k n, v => n ≤ ver k ∧ (n = ver k → ∃ b, p.β k = some b ∧ v = .map (some b))
  | .mi k n, v => n ≤ ver k ∧ (n = ver k → ∃ b, p.β k = some b ∧ v = .pointer (some ⟨b, 0, none⟩))
  | .fn f cs, v => ∃ vs, v = .func (.func f) #[] vs ∧ AV.relV w p ver cs vs.toList
  | .ag cs, v => ∃ vs, v = .agg vs ∧ (∀ u ∈ vs.toList, u.oneCell' = true) ∧ AV.relV w p ver cs vs.toList
  | .tu cs, v => ∃ vs, v = .tuple vs ∧ AV.relV w p ver cs vs.toList
def AV.relV (w : World) (p : Plan) (ver : Nat → Nat) : List AV → List Value → Prop
  | [], vs => vs = []
  | x :: xs, vs => ∃ u us, vs = u :: us ∧ x.rel w p ver u ∧ AV.relV w p ver xs us
end

/-- What keeps a reading: the plain data's cells stay; each row stays where it is, or has a newer version. -/
structure Kept (w w' : World) (p p' : Plan) (ver ver' : Nat → Nat) : Prop where
  R : ∀ b, p.R b → p'.R b
  cell : ∀ a : Addr, p.R a.block → w'.cell? a = w.cell? a
  le : ∀ k, ver k ≤ ver' k
  same : ∀ k, ver' k = ver k → p'.β k = p.β k ∧ p'.γ k = p.γ k

section
variable {w w' : World} {p p' : Plan} {ver ver' : Nat → Nat}
mutual
theorem AV.rel_mono (h : Kept w w' p p' ver ver') : ∀ (x : AV) (v : Value), x.rel w p ver v → x.rel w' p' ver' v
  | .r x, v, hx => by simp only [AV.rel] at hx ⊢; exact RV.rel_mono h.R h.cell x v hx
  | .pt k n off, v, hx => by
    simp only [AV.rel] at hx ⊢
    refine ⟨Nat.le_trans hx.1 (h.le k), fun e => ?_⟩
    have e1 : n = ver k := Nat.le_antisymm hx.1 (e ▸ h.le k)
    obtain ⟨hβ, _⟩ := h.same k (e ▸ e1)
    rw [hβ]; exact hx.2 e1
  | .pe k n sz idx off, v, hx => by
    simp only [AV.rel] at hx ⊢
    refine ⟨Nat.le_trans hx.1 (h.le k), fun e => ?_⟩
    have e1 : n = ver k := Nat.le_antisymm hx.1 (e ▸ h.le k)
    obtain ⟨hβ, _⟩ := h.same k (e ▸ e1)
    rw [hβ]; exact hx.2 e1
  | .os k n sz off m, v, hx => by
    simp only [AV.rel] at hx ⊢
    refine ⟨Nat.le_trans hx.1 (h.le k), fun e => ?_⟩
    have e1 : n = ver k := Nat.le_antisymm hx.1 (e ▸ h.le k)
    obtain ⟨hβ, hγ⟩ := h.same k (e ▸ e1)
    rw [hβ, hγ]; exact hx.2 e1
  | .mp k n, v, hx => by
    simp only [AV.rel] at hx ⊢
    refine ⟨Nat.le_trans hx.1 (h.le k), fun e => ?_⟩
    have e1 : n = ver k := Nat.le_antisymm hx.1 (e ▸ h.le k)
    obtain ⟨hβ, _⟩ := h.same k (e ▸ e1)
    rw [hβ]; exact hx.2 e1
  | .mi k n, v, hx => by
    simp only [AV.rel] at hx ⊢
    refine ⟨Nat.le_trans hx.1 (h.le k), fun e => ?_⟩
    have e1 : n = ver k := Nat.le_antisymm hx.1 (e ▸ h.le k)
    obtain ⟨hβ, _⟩ := h.same k (e ▸ e1)
    rw [hβ]; exact hx.2 e1
  | .fn f cs, v, hx => by
    simp only [AV.rel] at hx ⊢
    obtain ⟨vs, hv, hc⟩ := hx
    exact ⟨vs, hv, AV.relV_mono h cs _ hc⟩
  | .ag cs, v, hx => by
    simp only [AV.rel] at hx ⊢
    obtain ⟨vs, hv, ho, hc⟩ := hx
    exact ⟨vs, hv, ho, AV.relV_mono h cs _ hc⟩
  | .tu cs, v, hx => by
    simp only [AV.rel] at hx ⊢
    obtain ⟨vs, hv, hc⟩ := hx
    exact ⟨vs, hv, AV.relV_mono h cs _ hc⟩
theorem AV.relV_mono (h : Kept w w' p p' ver ver') : ∀ (xs : List AV) (vs : List Value), AV.relV w p ver xs vs → AV.relV w' p' ver' xs vs
  | [], _, hx => by simpa only [AV.relV] using hx
  | x :: xs, vs, hx => by
    simp only [AV.relV] at hx ⊢
    obtain ⟨u, us, hv, h1, h2⟩ := hx
    exact ⟨u, us, hv, AV.rel_mono h x u h1, AV.relV_mono h xs us h2⟩
end
theorem AV.relV_length : ∀ {xs : List AV} {vs : List Value}, AV.relV w p ver xs vs → vs.length = xs.length
  | [], _, h => by simp only [AV.relV] at h; subst h; rfl
  | x :: xs, vs, h => by
    simp only [AV.relV] at h
    obtain ⟨u, us, rfl, _, h2⟩ := h
    simp [AV.relV_length h2]
theorem AV.relV_get : ∀ {xs : List AV} {vs : List Value} {i : Nat} {x : AV}, AV.relV w p ver xs vs → xs[i]? = some x → ∃ u, vs[i]? = some u ∧ x.rel w p ver u
  | [], _, _, _, _, hx => by simp at hx
  | y :: xs, vs, i, x, h, hx => by
    simp only [AV.relV] at h
    obtain ⟨u, us, rfl, h1, h2⟩ := h
    cases i with
    | zero => simp at hx; subst hx; exact ⟨u, by simp, h1⟩
    | succ i => simp at hx; simpa using AV.relV_get h2 hx
theorem AV.relV_drop : ∀ {xs : List AV} {vs : List Value} (n : Nat), AV.relV w p ver xs vs → AV.relV w p ver (xs.drop n) (vs.drop n)
  | [], vs, n, h => by simp only [AV.relV] at h; subst h; simp [AV.relV]
  | x :: xs, vs, n, h => by
    cases n with
    | zero => exact h
    | succ n =>
      simp only [AV.relV] at h
      obtain ⟨u, us, rfl, _, h2⟩ := h
      exact AV.relV_drop n h2
theorem AV.relV_take : ∀ {xs : List AV} {vs : List Value} (n : Nat), AV.relV w p ver xs vs → AV.relV w p ver (xs.take n) (vs.take n)
  | [], vs, n, h => by simp only [AV.relV] at h; subst h; simp [AV.relV]
  | x :: xs, vs, n, h => by
    cases n with
    | zero => simp [AV.relV]
    | succ n =>
      simp only [AV.relV] at h
      obtain ⟨u, us, rfl, h1, h2⟩ := h
      simp only [List.take_succ_cons, AV.relV]
      exact ⟨u, _, rfl, h1, AV.relV_take n h2⟩
theorem AV.relV_append : ∀ {xs ys : List AV} {us vs : List Value}, AV.relV w p ver xs us → AV.relV w p ver ys vs → AV.relV w p ver (xs ++ ys) (us ++ vs)
  | [], _, _, _, h, h' => by simp only [AV.relV] at h; subst h; simpa using h'
  | x :: xs, ys, us, vs, h, h' => by
    simp only [AV.relV] at h
    obtain ⟨u, us, rfl, h1, h2⟩ := h
    simp only [List.cons_append, AV.relV]
    exact ⟨u, _, rfl, h1, AV.relV_append h2 h'⟩
theorem AV.relV_map_r : ∀ {xs : List RV} {vs : List Value}, RV.relV w p.R xs vs → AV.relV w p ver (xs.map .r) vs
  | [], _, h => by simp only [RV.relV] at h; simp [AV.relV, h]
  | x :: xs, vs, h => by
    simp only [RV.relV] at h
    obtain ⟨u, us, rfl, h1, h2⟩ := h
    simp only [List.map_cons, AV.relV, AV.rel]
    exact ⟨u, us, rfl, h1, AV.relV_map_r h2⟩
theorem AV.relV_split : ∀ {xs ys : List AV} {vs : List Value}, AV.relV w p ver (xs ++ ys) vs → ∃ us ws, vs = us ++ ws ∧ AV.relV w p ver xs us ∧ AV.relV w p ver ys ws
  | [], ys, vs, h => ⟨[], vs, rfl, by simp [AV.relV], h⟩
  | x :: xs, ys, vs, h => by
    simp only [List.cons_append, AV.relV] at h
    obtain ⟨u, us, rfl, h1, h2⟩ := h
    obtain ⟨as, bs, rfl, h3, h4⟩ := AV.relV_split h2
    exact ⟨u :: as, bs, rfl, by simp only [AV.relV]; exact ⟨u, as, rfl, h1, h3⟩, h4⟩
end
end Go.Oc
