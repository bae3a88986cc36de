/- For every law, number and list of values, the given function ThrowMeans returns true: the means that the values can have, and the truths with the least and the greatest one, or the errors, are what the document says. No conditions beyond those of the given statement. -/
import Derived.Test.YtgkejinoaommeaaV38
import Derived.Test.YtgkejinoaommeaaV37
import Derived.Test.YtgkejinoaommeaaV35
import Derived.ChangeShapes
import Derived.WideShapes
import Derived.OpenShut
import Derived.ShutString
import Derived.ChangeOld
import Derived.Carry
import Derived.Below
import Derived.Test.YtgkejinoaommeaaRows
import Derived.JoinedOf
/- What is missing is given dart by dart: the same as bed by bed, in the order of the values. -/
namespace Go.Proofs.Ytgkejinoaommeaa
open Go Go.Oc
set_option linter.unusedSimpArgs false
set_option linter.unusedVariables false
/-- The first of two in the order of keys. -/
def Bet (key : Nat → Int) (a b : Nat) : Prop := key a < key b ∨ (key a = key b ∧ a < b)
abbrev ltK (key : Nat → Int) : Nat → Nat → Bool := fun i k => decide (key i < key k)
theorem Bet.trans {key : Nat → Int} {a b c : Nat} (h1 : Bet key a b) (h2 : Bet key b c) : Bet key a c := by
  unfold Bet at *; omega
theorem Bet.asymm {key : Nat → Int} {a b : Nat} (h1 : Bet key a b) (h2 : Bet key b a) : False := by
  unfold Bet at *; omega
theorem insB_pw {key : Nat → Int} {x : Nat} : ∀ {R : List Nat}, R.Pairwise (fun a b => Bet key b a) → (∀ y ∈ R, y < x) → (insB (ltK key) x R).Pairwise (fun a b => Bet key b a)
  | [], _, _ => by simp [insB]
  | y :: R, h, hx => by
    have h' := List.pairwise_cons.1 h
    unfold insB
    split
    · rename_i hl
      simp only [decide_eq_true_eq] at hl
      refine List.pairwise_cons.2 ⟨fun z hz => ?_, insB_pw h'.2 fun z hz => hx z (by simp [hz])⟩
      rcases (mem_insB _ _ _ _).1 hz with rfl | hz
      · exact .inl hl
      · exact h'.1 z hz
    · rename_i hl
      simp only [decide_eq_true_eq] at hl
      have hy : Bet key y x := by
        have := hx y (by simp)
        unfold Bet; omega
      refine List.pairwise_cons.2 ⟨fun z hz => ?_, h⟩
      rcases List.mem_cons.1 hz with rfl | hz
      · exact hy
      · exact (h'.1 z hz).trans hy
theorem sortB_pw (key : Nat → Int) : ∀ n : Nat, (sortB (ltK key) (List.range n) []).Pairwise (fun a b => Bet key b a)
  | 0 => by simp [sortB]
  | n + 1 => by
    rw [List.range_succ, sortB_snoc]
    refine insB_pw (sortB_pw key n) fun y hy => ?_
    rw [mem_sortB] at hy
    simpa using hy
theorem sortN_pw (key : Nat → Int) (n : Nat) : (sortN (ltK key) (List.range n)).Pairwise (Bet key) := by
  unfold sortN
  exact List.pairwise_reverse.2 (sortB_pw key n)
/-- The first bed, in the order of the keys, that can have one more; -1 if there is none. -/
def pickT (key : Nat → Int) (R : Nat → Bool) : Nat → Int
  | 0 => -1
  | i + 1 => if R i = true ∧ (pickT key R i < 0 ∨ key i < key (pickT key R i).toNat) then i else pickT key R i
theorem pickT_spec (key : Nat → Int) (R : Nat → Bool) : ∀ n : Nat, (pickT key R n = -1 ∧ ∀ i, i < n → R i = false) ∨ ∃ j : Nat, j < n ∧ pickT key R n = j ∧ R j = true ∧ ∀ i, i < n → R i = true → i ≠ j → Bet key j i
  | 0 => .inl ⟨rfl, fun i h => absurd h (Nat.not_lt_zero i)⟩
  | n + 1 => by
    simp only [pickT]
    rcases pickT_spec key R n with ⟨h1, h2⟩ | ⟨j, hj, h1, h2, h3⟩
    · cases hR : R n
      · refine .inl ⟨by simp [hR, h1], fun i hi => ?_⟩
        by_cases e : i = n
        · rw [e, hR]
        · exact h2 i (by omega)
      · refine .inr ⟨n, by omega, by simp [hR, h1], hR, fun i hi hRi hne => ?_⟩
        rw [h2 i (by omega)] at hRi
        cases hRi
    · rw [h1]
      cases hR : R n
      · refine .inr ⟨j, by omega, by simp [hR], h2, fun i hi hRi hne => ?_⟩
        by_cases e : i = n
        · rw [e, hR] at hRi; cases hRi
        · exact h3 i (by omega) hRi hne
      · by_cases hk : key n < key j
        · refine .inr ⟨n, by omega, by simp [hR, hk], hR, fun i hi hRi hne => ?_⟩
          by_cases e : i = j
          · rw [e]; exact .inl hk
          · have := h3 i (by omega) hRi e
            unfold Bet at this ⊢; omega
        · refine .inr ⟨j, by omega, by rw [if_neg (by simp [hR, hk])], h2, fun i hi hRi hne => ?_⟩
          by_cases e : i = n
          · rw [e]; unfold Bet; omega
          · exact h3 i (by omega) hRi hne
/-! ### One dart more -/
def atO (o : List Int) (i : Nat) : Int := (o[i]?).getD 0
def hiO (l : List Bd) (i : Nat) : Int := (l[i]?.map (·.hi)).getD 0
theorem moreS_eq (l : List Bd) (o : List Int) (m : Int) (i : Nat) : moreS l o m i = min m (hiO l i - atO o i) := rfl
theorem atO_set (o : List Int) (i k : Nat) (v : Int) (hi : i < o.length) : atO (o.set i v) k = if i = k then v else atO o k := by
  unfold atO
  by_cases e : i = k
  · subst e
    rw [List.getElem?_set_self hi, if_pos rfl]; rfl
  · rw [List.getElem?_set_ne e, if_neg e]
theorem set_atO (o : List Int) (i : Nat) : o.set i (atO o i) = o := by
  unfold atO
  by_cases h : i < o.length
  · rw [List.getElem?_eq_getElem h]; simp
  · rw [List.set_eq_of_length_le (by omega)]
theorem fillS_zero (l : List Bd) : ∀ (S : List Nat) (o : List Int), (∀ i ∈ S, atO o i ≤ hiO l i) → fillS l S (o, 0) = (o, 0)
  | [], _, _ => rfl
  | i :: S, o, h => by
    have h1 := h i (by simp)
    have hm : moreS l o 0 i = 0 := by rw [moreS_eq]; omega
    simp only [fillS, hm, Int.add_zero, Int.sub_zero]
    rw [show (o[i]?).getD 0 = atO o i from rfl, set_atO]
    exact fillS_zero l S o fun k hk => h k (by simp [hk])
theorem fillS_len (l : List Bd) : ∀ (S : List Nat) (x : List Int × Int), (fillS l S x).1.length = x.1.length
  | [], _ => rfl
  | i :: S, x => by simp only [fillS]; rw [fillS_len l S]; simp
theorem fillS_other (l : List Bd) : ∀ (S : List Nat) (x : List Int × Int) (k : Nat), k ∉ S → atO (fillS l S x).1 k = atO x.1 k
  | [], _, _, _ => rfl
  | i :: S, x, k, h => by
    simp only [List.mem_cons, not_or] at h
    simp only [fillS]
    rw [fillS_other l S _ k h.2]
    unfold atO
    rw [List.getElem?_set_ne (fun e => h.1 e.symm)]
/-- One dart more: all are full, or the first one that is not has one more. -/
theorem fill_step (l : List Bd) : ∀ (S : List Nat) (o : List Int) (k : Int), S.Nodup → (∀ i ∈ S, i < o.length ∧ atO o i ≤ hiO l i) → 0 ≤ k →
    (∀ i ∈ S, atO (fillS l S (o, k)).1 i = hiO l i) ∨
    ∃ S1 j S2, S = S1 ++ j :: S2 ∧ (∀ i ∈ S1, atO (fillS l S (o, k)).1 i = hiO l i) ∧ atO (fillS l S (o, k)).1 j < hiO l j ∧
      (fillS l S (o, k + 1)).1 = (fillS l S (o, k)).1.set j (atO (fillS l S (o, k)).1 j + 1)
  | [], _, _, _, _, _ => .inl (by simp)
  | i :: S, o, k, hn, h, hk => by
    obtain ⟨hni, hn⟩ := List.nodup_cons.1 hn
    obtain ⟨hil, hio⟩ := h i (by simp)
    by_cases hlt : k < hiO l i - atO o i
    · right
      have m1 : moreS l o k i = k := by rw [moreS_eq]; omega
      have m2 : moreS l o (k + 1) i = k + 1 := by rw [moreS_eq]; omega
      have hS : ∀ v : Int, ∀ z ∈ S, atO (o.set i v) z ≤ hiO l z := fun v z hz => by
        have hne : i ≠ z := fun e => hni (e ▸ hz)
        rw [atO_set _ _ _ _ hil, if_neg hne]
        exact (h z (by simp [hz])).2
      have e1 : (fillS l (i :: S) (o, k)).1 = o.set i (atO o i + k) := by
        simp only [fillS, m1, Int.sub_self]
        rw [show (o[i]?).getD 0 = atO o i from rfl, fillS_zero l S _ (hS _)]
      have e2 : (fillS l (i :: S) (o, k + 1)).1 = o.set i (atO o i + (k + 1)) := by
        simp only [fillS, m2, Int.sub_self]
        rw [show (o[i]?).getD 0 = atO o i from rfl, fillS_zero l S _ (hS _)]
      refine ⟨[], i, S, rfl, by simp, ?_, ?_⟩
      · rw [e1, atO_set _ _ _ _ hil, if_pos rfl]; omega
      · rw [e1, e2, atO_set _ _ _ _ hil, if_pos rfl, List.set_set]
        congr 1; omega
    · have m1 : moreS l o k i = hiO l i - atO o i := by rw [moreS_eq]; omega
      have m2 : moreS l o (k + 1) i = hiO l i - atO o i := by rw [moreS_eq]; omega
      have e1 : fillS l (i :: S) (o, k) = fillS l S (o.set i (hiO l i), k - (hiO l i - atO o i)) := by
        simp only [fillS, m1]
        rw [show (o[i]?).getD 0 = atO o i from rfl]
        congr 2
        congr 1
        omega
      have e2 : fillS l (i :: S) (o, k + 1) = fillS l S (o.set i (hiO l i), k - (hiO l i - atO o i) + 1) := by
        simp only [fillS, m2]
        rw [show (o[i]?).getD 0 = atO o i from rfl]
        congr 2
        · congr 1
          omega
        · omega
      have hfull : atO (fillS l S (o.set i (hiO l i), k - (hiO l i - atO o i))).1 i = hiO l i := by
        rw [fillS_other l S _ i hni]
        show atO (o.set i (hiO l i)) i = _
        rw [atO_set _ _ _ _ hil, if_pos rfl]
      rw [e1, e2]
      rcases fill_step l S (o.set i (hiO l i)) (k - (hiO l i - atO o i)) hn (fun z hz => by
          have hne : i ≠ z := fun e => hni (e ▸ hz)
          have := h z (by simp [hz])
          rw [List.length_set, atO_set _ _ _ _ hil, if_neg hne]
          exact this) (by omega) with hA | ⟨S1, j, S2, hS, hA, hB, hC⟩
      · left
        intro z hz
        rcases List.mem_cons.1 hz with rfl | hz
        · exact hfull
        · exact hA z hz
      · right
        refine ⟨i :: S1, j, S2, by rw [hS]; rfl, fun z hz => ?_, hB, hC⟩
        rcases List.mem_cons.1 hz with rfl | hz
        · exact hfull
        · exact hA z hz
/-! ### All darts -/
theorem sum_set (o : List Int) : ∀ (j : Nat) (v : Int), j < o.length → (o.set j v).sum = o.sum - atO o j + v := by
  induction o with
  | nil => intro j v h; simp at h
  | cons a o ih =>
    intro j v h
    cases j with
    | zero => simp [atO]; omega
    | succ j =>
      have := ih j v (by simpa using h)
      simp only [List.set_cons_succ, List.sum_cons, this]
      have : atO (a :: o) (j + 1) = atO o j := by simp [atO]
      rw [this]; omega
/-- The truth when so many darts are given. -/
def givenT (key : Nat → Int) (l : List Bd) (k : Int) : List Int := (fillS l (sortN (ltK key) (List.range l.length)) (l.map (·.lo), k)).1
theorem givenT_zero (key : Nat → Int) {d : Int} {l : List Bd} (hch : chOk d l = true) : givenT key l 0 = l.map (·.lo) := by
  unfold givenT
  rw [fillS_zero]
  intro i hi
  rw [mem_sortN, List.mem_range] at hi
  obtain ⟨b, hb⟩ := opt_of_lt hi
  have := List.all_eq_true.1 hch b (mem_of_opt hb)
  simp only [Bool.and_eq_true, decide_eq_true_eq] at this
  simp [atO, hiO, hb, this]
theorem givenT_len (key : Nat → Int) (l : List Bd) (k : Int) : (givenT key l k).length = l.length := by
  unfold givenT; rw [fillS_len]; simp
/-- Which bed can have one more. -/
def roomT (l : List Bd) (o : List Int) (i : Nat) : Bool := decide (atO o i < hiO l i)
theorem sum_full : ∀ {l : List Bd} {o : List Int}, o.length = l.length → (∀ i, i < l.length → atO o i = hiO l i) → o.sum = hiS l
  | [], [], _, _ => rfl
  | b :: l, a :: o, hl, h => by
    have h0 := h 0 (by simp)
    have := sum_full (l := l) (o := o) (by simpa using hl) fun i hi => by
      have := h (i + 1) (by simp; omega)
      simpa [atO, hiO] using this
    simp only [hiS, List.map_cons, List.sum_cons] at this ⊢
    simp [atO, hiO] at h0
    omega
  | [], _ :: _, hl, _ => by simp at hl
  | _ :: _, [], hl, _ => by simp at hl
theorem givenT_step (key : Nat → Int) {d : Int} {l : List Bd} (hch : chOk d l = true) {k : Int} (hk : 0 ≤ k) (hs : (givenT key l k).sum = loS l + k) (hH : loS l + k < hiS l) :
    ∃ j : Nat, j < l.length ∧ pickT key (roomT l (givenT key l k)) l.length = j ∧ givenT key l (k + 1) = (givenT key l k).set j (atO (givenT key l k) j + 1) ∧ (givenT key l (k + 1)).sum = loS l + (k + 1) ∧ atO (givenT key l k) j < hiO l j := by
  have hpw := sortN_pw key l.length
  have hmem : ∀ i, i ∈ sortN (ltK key) (List.range l.length) ↔ i < l.length := fun i => by rw [mem_sortN, List.mem_range]
  have hnd : (sortN (ltK key) (List.range l.length)).Nodup := hpw.imp fun {a b} h e => by subst e; exact h.asymm h
  have hlen := givenT_len key l k
  rcases fill_step l (sortN (ltK key) (List.range l.length)) (l.map (·.lo)) k hnd (fun i hi => by
      rw [hmem] at hi
      obtain ⟨b, hb⟩ := opt_of_lt hi
      have := List.all_eq_true.1 hch b (mem_of_opt hb)
      simp only [Bool.and_eq_true, decide_eq_true_eq] at this
      refine ⟨by simpa using hi, ?_⟩
      simp [atO, hiO, hb, this]) hk with hA | ⟨S1, j, S2, hS, hA, hB, hC⟩
  · exfalso
    have := sum_full (l := l) (o := givenT key l k) hlen fun i hi => hA i ((hmem i).2 hi)
    omega
  · have hj : j < l.length := (hmem j).1 (by rw [hS]; simp)
    refine ⟨j, hj, ?_, hC, ?_, hB⟩
    · have hroom : roomT l (givenT key l k) j = true := by
        unfold roomT givenT; simpa using hB
      rcases pickT_spec key (roomT l (givenT key l k)) l.length with ⟨_, h2⟩ | ⟨i, hi, h1, h2, h3⟩
      · rw [h2 j hj] at hroom; cases hroom
      · by_cases e : i = j
        · rw [h1, e]
        exfalso
        have b1 : Bet key i j := h3 j hj hroom (fun e' => e e'.symm)
        have hi' : i ∈ S1 ++ j :: S2 := by rw [← hS]; exact (hmem i).2 hi
        rw [hS] at hpw
        rcases List.mem_append.1 hi' with hi' | hi'
        · have : roomT l (givenT key l k) i = false := by
            unfold roomT
            have := hA i hi'
            unfold givenT
            rw [this]; simp
          rw [this] at h2; cases h2
        · rcases List.mem_cons.1 hi' with rfl | hi'
          · exact e rfl
          · have := List.pairwise_append.1 hpw
            have b2 := (List.pairwise_cons.1 this.2.1).1 i hi'
            exact b1.asymm b2
    · rw [show givenT key l (k + 1) = (givenT key l k).set j (atO (givenT key l k) j + 1) from hC, sum_set _ _ _ (by omega), hs]
      omega
/-- By the least, or by the greatest, value. -/
def keyG (g : Bool) (vals : List Int) (i : Nat) : Int := if g then -((vals[i]?).getD 0) else (vals[i]?).getD 0
def cmG (g : Bool) : Int → Int → Int := if g then fun x y => cmpI y x else cmpI
theorem keyLt_G (g : Bool) (vals : List Int) : keyLt (cmG g) vals = ltK (keyG g vals) := by
  funext i k
  unfold keyLt ltK keyG cmG cmpI
  cases g
  · simp only [Bool.false_eq_true, if_false]
    congr 1
    rw [eq_iff_iff]
    split
    · simp_all
    · split <;> simp_all
  · simp only [if_true]
    congr 1
    rw [eq_iff_iff]
    split
    · rename_i h; simp; omega
    · split
      · rename_i h _; simp; omega
      · rename_i h _; simp; omega
theorem filledV_G (g : Bool) (d : Int) (l : List Bd) (vals : List Int) : filledV (cmG g) d l vals = givenT (keyG g vals) l (d - loS l) := by
  unfold filledV givenT startF
  rw [keyLt_G]
end Go.Proofs.Ytgkejinoaommeaa

/- The truths and means of the document. -/
namespace Go.Proofs.Ytgkejinoaommeaa
open Go Go.Oc
set_option linter.unusedSimpArgs false
set_option linter.unusedVariables false
set_option maxRecDepth 8000
theorem of_ok (F vals : List Int) (hlen : F.length = vals.length) (hF : ∀ x ∈ F, 0 ≤ x ∧ x ≤ 6000) (hvs : Vals vals) (hl : F.length ≤ 1000) : ACalls Try.prog 68 [ints F, ints vals] (i64 (dotV F vals)) := by
  refine acalls_st (rs := [i64 (dotV F vals)]) [.tmp 4] Try.func68 rfl (by kernel_rfl) Try.ntmps68 rfl (by simp) rfl fun C vs => ?_
  repeat refine awp_seq ?_
  refine awp_reg (by kernel_rfl) fun K hK => ?_
  simp only [go_sem]
  (try simp (disch := omega) only [wrapI])
  repeat first | intro _ | refine ⟨(by omega), ?_⟩ | refine ⟨⟨by omega, by omega⟩, ?_⟩
  refine hK _ ?_
  clear hK K
  refine awp_sub (sub_keep [0, 1]) ?_
  simp only [go_sem]
  repeat refine awp_seq ?_
  refine awp_reg (by kernel_rfl) fun K hK => ?_
  simp only [go_sem]
  (try simp (disch := omega) only [wrapI])
  repeat first | intro _ | refine ⟨(by omega), ?_⟩ | refine ⟨⟨by omega, by omega⟩, ?_⟩
  refine hK _ ?_
  clear hK K
  refine awp_sub (sub_keep [0, 1, 5]) ?_
  simp only [go_sem]
  repeat refine awp_seq ?_
  refine awp_reg (by kernel_rfl) fun K hK => ?_
  simp only [go_sem]
  (try simp (disch := omega) only [wrapI])
  repeat first | intro _ | refine ⟨(by omega), ?_⟩ | refine ⟨⟨by omega, by omega⟩, ?_⟩
  refine hK _ ?_
  clear hK K
  refine awp_sub (sub_keep [0, 1, 5, 6]) ?_
  simp only [go_sem]
  repeat refine awp_seq ?_
  refine awp_block ?_
  refine awp_upto (n := 25) F.length (fun i vs => [(0, .r (ints F)), (1, .r (ints vals)), (5, .r (i64 (dotV (F.take i) (vals.take i)))), (6, .r (i64 i))])
    (fun i => []) (fun _ => True) 0 (fit_of [] ?_ ?_) (Nat.zero_le _) trivial ?_
  · try simp only [go_sem]
    simp [dotV]
  · try simp only [go_sem]
  · intro i vs hi _
    repeat refine awp_seq ?_
    refine awp_reg (by kernel_rfl) fun K hK => ?_
    simp only [go_sem]
    (try simp (disch := omega) only [wrapI])
    repeat first | intro _ | refine ⟨(by omega), ?_⟩ | refine ⟨⟨by omega, by omega⟩, ?_⟩
    refine hK _ ?_
    clear hK K
    refine awp_sub (sub_keep [0, 1, 5, 6, 10]) ?_
    simp only [go_sem]
    repeat refine awp_seq ?_
    refine awp_cond rfl (fun hc => ?_) (fun hc => ?_) <;> (try simp only [go_sem] at hc)
    · -- then
      have hci := hc
      have hcv : i < vals.length := by omega
      obtain ⟨x, hx⟩ := opt_of_lt hci
      obtain ⟨y, hy⟩ := opt_of_lt hcv
      have b1 := hF x (mem_of_opt hx)
      have b2 := hvs y (mem_of_opt hy)
      have b3 := mul_bound b1.1 b1.2 b2.1 b2.2
      have b4 := dotV_bound (xs := F.take i) (ys := vals.take i) (fun z hz => hF z (List.mem_of_mem_take hz)) (fun z hz => hvs z (List.mem_of_mem_take hz))
      have b5 : ((F.take i).length : Int) ≤ 1000 := by rw [List.length_take]; omega
      have hsn : dotV (F.take (i + 1)) (vals.take (i + 1)) = dotV (F.take i) (vals.take i) + x * y := by
        rw [take_of_opt hx, take_of_opt hy, dotV_snoc (by simp; omega)]
      have hw1 : IntKind.i64.wrap (x * y) = x * y := by rw [wrapI] <;> omega
      refine awp_skip ?_
      try simp only [go_sem]
      repeat refine awp_seq ?_
      refine awp_block ?_
      repeat refine awp_seq ?_
      refine awp_dreg follows (by decide +kernel) (by kernel_rfl) fun K hK => ?_
      simp only [go_sem, hx, hy, hci, hcv, hw1]
      (try simp (disch := omega) only [wrapI])
      repeat first | intro _ | refine ⟨(by omega), ?_⟩ | refine ⟨⟨by omega, by omega⟩, ?_⟩
      refine hK _ ?_
      clear hK K
      refine awp_sub (sub_keep [0, 1, 5, 6]) ?_
      simp only [go_sem]
      repeat refine awp_seq ?_
      refine awp_reg (by kernel_rfl) fun K hK => ?_
      simp only [go_sem]
      (try simp (disch := omega) only [wrapI])
      repeat first | intro _ | refine ⟨(by omega), ?_⟩ | refine ⟨⟨by omega, by omega⟩, ?_⟩
      refine hK _ ?_
      clear hK K
      try simp only [go_sem]
      refine ⟨hci, fit_of [] ?_ ?_⟩
      · simp only [go_sem, hsn]
      · try simp only [go_sem]
    · -- else
      refine awp_exit ?_
      simp only [go_sem]
      repeat refine awp_seq ?_
      refine awp_reg (by kernel_rfl) fun K hK => ?_
      simp only [go_sem]
      (try simp (disch := omega) only [wrapI])
      repeat first | intro _ | refine ⟨(by omega), ?_⟩ | refine ⟨⟨by omega, by omega⟩, ?_⟩
      refine hK _ ?_
      clear hK K
      refine awp_sub (sub_keep [4]) ?_
      simp only [go_sem]
      refine awp_ret ?_
      simp only [go_sem]
      rw [List.take_of_length_le (by omega), List.take_of_length_le (by omega)]
theorem givenT_ok (key : Nat → Int) {d : Int} {l : List Bd} (hch : chOk d l = true) {k : Int} (h0 : 0 ≤ k) (h1 : k ≤ 6000) {j : Nat} {x : Bd} (hx : l[j]? = some x) : x.lo ≤ atO (givenT key l k) j ∧ atO (givenT key l k) j ≤ x.hi := by
  have hst : FillOk l (l.map (·.lo), k) := by
    refine ⟨by simp, ⟨h0, h1⟩, fun i b o hb ho => ?_⟩
    simp only [List.getElem?_map, hb, Option.map_some, Option.some.injEq] at ho
    have := List.all_eq_true.1 hch b (mem_of_opt hb)
    simp only [Bool.and_eq_true, decide_eq_true_eq] at this
    omega
  have hfin := fillOk_all (sortN (ltK key) (List.range l.length)) _ (fun i hi => by rw [mem_sortN, List.mem_range] at hi; exact hi) hst
  obtain ⟨o, ho⟩ := opt_of_lt (l := givenT key l k) (i := j) (by rw [givenT_len]; exact (List.getElem?_eq_some_iff.1 hx).1)
  have := hfin.2.2 j x o hx ho
  simp only [atO, ho, Option.getD_some]
  exact this
theorem intsR_set (o : List Int) (j : Nat) (v : Int) : (o.map fun x => [i64 x]).set j [i64 v] = (o.set j v).map fun x => [i64 x] := by rw [List.map_set]
set_option maxHeartbeats 2000000 in
theorem refTruth_ok (a d : Int) (l : List Bd) (vals : List Int) (g : Bool) (hch : chOk d l = true) (hd : d ≤ 3000) (h1 : loS l ≤ d) (h2 : d ≤ hiS l) (hv : vals.length = l.length) (hl : l.length ≤ 1000) :
    ACalls Try.prog 43 [aimV ⟨a, l⟩, i64 d, ints vals, .bo g] (ints (filledV (cmG g) d l vals)) := by
  have hs := chOk_small hch (by omega)
  have hsm := sums_le hs
  rw [filledV_G]
  obtain ⟨key, hkey⟩ : ∃ key, key = keyG g vals := ⟨_, rfl⟩
  rw [← hkey]
  refine acalls_st (rs := [ints (givenT key l (d - loS l))]) [.tmp 8] Try.func43 rfl (by kernel_rfl) Try.ntmps43 rfl (by simp) rfl fun C vs => ?_
  repeat refine awp_seq ?_
  refine awp_reg (by kernel_rfl) fun K hK => ?_
  simp only [go_sem]
  (try simp (disch := omega) only [wrapI])
  repeat first | intro _ | refine ⟨(by omega), ?_⟩ | refine ⟨⟨by omega, by omega⟩, ?_⟩
  refine hK _ ?_
  clear hK K
  refine awp_sub (sub_frzP 4 4 [i64 a, bedsR l] (by omega) rfl rfl) ?_
  refine awp_sub (sub_keep [1, 2, 3, 4]) ?_
  simp only [go_sem]
  repeat refine awp_seq ?_
  refine awp_reg (by kernel_rfl) fun K hK => ?_
  simp only [go_sem]
  (try simp (disch := omega) only [wrapI])
  repeat first | intro _ | refine ⟨(by omega), ?_⟩ | refine ⟨⟨by omega, by omega⟩, ?_⟩
  refine hK _ ?_
  clear hK K
  refine awp_sub (sub_keep [2, 3, 4, 9, 10]) ?_
  simp only [go_sem]
  repeat refine awp_seq ?_
  refine awp_reg (by kernel_rfl) fun K hK => ?_
  simp only [go_sem]
  (try simp (disch := omega) only [wrapI])
  repeat first | intro _ | refine ⟨(by omega), ?_⟩ | refine ⟨⟨by omega, by omega⟩, ?_⟩
  refine hK _ ?_
  clear hK K
  refine awp_sub (sub_keep [2, 3, 4, 9, 10, 11]) ?_
  simp only [go_sem]
  repeat refine awp_seq ?_
  refine awp_block ?_
  refine awp_sub (sub_own 9 40 3 1 (by omega) rfl) ?_
  try simp only [go_sem]
  refine awp_uptoV (n := 106) l.length (fun i vs => [(2, .r (ints vals)), (3, .r (.bo g)), (4, .r (.rp [i64 a, bedsR l])), (9, .os 40 (vs 40) 1 0 i), (10, .r (i64 (d - loS (l.take i)))), (11, .r (i64 i))])
    (fun i vs => [(40, .arr 3 1 (((l.map (·.lo)).take i).map fun x => [i64 x]))]) (fun _ => True) 0 (fitV_of [] ?_ ?_) (Nat.zero_le _) trivial ?_
  · try simp only [go_sem]
    simp [loS]
  · try simp only [go_sem]
  · intro i vs hi _
    have hlt : ((l.map (·.lo)).take i).length = i := by rw [List.length_take]; simp; omega
    repeat refine awp_seq ?_
    refine awp_reg (by kernel_rfl) fun K hK => ?_
    simp only [go_sem]
    (try simp (disch := omega) only [wrapI])
    repeat first | intro _ | refine ⟨(by omega), ?_⟩ | refine ⟨⟨by omega, by omega⟩, ?_⟩
    refine hK _ ?_
    clear hK K
    refine awp_sub (sub_keep [2, 3, 4, 9, 10, 11, 20]) ?_
    simp only [go_sem]
    repeat refine awp_seq ?_
    refine awp_cond rfl (fun hc => ?_) (fun hc => ?_) <;> (try simp only [go_sem] at hc)
    · -- then
      have hci := hc
      obtain ⟨x, hx⟩ := opt_of_lt hc
      obtain ⟨⟨x1, x2⟩, x3, x4⟩ := hs x (mem_of_opt hx)
      have hsi : Small (l.take i) := fun y hy => hs y (List.mem_of_mem_take hy)
      have hb := sums_le hsi
      have hli : (l.take i).length ≤ 1000 := by rw [List.length_take]; omega
      have htx : (l.map (·.lo)).take (i + 1) = (l.map (·.lo)).take i ++ [x.lo] := take_of_opt (by simp [hx])
      refine awp_skip ?_
      try simp only [go_sem]
      repeat refine awp_seq ?_
      refine awp_block ?_
      repeat refine awp_seq ?_
      refine awp_reg (by kernel_rfl) fun K hK => ?_
      simp only [go_sem, hx, hci, bedR, hlt]
      (try simp (disch := omega) only [wrapI])
      repeat first | intro _ | refine ⟨(by omega), ?_⟩ | refine ⟨⟨by omega, by omega⟩, ?_⟩
      refine hK _ ?_
      clear hK K
      refine awp_sub (sub_keep [2, 3, 4, 9, 10, 11]) ?_
      simp only [go_sem]
      repeat refine awp_seq ?_
      refine awp_reg (by kernel_rfl) fun K hK => ?_
      simp only [go_sem, hx, hci, bedR, hlt]
      (try simp (disch := omega) only [wrapI])
      repeat first | intro _ | refine ⟨(by omega), ?_⟩ | refine ⟨⟨by omega, by omega⟩, ?_⟩
      refine hK _ ?_
      clear hK K
      refine awp_sub (sub_keep [2, 3, 4, 9, 10, 11]) ?_
      simp only [go_sem]
      repeat refine awp_seq ?_
      refine awp_reg (by kernel_rfl) fun K hK => ?_
      simp only [go_sem]
      (try simp (disch := omega) only [wrapI])
      repeat first | intro _ | refine ⟨(by omega), ?_⟩ | refine ⟨⟨by omega, by omega⟩, ?_⟩
      refine hK _ ?_
      clear hK K
      try simp only [go_sem]
      refine ⟨hci, fitV_of [] ?_ ?_⟩
      · rw [take_of_opt hx, loS_snoc, show d - (loS (l.take i) + x.lo) = d - loS (l.take i) - x.lo from by omega]
        try simp only [go_sem]
      · try simp only [go_sem]
        rw [htx]
        simp
    · -- else
      have hil : i = l.length := by omega
      subst hil
      have hg0 : (l.map (·.lo)).take l.length = givenT key l 0 := by rw [givenT_zero key hch, List.take_of_length_le (by simp)]
      rw [hg0, List.take_length]
      refine awp_exit ?_
      simp only [go_sem]
      repeat refine awp_seq ?_
      refine awp_block ?_
      refine awp_uptoV (n := 106) (d - loS l).toNat (fun k vs => [(2, .r (ints vals)), (3, .r (.bo g)), (4, .r (.rp [i64 a, bedsR l])), (9, .os 40 (vs 40) 1 0 l.length), (10, .r (i64 (d - loS l - k)))])
        (fun k vs => [(40, .arr 3 1 ((givenT key l k).map fun x => [i64 x]))]) (fun k => (givenT key l k).sum = loS l + k) 0 (fitV_of [] ?_ ?_) (Nat.zero_le _) ?_ ?_
      · try simp only [go_sem]
        try simp
      · try simp only [go_sem]
      · rw [show ((0 : Nat) : Int) = 0 from rfl, givenT_zero key hch]
        simp [loS]
      · intro k vs hk hK
        repeat refine awp_seq ?_
        refine awp_reg (by kernel_rfl) fun K hK => ?_
        simp only [go_sem]
        (try simp (disch := omega) only [wrapI])
        repeat first | intro _ | refine ⟨(by omega), ?_⟩ | refine ⟨⟨by omega, by omega⟩, ?_⟩
        refine hK _ ?_
        clear hK K
        refine awp_sub (sub_keep [2, 3, 4, 9, 10, 43]) ?_
        simp only [go_sem]
        repeat refine awp_seq ?_
        refine awp_cond rfl (fun hc => ?_) (fun hc => ?_) <;> (try simp only [go_sem] at hc)
        · -- then
          have hkN : k < (d - loS l).toNat := by omega
          obtain ⟨j, hjl, hpick, hnext, hsum, hroom⟩ := givenT_step key hch (k := k) (by omega) hK (by omega)
          obtain ⟨O, hO⟩ : ∃ O, O = givenT key l k := ⟨_, rfl⟩
          have hOl : O.length = l.length := by rw [hO, givenT_len]
          rw [← hO] at hpick hnext hroom
          obtain ⟨R, hR⟩ : ∃ R, R = roomT l O := ⟨_, rfl⟩
          rw [← hR] at hpick
          refine awp_skip ?_
          try simp only [go_sem]
          repeat refine awp_seq ?_
          refine awp_block ?_
          repeat refine awp_seq ?_
          refine awp_reg (by kernel_rfl) fun K hK => ?_
          simp only [go_sem]
          (try simp (disch := omega) only [wrapI])
          repeat first | intro _ | refine ⟨(by omega), ?_⟩ | refine ⟨⟨by omega, by omega⟩, ?_⟩
          refine hK _ ?_
          clear hK K
          refine awp_sub (sub_keep [2, 3, 4, 9, 10, 12]) ?_
          simp only [go_sem]
          repeat refine awp_seq ?_
          refine awp_reg (by kernel_rfl) fun K hK => ?_
          simp only [go_sem]
          (try simp (disch := omega) only [wrapI])
          repeat first | intro _ | refine ⟨(by omega), ?_⟩ | refine ⟨⟨by omega, by omega⟩, ?_⟩
          refine hK _ ?_
          clear hK K
          refine awp_sub (sub_keep [2, 3, 4, 9, 10, 12, 13]) ?_
          simp only [go_sem]
          rw [← hO]
          repeat refine awp_seq ?_
          refine awp_block ?_
          refine awp_uptoV (n := 106) l.length (fun i vs => [(2, .r (ints vals)), (3, .r (.bo g)), (4, .r (.rp [i64 a, bedsR l])), (9, .os 40 (vs 40) 1 0 l.length), (10, .r (i64 (d - loS l - k))), (12, .r (i64 (pickT key R i))), (13, .r (i64 i))])
            (fun i vs => [(40, .arr 3 1 (O.map fun x => [i64 x]))]) (fun _ => True) 0 (fitV_of [] ?_ ?_) (Nat.zero_le _) trivial ?_
          · try simp only [go_sem]
            rfl
          · try simp only [go_sem]
          · intro i vs hi _
            repeat refine awp_seq ?_
            refine awp_reg (by kernel_rfl) fun K hK => ?_
            simp only [go_sem]
            (try simp (disch := omega) only [wrapI])
            repeat first | intro _ | refine ⟨(by omega), ?_⟩ | refine ⟨⟨by omega, by omega⟩, ?_⟩
            refine hK _ ?_
            clear hK K
            refine awp_sub (sub_keep [2, 3, 4, 9, 10, 12, 13, 50]) ?_
            simp only [go_sem]
            repeat refine awp_seq ?_
            refine awp_cond rfl (fun hc => ?_) (fun hc => ?_) <;> (try simp only [go_sem] at hc)
            · -- then
              have hci := hc
              have hco : i < O.length := by omega
              have hcv : i < vals.length := by omega
              obtain ⟨x, hx⟩ := opt_of_lt hci
              obtain ⟨o, ho⟩ := opt_of_lt hco
              obtain ⟨v, hvi⟩ := opt_of_lt hcv
              have hRi : R i = decide (o < x.hi) := by simp [hR, roomT, atO, hiO, ho, hx]
              have hki : key i = if g then -v else v := by simp [hkey, keyG, hvi]
              have stepT : ∀ b : Bool, (R i = true ∧ (pickT key R i < 0 ∨ key i < key (pickT key R i).toNat)) = (b = true) → pickT key R (i + 1) = if b then (i : Int) else pickT key R i := fun b hb => by
                simp only [pickT, hb]
              have hsp := pickT_spec key R i
              refine awp_skip ?_
              try simp only [go_sem]
              repeat refine awp_seq ?_
              refine awp_block ?_
              cases hRv : R i
              · have e1 : decide (o < x.hi) = false := by rw [← hRi, hRv]
                have st : pickT key R (i + 1) = pickT key R i := by rw [stepT false (by simp [hRv])]; rfl
                generalize pickT key R i = t at st ⊢
                repeat refine awp_seq ?_
                refine awp_dreg2 [(2, none), (3, none), (4, none), (9, some 40), (12, none), (13, none)] follows (by decide +kernel) (by kernel_rfl) (by simp only [keysOk, List.mem_cons, List.not_mem_nil, forall_eq_or_imp, Oc.keyOf, go_sem]; simp) fun K hK => ?_
                simp only [go_sem, hx, ho, hvi, hci, hco, hcv, bedR, e1]
                (try simp (disch := omega) only [wrapI])
                repeat first | intro _ | refine ⟨(by omega), ?_⟩ | refine ⟨⟨by omega, by omega⟩, ?_⟩
                refine hK _ ?_
                clear hK K
                refine awp_sub (sub_keep [2, 3, 4, 9, 10, 12, 13, 97]) ?_
                simp only [go_sem]
                repeat refine awp_seq ?_
                refine awp_cond rfl (fun hc => ?_) (fun hc => ?_) <;> (try simp only [go_sem] at hc)
                refine awp_skip ?_
                try simp only [go_sem]
                repeat refine awp_seq ?_
                refine awp_reg (by kernel_rfl) fun K hK => ?_
                simp only [go_sem]
                (try simp (disch := omega) only [wrapI])
                repeat first | intro _ | refine ⟨(by omega), ?_⟩ | refine ⟨⟨by omega, by omega⟩, ?_⟩
                refine hK _ ?_
                clear hK K
                try simp only [go_sem]
                refine ⟨hci, fitV_of [] ?_ ?_⟩
                · rw [st]
                  try simp only [go_sem]
                · try simp only [go_sem]
              have e1 : decide (o < x.hi) = true := by rw [← hRi, hRv]
              rcases hsp with ⟨hj1, _⟩ | ⟨j2, hj2, hj1, _, _⟩
              · have st : pickT key R (i + 1) = i := by rw [stepT true (by simp [hRv, hj1])]; rfl
                rw [hj1]
                repeat refine awp_seq ?_
                refine awp_dreg2 [(2, none), (3, none), (4, none), (9, some 40), (12, none), (13, none)] follows (by decide +kernel) (by kernel_rfl) (by simp only [keysOk, List.mem_cons, List.not_mem_nil, forall_eq_or_imp, Oc.keyOf, go_sem]; simp) fun K hK => ?_
                simp only [go_sem, hx, ho, hvi, hci, hco, hcv, bedR, e1]
                (try simp (disch := omega) only [wrapI])
                repeat first | intro _ | refine ⟨(by omega), ?_⟩ | refine ⟨⟨by omega, by omega⟩, ?_⟩
                refine hK _ ?_
                clear hK K
                refine awp_sub (sub_keep [2, 3, 4, 9, 10, 12, 13, 97]) ?_
                simp only [go_sem]
                repeat refine awp_seq ?_
                refine awp_cond rfl (fun hc => ?_) (fun hc => ?_) <;> (try simp only [go_sem] at hc)
                repeat refine awp_seq ?_
                refine awp_reg (by kernel_rfl) fun K hK => ?_
                simp only [go_sem]
                (try simp (disch := omega) only [wrapI])
                repeat first | intro _ | refine ⟨(by omega), ?_⟩ | refine ⟨⟨by omega, by omega⟩, ?_⟩
                refine hK _ ?_
                clear hK K
                refine awp_sub (sub_keep [2, 3, 4, 9, 10, 12, 13]) ?_
                simp only [go_sem]
                repeat refine awp_seq ?_
                refine awp_reg (by kernel_rfl) fun K hK => ?_
                simp only [go_sem]
                (try simp (disch := omega) only [wrapI])
                repeat first | intro _ | refine ⟨(by omega), ?_⟩ | refine ⟨⟨by omega, by omega⟩, ?_⟩
                refine hK _ ?_
                clear hK K
                try simp only [go_sem]
                refine ⟨hci, fitV_of [] ?_ ?_⟩
                · rw [st]
                  try simp only [go_sem]
                · try simp only [go_sem]
              have hcj : j2 < vals.length := by omega
              obtain ⟨w, hvj⟩ := opt_of_lt hcj
              have hkj : key j2 = if g then -w else w := by simp [hkey, keyG, hvj]
              have e2 : decide ((j2 : Int) < 0) = false := by simp
              have e3 : ((j2 : Int) < 0) = False := by simp
              have hnj : ¬ ((j2 : Int) < 0) := by omega
              cases hgv : g
              · rw [hgv] at hki hkj
                simp only [Bool.false_eq_true, if_false] at hki hkj
                by_cases hlt : v < w
                · have e4 : decide (v < w) = true := by simpa using hlt
                  have st : pickT key R (i + 1) = i := by
                    rw [stepT true (by rw [hRv, hj1, Int.toNat_natCast, hki, hkj]; simp [hnj]; omega)]; rfl
                  rw [hj1]
                  repeat refine awp_seq ?_
                  refine awp_dreg2 [(2, none), (3, none), (4, none), (9, some 40), (12, none), (13, none)] follows (by decide +kernel) (by kernel_rfl) (by simp only [keysOk, List.mem_cons, List.not_mem_nil, forall_eq_or_imp, Oc.keyOf, go_sem]; simp) fun K hK => ?_
                  simp only [go_sem, hx, ho, hvi, hci, hco, hcv, bedR, e1, e2, e3, e4, hvj, hcj]
                  (try simp (disch := omega) only [wrapI])
                  repeat first | intro _ | refine ⟨(by omega), ?_⟩ | refine ⟨⟨by omega, by omega⟩, ?_⟩
                  refine hK _ ?_
                  clear hK K
                  refine awp_sub (sub_keep [2, 3, 4, 9, 10, 12, 13, 97]) ?_
                  simp only [go_sem]
                  repeat refine awp_seq ?_
                  refine awp_cond rfl (fun hc => ?_) (fun hc => ?_) <;> (try simp only [go_sem] at hc)
                  repeat refine awp_seq ?_
                  refine awp_reg (by kernel_rfl) fun K hK => ?_
                  simp only [go_sem]
                  (try simp (disch := omega) only [wrapI])
                  repeat first | intro _ | refine ⟨(by omega), ?_⟩ | refine ⟨⟨by omega, by omega⟩, ?_⟩
                  refine hK _ ?_
                  clear hK K
                  refine awp_sub (sub_keep [2, 3, 4, 9, 10, 12, 13]) ?_
                  simp only [go_sem]
                  repeat refine awp_seq ?_
                  refine awp_reg (by kernel_rfl) fun K hK => ?_
                  simp only [go_sem]
                  (try simp (disch := omega) only [wrapI])
                  repeat first | intro _ | refine ⟨(by omega), ?_⟩ | refine ⟨⟨by omega, by omega⟩, ?_⟩
                  refine hK _ ?_
                  clear hK K
                  try simp only [go_sem]
                  refine ⟨hci, fitV_of [] ?_ ?_⟩
                  · rw [st]
                    try simp only [go_sem]
                  · try simp only [go_sem]
                · have e4 : decide (v < w) = false := by simpa using hlt
                  have st : pickT key R (i + 1) = j2 := by
                    rw [stepT false (by rw [hRv, hj1, Int.toNat_natCast, hki, hkj]; simp [hnj]; omega)]; exact hj1
                  rw [hj1]
                  repeat refine awp_seq ?_
                  refine awp_dreg2 [(2, none), (3, none), (4, none), (9, some 40), (12, none), (13, none)] follows (by decide +kernel) (by kernel_rfl) (by simp only [keysOk, List.mem_cons, List.not_mem_nil, forall_eq_or_imp, Oc.keyOf, go_sem]; simp) fun K hK => ?_
                  simp only [go_sem, hx, ho, hvi, hci, hco, hcv, bedR, e1, e2, e3, e4, hvj, hcj]
                  (try simp (disch := omega) only [wrapI])
                  repeat first | intro _ | refine ⟨(by omega), ?_⟩ | refine ⟨⟨by omega, by omega⟩, ?_⟩
                  refine hK _ ?_
                  clear hK K
                  refine awp_sub (sub_keep [2, 3, 4, 9, 10, 12, 13, 97]) ?_
                  simp only [go_sem]
                  repeat refine awp_seq ?_
                  refine awp_cond rfl (fun hc => ?_) (fun hc => ?_) <;> (try simp only [go_sem] at hc)
                  refine awp_skip ?_
                  try simp only [go_sem]
                  repeat refine awp_seq ?_
                  refine awp_reg (by kernel_rfl) fun K hK => ?_
                  simp only [go_sem]
                  (try simp (disch := omega) only [wrapI])
                  repeat first | intro _ | refine ⟨(by omega), ?_⟩ | refine ⟨⟨by omega, by omega⟩, ?_⟩
                  refine hK _ ?_
                  clear hK K
                  try simp only [go_sem]
                  refine ⟨hci, fitV_of [] ?_ ?_⟩
                  · rw [st]
                    try simp only [go_sem]
                  · try simp only [go_sem]
              · rw [hgv] at hki hkj
                simp only [if_true] at hki hkj
                by_cases hlt : w < v
                · have e4 : decide (w < v) = true := by simpa using hlt
                  have st : pickT key R (i + 1) = i := by
                    rw [stepT true (by rw [hRv, hj1, Int.toNat_natCast, hki, hkj]; simp [hnj]; omega)]; rfl
                  rw [hj1]
                  repeat refine awp_seq ?_
                  refine awp_dreg2 [(2, none), (3, none), (4, none), (9, some 40), (12, none), (13, none)] follows (by decide +kernel) (by kernel_rfl) (by simp only [keysOk, List.mem_cons, List.not_mem_nil, forall_eq_or_imp, Oc.keyOf, go_sem]; simp) fun K hK => ?_
                  simp only [go_sem, hx, ho, hvi, hci, hco, hcv, bedR, e1, e2, e3, e4, hvj, hcj]
                  (try simp (disch := omega) only [wrapI])
                  repeat first | intro _ | refine ⟨(by omega), ?_⟩ | refine ⟨⟨by omega, by omega⟩, ?_⟩
                  refine hK _ ?_
                  clear hK K
                  refine awp_sub (sub_keep [2, 3, 4, 9, 10, 12, 13, 97]) ?_
                  simp only [go_sem]
                  repeat refine awp_seq ?_
                  refine awp_cond rfl (fun hc => ?_) (fun hc => ?_) <;> (try simp only [go_sem] at hc)
                  repeat refine awp_seq ?_
                  refine awp_reg (by kernel_rfl) fun K hK => ?_
                  simp only [go_sem]
                  (try simp (disch := omega) only [wrapI])
                  repeat first | intro _ | refine ⟨(by omega), ?_⟩ | refine ⟨⟨by omega, by omega⟩, ?_⟩
                  refine hK _ ?_
                  clear hK K
                  refine awp_sub (sub_keep [2, 3, 4, 9, 10, 12, 13]) ?_
                  simp only [go_sem]
                  repeat refine awp_seq ?_
                  refine awp_reg (by kernel_rfl) fun K hK => ?_
                  simp only [go_sem]
                  (try simp (disch := omega) only [wrapI])
                  repeat first | intro _ | refine ⟨(by omega), ?_⟩ | refine ⟨⟨by omega, by omega⟩, ?_⟩
                  refine hK _ ?_
                  clear hK K
                  try simp only [go_sem]
                  refine ⟨hci, fitV_of [] ?_ ?_⟩
                  · rw [st]
                    try simp only [go_sem]
                  · try simp only [go_sem]
                · have e4 : decide (w < v) = false := by simpa using hlt
                  have st : pickT key R (i + 1) = j2 := by
                    rw [stepT false (by rw [hRv, hj1, Int.toNat_natCast, hki, hkj]; simp [hnj]; omega)]; exact hj1
                  rw [hj1]
                  repeat refine awp_seq ?_
                  refine awp_dreg2 [(2, none), (3, none), (4, none), (9, some 40), (12, none), (13, none)] follows (by decide +kernel) (by kernel_rfl) (by simp only [keysOk, List.mem_cons, List.not_mem_nil, forall_eq_or_imp, Oc.keyOf, go_sem]; simp) fun K hK => ?_
                  simp only [go_sem, hx, ho, hvi, hci, hco, hcv, bedR, e1, e2, e3, e4, hvj, hcj]
                  (try simp (disch := omega) only [wrapI])
                  repeat first | intro _ | refine ⟨(by omega), ?_⟩ | refine ⟨⟨by omega, by omega⟩, ?_⟩
                  refine hK _ ?_
                  clear hK K
                  refine awp_sub (sub_keep [2, 3, 4, 9, 10, 12, 13, 97]) ?_
                  simp only [go_sem]
                  repeat refine awp_seq ?_
                  refine awp_cond rfl (fun hc => ?_) (fun hc => ?_) <;> (try simp only [go_sem] at hc)
                  refine awp_skip ?_
                  try simp only [go_sem]
                  repeat refine awp_seq ?_
                  refine awp_reg (by kernel_rfl) fun K hK => ?_
                  simp only [go_sem]
                  (try simp (disch := omega) only [wrapI])
                  repeat first | intro _ | refine ⟨(by omega), ?_⟩ | refine ⟨⟨by omega, by omega⟩, ?_⟩
                  refine hK _ ?_
                  clear hK K
                  try simp only [go_sem]
                  refine ⟨hci, fitV_of [] ?_ ?_⟩
                  · rw [st]
                    try simp only [go_sem]
                  · try simp only [go_sem]
            · -- else
              have hil : i = l.length := by omega
              subst hil
              rw [hpick]
              have hjO : j < O.length := by omega
              obtain ⟨x, hx⟩ := opt_of_lt hjl
              obtain ⟨o, ho⟩ := opt_of_lt hjO
              have hbd := givenT_ok key hch (k := k) (by omega) (by omega) hx
              rw [← hO] at hbd
              have hoj : atO O j = o := by simp [atO, ho]
              rw [hoj] at hbd hnext
              have hxs := hs x (mem_of_opt hx)
              refine awp_exit ?_
              simp only [go_sem]
              repeat refine awp_seq ?_
              refine awp_reg (by kernel_rfl) fun K hK => ?_
              simp only [go_sem, ho, hjO]
              (try simp (disch := omega) only [wrapI])
              repeat first | intro _ | refine ⟨(by omega), ?_⟩ | refine ⟨⟨by omega, by omega⟩, ?_⟩
              refine hK _ ?_
              clear hK K
              refine awp_sub (sub_keep [2, 3, 4, 9, 10]) ?_
              simp only [go_sem]
              repeat refine awp_seq ?_
              refine awp_reg (by kernel_rfl) fun K hK => ?_
              simp only [go_sem]
              (try simp (disch := omega) only [wrapI])
              repeat first | intro _ | refine ⟨(by omega), ?_⟩ | refine ⟨⟨by omega, by omega⟩, ?_⟩
              refine hK _ ?_
              clear hK K
              try simp only [go_sem]
              refine ⟨hkN, by simpa using hsum, fitV_of [] ?_ ?_⟩
              · try simp only [go_sem]
                omega
              · try simp only [go_sem]
                rw [hnext, ← intsR_set]
        · -- else
          have hkN : (k : Int) = d - loS l := by omega
          rw [hkN]
          refine awp_exit ?_
          simp only [go_sem]
          repeat refine awp_seq ?_
          refine awp_reg (by kernel_rfl) fun K hK => ?_
          simp only [go_sem]
          (try simp (disch := omega) only [wrapI])
          repeat first | intro _ | refine ⟨(by omega), ?_⟩ | refine ⟨⟨by omega, by omega⟩, ?_⟩
          refine hK _ ?_
          clear hK K
          refine awp_sub (sub_keep [8]) ?_
          simp only [go_sem]
          refine awp_ret ?_
          simp only [go_sem]
          simp [givenT_len, List.take_of_length_le]
theorem refMean_ok (a d : Int) (l : List Bd) (vals : List Int) (hch : chOk d l = true) (hd : d ≤ 3000) (h1 : loS l ≤ d) (h2 : d ≤ hiS l) (hv : vals.length = l.length) (hl : l.length ≤ 1000) (hvs : Vals vals) :
    ACalls Try.prog 42 [aimV ⟨a, l⟩, i64 d, ints vals] (.ag [i64 (meanLo d l vals), i64 (meanHi d l vals)]) := by
  have q0 := filled_facts (cm := cmG false) (vals := vals) hch hd h1
  have q1 := filled_facts (cm := cmG true) (vals := vals) hch hd h1
  have t0 := refTruth_ok a d l vals false hch hd h1 h2 hv hl
  have t1 := refTruth_ok a d l vals true hch hd h1 h2 hv hl
  have o0 := of_ok (filledV (cmG false) d l vals) vals (by rw [q0.1, hv]) (fun x hx => by have := q0.2 x hx; omega) hvs (by rw [q0.1]; exact hl)
  have o1 := of_ok (filledV (cmG true) d l vals) vals (by rw [q1.1, hv]) (fun x hx => by have := q1.2 x hx; omega) hvs (by rw [q1.1]; exact hl)
  have m0 : dotV (filledV (cmG false) d l vals) vals = meanLo d l vals := rfl
  have m1 : dotV (filledV (cmG true) d l vals) vals = meanHi d l vals := rfl
  rw [m0] at o0
  rw [m1] at o1
  generalize filledV (cmG false) d l vals = F0 at t0 o0
  generalize filledV (cmG true) d l vals = F1 at t1 o1
  refine acalls_st (rs := [.ag [i64 (meanLo d l vals), i64 (meanHi d l vals)]]) [.cell 6 46] Try.func42 rfl (by kernel_rfl) Try.ntmps42 rfl (by simp) rfl fun C vs => ?_
  repeat refine awp_seq ?_
  refine awp_reg (by kernel_rfl) fun K hK => ?_
  simp only [go_sem]
  (try simp (disch := omega) only [wrapI])
  repeat first | intro _ | refine ⟨(by omega), ?_⟩ | refine ⟨⟨by omega, by omega⟩, ?_⟩
  refine hK _ ?_
  clear hK K
  refine awp_sub (sub_frzP 3 3 [i64 a, bedsR l] (by omega) rfl rfl) ?_
  refine awp_sub (sub_keep [1, 2, 3, 6]) ?_
  simp only [go_sem]
  repeat refine awp_seq ?_
  refine awp_dreg2 [(1, none), (2, none), (3, none), (6, some 6)] follows (by decide +kernel) (by kernel_rfl) (by simp only [keysOk, List.mem_cons, List.not_mem_nil, forall_eq_or_imp, Oc.keyOf, go_sem]; simp) fun K hK => ?_
  simp only [go_sem]
  (try simp (disch := omega) only [wrapI])
  refine xcall_eq (t0) rfl (by simp only [go_sem, i64, ints]) (by simp only [go_sem, i64, ints]) (by first | exact .inl rfl | exact .inr rfl) ?_
  (try simp only [go_sem])
  (try simp (disch := omega) only [wrapI])
  refine xcall_eq (o0) rfl (by simp only [go_sem, i64, ints]) (by simp only [go_sem, i64, ints]) (by first | exact .inl rfl | exact .inr rfl) ?_
  (try simp only [go_sem])
  (try simp (disch := omega) only [wrapI])
  refine xcall_eq (t1) rfl (by simp only [go_sem, i64, ints]) (by simp only [go_sem, i64, ints]) (by first | exact .inl rfl | exact .inr rfl) ?_
  (try simp only [go_sem])
  (try simp (disch := omega) only [wrapI])
  refine xcall_eq (o1) rfl (by simp only [go_sem, i64, ints]) (by simp only [go_sem, i64, ints]) (by first | exact .inl rfl | exact .inr rfl) ?_
  (try simp only [go_sem])
  (try simp (disch := omega) only [wrapI])
  repeat first | intro _ | refine ⟨(by omega), ?_⟩ | refine ⟨⟨by omega, by omega⟩, ?_⟩
  refine hK _ ?_
  clear hK K
  refine awp_sub (sub_keep [6]) ?_
  simp only [go_sem]
  refine awp_ret ?_
  simp only [go_sem]
end Go.Proofs.Ytgkejinoaommeaa

/- The scores, the best aims, and the error of values, by the document. -/
namespace Go.Proofs.Ytgkejinoaommeaa
open Go Go.Oc
set_option linter.unusedSimpArgs false
set_option linter.unusedVariables false
set_option maxRecDepth 8000
theorem scores_vals {l : List Bd} (hsq : seqOk none l = true) : Vals (scoresOf l) := fun v hv => by
  obtain ⟨y, hy, rfl⟩ := List.mem_map.1 hv
  have h := seqOk_mem hsq y hy
  have := score_le h.1 h.2
  omega
theorem refScores_ok (d : Int) (l : List Am) (hc0 : checkV d l = 0) : ACalls Try.prog 23 [lawV d l] (spansR (spansV d l)) := by
  obtain ⟨c1, c2, c3, c4, c5⟩ := checkV_zero hc0
  have hsv : spansV d l = l.map (spanOf d) := by simp [spansV, hc0]
  rw [hsv]
  refine acalls_st (rs := [spansR (l.map (spanOf d))]) [.tmp 2] Try.func23 rfl (by kernel_rfl) Try.ntmps23 rfl (by simp) rfl fun C vs => ?_
  repeat refine awp_seq ?_
  refine awp_reg (by kernel_rfl) fun K hK => ?_
  simp only [go_sem]
  (try simp (disch := omega) only [wrapI])
  repeat first | intro _ | refine ⟨(by omega), ?_⟩ | refine ⟨⟨by omega, by omega⟩, ?_⟩
  refine hK _ ?_
  clear hK K
  refine awp_sub (sub_frzP 1 1 [i64 d, aimsR l] (by omega) rfl rfl) ?_
  refine awp_sub (sub_keep [1]) ?_
  simp only [go_sem]
  repeat refine awp_seq ?_
  refine awp_reg (by kernel_rfl) fun K hK => ?_
  simp only [go_sem]
  (try simp (disch := omega) only [wrapI])
  repeat first | intro _ | refine ⟨(by omega), ?_⟩ | refine ⟨⟨by omega, by omega⟩, ?_⟩
  refine hK _ ?_
  clear hK K
  refine awp_sub (sub_keep [1, 3]) ?_
  simp only [go_sem]
  repeat refine awp_seq ?_
  refine awp_reg (by kernel_rfl) fun K hK => ?_
  simp only [go_sem]
  (try simp (disch := omega) only [wrapI])
  repeat first | intro _ | refine ⟨(by omega), ?_⟩ | refine ⟨⟨by omega, by omega⟩, ?_⟩
  refine hK _ ?_
  clear hK K
  refine awp_sub (sub_keep [1, 3, 4]) ?_
  simp only [go_sem]
  refine awp_sub (sub_own 3 40 46 2 (by omega) rfl) ?_
  try simp only [go_sem]
  repeat refine awp_seq ?_
  refine awp_block ?_
  refine awp_uptoV (n := 54) l.length (fun i vs => [(1, .r (.rp [i64 d, aimsR l])), (3, .os 40 (vs 40) 2 0 i), (4, .r (i64 i))])
    (fun i vs => [(40, .arr 46 2 (((l.map (spanOf d)).take i).map fun x => [i64 x.1, i64 x.2]))]) (fun _ => True) 0 (fitV_of [] ?_ ?_) (Nat.zero_le _) trivial ?_
  · try simp only [go_sem]
  · try simp only [go_sem]
  · intro i vs hi _
    have hlt : ((l.map (spanOf d)).take i).length = i := by rw [List.length_take]; simp; omega
    repeat refine awp_seq ?_
    refine awp_reg (by kernel_rfl) fun K hK => ?_
    simp only [go_sem]
    (try simp (disch := omega) only [wrapI])
    repeat first | intro _ | refine ⟨(by omega), ?_⟩ | refine ⟨⟨by omega, by omega⟩, ?_⟩
    refine hK _ ?_
    clear hK K
    refine awp_sub (sub_keep [1, 3, 4, 12]) ?_
    simp only [go_sem]
    repeat refine awp_seq ?_
    refine awp_cond rfl (fun hc => ?_) (fun hc => ?_) <;> (try simp only [go_sem] at hc)
    · -- then
      have hci := hc
      obtain ⟨x, hx⟩ := opt_of_lt hc
      obtain ⟨k1, k2, k3, k4, k5, k6⟩ := aimOk_facts (c5 x (mem_of_opt hx))
      have hxl := c2 x (mem_of_opt hx)
      have htx : (l.map (spanOf d)).take (i + 1) = (l.map (spanOf d)).take i ++ [spanOf d x] := take_of_opt (by simp [hx])
      refine awp_skip ?_
      try simp only [go_sem]
      repeat refine awp_seq ?_
      refine awp_block ?_
      repeat refine awp_seq ?_
      refine awp_reg (by kernel_rfl) fun K hK => ?_
      simp only [go_sem]
      (try simp (disch := omega) only [wrapI])
      repeat first | intro _ | refine ⟨(by omega), ?_⟩ | refine ⟨⟨by omega, by omega⟩, ?_⟩
      refine hK _ ?_
      clear hK K
      refine awp_sub (sub_keep [1, 3, 4, 5]) ?_
      simp only [go_sem]
      repeat refine awp_seq ?_
      refine awp_reg (by kernel_rfl) fun K hK => ?_
      simp only [go_sem]
      (try simp (disch := omega) only [wrapI])
      repeat first | intro _ | refine ⟨(by omega), ?_⟩ | refine ⟨⟨by omega, by omega⟩, ?_⟩
      refine hK _ ?_
      clear hK K
      refine awp_sub (sub_keep [1, 3, 4, 5, 6]) ?_
      simp only [go_sem]
      refine awp_sub (sub_own 5 41 3 1 (by omega) rfl) ?_
      try simp only [go_sem]
      repeat refine awp_seq ?_
      refine awp_block ?_
      refine awp_uptoV (n := 54) x.beds.length (fun k vs => [(1, .r (.rp [i64 d, aimsR l])), (3, .os 40 (vs 40) 2 0 i), (4, .r (i64 i)), (5, .os 41 (vs 41) 1 0 k), (6, .r (i64 k))])
        (fun k vs => [(40, .arr 46 2 (((l.map (spanOf d)).take i).map fun x => [i64 x.1, i64 x.2])), (41, .arr 3 1 (((scoresOf x.beds).take k).map fun x => [i64 x]))]) (fun _ => True) 0 (fitV_of [] ?_ ?_) (Nat.zero_le _) trivial ?_
      · try simp only [go_sem]
      · try simp only [go_sem]
      · intro k vs hk _
        have hlk : ((scoresOf x.beds).take k).length = k := by rw [List.length_take]; simp [scoresOf]; omega
        repeat refine awp_seq ?_
        refine awp_reg (by kernel_rfl) fun K hK => ?_
        simp only [go_sem, hx, hci, aimR]
        (try simp (disch := omega) only [wrapI])
        intro _
        repeat first | intro _ | refine ⟨(by omega), ?_⟩ | refine ⟨⟨by omega, by omega⟩, ?_⟩
        refine hK _ ?_
        clear hK K
        refine awp_sub (sub_keep [1, 3, 4, 5, 6, 24]) ?_
        simp only [go_sem]
        repeat refine awp_seq ?_
        refine awp_cond rfl (fun hc => ?_) (fun hc => ?_) <;> (try simp only [go_sem] at hc)
        · -- then
          have hck := hc
          obtain ⟨y, hy⟩ := opt_of_lt hc
          have hsy := seqOk_mem k3 y (mem_of_opt hy)
          have htk : (scoresOf x.beds).take (k + 1) = (scoresOf x.beds).take k ++ [scoreOf y.b] := take_of_opt (by simp [scoresOf, hy])
          refine awp_skip ?_
          try simp only [go_sem]
          repeat refine awp_seq ?_
          refine awp_block ?_
          repeat refine awp_seq ?_
          refine awp_reg (by kernel_rfl) fun K hK => ?_
          simp only [go_sem, hx, hci, aimR, hy, hck, bedR, hlk]
          (try simp (disch := omega) only [wrapI])
          refine xcall_eq (refScore_ok y.b hsy.1 hsy.2) rfl (by simp only [go_sem, i64, ints, hlk]) (by simp only [go_sem, i64, ints, hlk]) (by first | exact .inl rfl | exact .inr rfl) ?_
          (try simp only [go_sem, hlk])
          (try simp (disch := omega) only [wrapI])
          repeat first | intro _ | refine ⟨(by omega), ?_⟩ | refine ⟨⟨by omega, by omega⟩, ?_⟩
          refine hK _ ?_
          clear hK K
          refine awp_sub (sub_keep [1, 3, 4, 5, 6]) ?_
          simp only [go_sem]
          repeat refine awp_seq ?_
          refine awp_reg (by kernel_rfl) fun K hK => ?_
          simp only [go_sem]
          (try simp (disch := omega) only [wrapI])
          repeat first | intro _ | refine ⟨(by omega), ?_⟩ | refine ⟨⟨by omega, by omega⟩, ?_⟩
          refine hK _ ?_
          clear hK K
          try simp only [go_sem]
          refine ⟨hck, fitV_of [] ?_ ?_⟩
          · try simp only [go_sem]
          · try simp only [go_sem]
            rw [htk]
            simp
        · -- else
          refine awp_exit ?_
          simp only [go_sem]
          have hkk : k = x.beds.length := by omega
          subst hkk
          have e1 : (scoresOf x.beds).take x.beds.length = scoresOf x.beds := List.take_of_length_le (by simp [scoresOf])
          rw [e1]
          have hvl : (scoresOf x.beds).length = x.beds.length := by simp [scoresOf]
          refine awp_sub (sub_frz (ty := 3) (sz := 1) (off := 0) (m := x.beds.length) (es := (scoresOf x.beds).map fun x => [i64 x]) 5 41 (by omega) (by try simp only [go_sem]) (by try simp only [go_sem]) (by simp [hvl])) ?_
          have e2 : (((scoresOf x.beds).map fun x => [i64 x]).drop 0).take x.beds.length = (scoresOf x.beds).map fun x => [i64 x] := by
            rw [List.drop_zero, List.take_of_length_le (by simp [hvl])]
          rw [e2]
          refine awp_sub (sub_keep [1, 3, 4, 5]) ?_
          simp only [go_sem]
          repeat refine awp_seq ?_
          refine awp_dreg2 [(1, none), (3, some 40), (4, none), (5, none)] follows (by decide +kernel) (by kernel_rfl) (by simp only [keysOk, List.mem_cons, List.not_mem_nil, forall_eq_or_imp, Oc.keyOf, go_sem]; simp) fun K hK => ?_
          simp only [go_sem, hx, hci, aimR, hlt]
          (try simp (disch := omega) only [wrapI])
          refine xcall_eq (refMean_ok x.at_ d x.beds (scoresOf x.beds) k4 c4.2 k5 k6 hvl (by omega) (scores_vals k3)) rfl (by simp only [go_sem, i64, ints, hlt]) (by simp only [go_sem, i64, ints, hlt]) (by first | exact .inl rfl | exact .inr rfl) ?_
          (try simp only [go_sem, hlt])
          (try simp (disch := omega) only [wrapI])
          repeat first | intro _ | refine ⟨(by omega), ?_⟩ | refine ⟨⟨by omega, by omega⟩, ?_⟩
          refine hK _ ?_
          clear hK K
          refine awp_sub (sub_keep [1, 3, 4]) ?_
          simp only [go_sem]
          repeat refine awp_seq ?_
          refine awp_reg (by kernel_rfl) fun K hK => ?_
          simp only [go_sem]
          (try simp (disch := omega) only [wrapI])
          repeat first | intro _ | refine ⟨(by omega), ?_⟩ | refine ⟨⟨by omega, by omega⟩, ?_⟩
          refine hK _ ?_
          clear hK K
          try simp only [go_sem]
          refine ⟨hci, fitV_of [] ?_ ?_⟩
          · try simp only [go_sem]
          · try simp only [go_sem]
            rw [htx]
            simp [spanOf]
    · -- else
      refine awp_exit ?_
      simp only [go_sem]
      repeat refine awp_seq ?_
      refine awp_reg (by kernel_rfl) fun K hK => ?_
      simp only [go_sem]
      (try simp (disch := omega) only [wrapI])
      repeat first | intro _ | refine ⟨(by omega), ?_⟩ | refine ⟨⟨by omega, by omega⟩, ?_⟩
      refine hK _ ?_
      clear hK K
      refine awp_sub (sub_keep [2]) ?_
      simp only [go_sem]
      refine awp_ret ?_
      simp only [go_sem]
      have : i = l.length := by omega
      subst this
      simp [List.take_of_length_le]
theorem refSure_ok (d : Int) (l : List Am) (hc0 : checkV d l = 0) : ACalls Try.prog 25 [lawV d l, .bo true] (ints (bestL isP (spansV d l))) := by
  have hS := refScores_ok d l hc0
  have hsl : (spansV d l).length ≤ 20 := by
    have := (checkV_zero hc0).1
    simp [spansV, hc0]; omega
  generalize spansV d l = s at hS hsl ⊢
  refine acalls_st (rs := [ints (bestL isP s)]) [.tmp 4] Try.func25 rfl (by kernel_rfl) Try.ntmps25 rfl (by simp) rfl fun C vs => ?_
  repeat refine awp_seq ?_
  refine awp_reg (by kernel_rfl) fun K hK => ?_
  simp only [go_sem]
  (try simp (disch := omega) only [wrapI])
  repeat first | intro _ | refine ⟨(by omega), ?_⟩ | refine ⟨⟨by omega, by omega⟩, ?_⟩
  refine hK _ ?_
  clear hK K
  refine awp_sub (sub_frzP 2 2 [i64 d, aimsR l] (by omega) rfl rfl) ?_
  refine awp_sub (sub_keep [1, 2]) ?_
  simp only [go_sem]
  repeat refine awp_seq ?_
  refine awp_reg (by kernel_rfl) fun K hK => ?_
  simp only [go_sem]
  (try simp (disch := omega) only [wrapI])
  refine xcall_eq (hS) rfl (by simp only [go_sem, i64, ints]) (by simp only [go_sem, i64, ints]) (by first | exact .inl rfl | exact .inr rfl) ?_
  (try simp only [go_sem])
  (try simp (disch := omega) only [wrapI])
  repeat first | intro _ | refine ⟨(by omega), ?_⟩ | refine ⟨⟨by omega, by omega⟩, ?_⟩
  refine hK _ ?_
  clear hK K
  refine awp_sub (sub_keep [1, 5, 6]) ?_
  simp only [go_sem]
  repeat refine awp_seq ?_
  refine awp_reg (by kernel_rfl) fun K hK => ?_
  simp only [go_sem]
  (try simp (disch := omega) only [wrapI])
  repeat first | intro _ | refine ⟨(by omega), ?_⟩ | refine ⟨⟨by omega, by omega⟩, ?_⟩
  refine hK _ ?_
  clear hK K
  refine awp_sub (sub_keep [1, 5, 6, 7]) ?_
  simp only [go_sem]
  refine awp_sub (sub_own 5 40 3 1 (by omega) rfl) ?_
  try simp only [go_sem]
  repeat refine awp_seq ?_
  refine awp_block ?_
  refine awp_uptoV (n := 67) s.length (fun i vs => [(1, .r (.bo true)), (5, .os 40 (vs 40) 1 0 (bestK isP s i).length), (6, .r (spansR s)), (7, .r (i64 i))])
    (fun i vs => [(40, .arr 3 1 ((bestK isP s i).map fun x => [i64 x]))]) (fun _ => True) 0 (fitV_of [] ?_ ?_) (Nat.zero_le _) trivial ?_
  · try simp only [go_sem]
    simp [bestK]
  · try simp only [go_sem]
    simp [bestK]
  · intro i vs hi _
    repeat refine awp_seq ?_
    refine awp_reg (by kernel_rfl) fun K hK => ?_
    simp only [go_sem]
    (try simp (disch := omega) only [wrapI])
    repeat first | intro _ | refine ⟨(by omega), ?_⟩ | refine ⟨⟨by omega, by omega⟩, ?_⟩
    refine hK _ ?_
    clear hK K
    refine awp_sub (sub_keep [1, 5, 6, 7, 16]) ?_
    simp only [go_sem]
    repeat refine awp_seq ?_
    refine awp_cond rfl (fun hc => ?_) (fun hc => ?_) <;> (try simp only [go_sem] at hc)
    · -- then
      have hci := hc
      obtain ⟨x, hx⟩ := opt_of_lt hc
      have st := bestK_step (q := isP) hx
      have ln := bestK_len isP s i
      refine awp_skip ?_
      try simp only [go_sem]
      repeat refine awp_seq ?_
      refine awp_block ?_
      repeat refine awp_seq ?_
      refine awp_reg (by kernel_rfl) fun K hK => ?_
      simp only [go_sem]
      (try simp (disch := omega) only [wrapI])
      repeat first | intro _ | refine ⟨(by omega), ?_⟩ | refine ⟨⟨by omega, by omega⟩, ?_⟩
      refine hK _ ?_
      clear hK K
      refine awp_sub (sub_keep [1, 5, 6, 7, 8]) ?_
      simp only [go_sem]
      repeat refine awp_seq ?_
      refine awp_reg (by kernel_rfl) fun K hK => ?_
      simp only [go_sem]
      (try simp (disch := omega) only [wrapI])
      repeat first | intro _ | refine ⟨(by omega), ?_⟩ | refine ⟨⟨by omega, by omega⟩, ?_⟩
      refine hK _ ?_
      clear hK K
      refine awp_sub (sub_keep [1, 5, 6, 7, 8, 9]) ?_
      simp only [go_sem]
      repeat refine awp_seq ?_
      refine awp_block ?_
      refine awp_uptoV (n := 67) s.length (fun k vs => [(1, .r (.bo true)), (5, .os 40 (vs 40) 1 0 (bestK isP s i).length), (6, .r (spansR s)), (7, .r (i64 i)), (8, .r (.bo ((s.zipIdx.take k).all (isP x i)))), (9, .r (i64 k))])
        (fun k vs => [(40, .arr 3 1 ((bestK isP s i).map fun x => [i64 x]))]) (fun _ => True) 0 (fitV_of [] ?_ ?_) (Nat.zero_le _) trivial ?_
      · try simp only [go_sem]
        simp
      · try simp only [go_sem]
      · intro k vs hk _
        repeat refine awp_seq ?_
        refine awp_reg (by kernel_rfl) fun K hK => ?_
        simp only [go_sem]
        (try simp (disch := omega) only [wrapI])
        repeat first | intro _ | refine ⟨(by omega), ?_⟩ | refine ⟨⟨by omega, by omega⟩, ?_⟩
        refine hK _ ?_
        clear hK K
        refine awp_sub (sub_keep [1, 5, 6, 7, 8, 9, 22]) ?_
        simp only [go_sem]
        repeat refine awp_seq ?_
        refine awp_cond rfl (fun hc => ?_) (fun hc => ?_) <;> (try simp only [go_sem] at hc)
        · -- then
          have hck := hc
          obtain ⟨y, hy⟩ := opt_of_lt hck
          have hyz : s.zipIdx[k]? = some (y, k) := by simp [hy]
          have a1 := all_step (p := isP x i) hyz
          generalize (s.zipIdx.take k).all (isP x i) = A at a1 ⊢
          refine awp_skip ?_
          try simp only [go_sem]
          repeat refine awp_seq ?_
          refine awp_block ?_
          by_cases hki : k = i
          · have e0 : ((k : Int) != (i : Int)) = false := by simp [hki]
            have hn : (s.zipIdx.take (k + 1)).all (isP x i) = A := by rw [a1]; simp [isP, hki]
            repeat refine awp_seq ?_
            refine awp_dreg2 [(1, none), (6, none), (7, none), (8, none), (9, none)] follows (by decide +kernel) (by kernel_rfl) (by simp only [keysOk, List.mem_cons, List.not_mem_nil, forall_eq_or_imp, Oc.keyOf, go_sem]; simp) fun K hK => ?_
            simp only [go_sem, hx, hy, hci, hck, e0]
            (try simp (disch := omega) only [wrapI])
            repeat first | intro _ | refine ⟨(by omega), ?_⟩ | refine ⟨⟨by omega, by omega⟩, ?_⟩
            refine hK _ ?_
            clear hK K
            refine awp_sub (sub_keep [1, 5, 6, 7, 8, 9, 60]) ?_
            simp only [go_sem]
            repeat refine awp_seq ?_
            refine awp_cond rfl (fun hc => ?_) (fun hc => ?_) <;> (try simp only [go_sem] at hc)
            refine awp_skip ?_
            try simp only [go_sem]
            repeat refine awp_seq ?_
            refine awp_reg (by kernel_rfl) fun K hK => ?_
            simp only [go_sem]
            (try simp (disch := omega) only [wrapI])
            repeat first | intro _ | refine ⟨(by omega), ?_⟩ | refine ⟨⟨by omega, by omega⟩, ?_⟩
            refine hK _ ?_
            clear hK K
            try simp only [go_sem]
            refine ⟨hck, fitV_of [] ?_ ?_⟩
            · rw [hn]
              try simp only [go_sem]
            · try simp only [go_sem]
          have e0 : ((k : Int) != (i : Int)) = true := by simp; omega
          by_cases hlt : x.1 < y.2
          · have e4 : decide (x.1 < y.2) = true := by simpa using hlt
            have hn : (s.zipIdx.take (k + 1)).all (isP x i) = false := by rw [a1]; simp [isP, hki]; intro _; omega
            repeat refine awp_seq ?_
            refine awp_dreg2 [(1, none), (6, none), (7, none), (8, none), (9, none)] follows (by decide +kernel) (by kernel_rfl) (by simp only [keysOk, List.mem_cons, List.not_mem_nil, forall_eq_or_imp, Oc.keyOf, go_sem]; simp) fun K hK => ?_
            simp only [go_sem, hx, hy, hci, hck, e0, e4]
            (try simp (disch := omega) only [wrapI])
            repeat first | intro _ | refine ⟨(by omega), ?_⟩ | refine ⟨⟨by omega, by omega⟩, ?_⟩
            refine hK _ ?_
            clear hK K
            refine awp_sub (sub_keep [1, 5, 6, 7, 8, 9, 60]) ?_
            simp only [go_sem]
            repeat refine awp_seq ?_
            refine awp_cond rfl (fun hc => ?_) (fun hc => ?_) <;> (try simp only [go_sem] at hc)
            repeat refine awp_seq ?_
            refine awp_reg (by kernel_rfl) fun K hK => ?_
            simp only [go_sem]
            (try simp (disch := omega) only [wrapI])
            repeat first | intro _ | refine ⟨(by omega), ?_⟩ | refine ⟨⟨by omega, by omega⟩, ?_⟩
            refine hK _ ?_
            clear hK K
            refine awp_sub (sub_keep [1, 5, 6, 7, 8, 9]) ?_
            simp only [go_sem]
            repeat refine awp_seq ?_
            refine awp_reg (by kernel_rfl) fun K hK => ?_
            simp only [go_sem]
            (try simp (disch := omega) only [wrapI])
            repeat first | intro _ | refine ⟨(by omega), ?_⟩ | refine ⟨⟨by omega, by omega⟩, ?_⟩
            refine hK _ ?_
            clear hK K
            try simp only [go_sem]
            refine ⟨hck, fitV_of [] ?_ ?_⟩
            · rw [hn]
              try simp only [go_sem]
            · try simp only [go_sem]
          · have e4 : decide (x.1 < y.2) = false := by simpa using hlt
            have hn : (s.zipIdx.take (k + 1)).all (isP x i) = A := by rw [a1]; simp [isP, hki]; intro _; omega
            repeat refine awp_seq ?_
            refine awp_dreg2 [(1, none), (6, none), (7, none), (8, none), (9, none)] follows (by decide +kernel) (by kernel_rfl) (by simp only [keysOk, List.mem_cons, List.not_mem_nil, forall_eq_or_imp, Oc.keyOf, go_sem]; simp) fun K hK => ?_
            simp only [go_sem, hx, hy, hci, hck, e0, e4]
            (try simp (disch := omega) only [wrapI])
            repeat first | intro _ | refine ⟨(by omega), ?_⟩ | refine ⟨⟨by omega, by omega⟩, ?_⟩
            refine hK _ ?_
            clear hK K
            refine awp_sub (sub_keep [1, 5, 6, 7, 8, 9, 60]) ?_
            simp only [go_sem]
            repeat refine awp_seq ?_
            refine awp_cond rfl (fun hc => ?_) (fun hc => ?_) <;> (try simp only [go_sem] at hc)
            refine awp_skip ?_
            try simp only [go_sem]
            repeat refine awp_seq ?_
            refine awp_reg (by kernel_rfl) fun K hK => ?_
            simp only [go_sem]
            (try simp (disch := omega) only [wrapI])
            repeat first | intro _ | refine ⟨(by omega), ?_⟩ | refine ⟨⟨by omega, by omega⟩, ?_⟩
            refine hK _ ?_
            clear hK K
            try simp only [go_sem]
            refine ⟨hck, fitV_of [] ?_ ?_⟩
            · rw [hn]
              try simp only [go_sem]
            · try simp only [go_sem]
        · -- else
          refine awp_exit ?_
          simp only [go_sem]
          have hks : k = s.length := by omega
          have e1 : s.zipIdx.take k = s.zipIdx := List.take_of_length_le (by simp; omega)
          rw [e1]
          repeat refine awp_seq ?_
          refine awp_reg (by kernel_rfl) fun K hK => ?_
          simp only [go_sem]
          (try simp (disch := omega) only [wrapI])
          repeat first | intro _ | refine ⟨(by omega), ?_⟩ | refine ⟨⟨by omega, by omega⟩, ?_⟩
          refine hK _ ?_
          clear hK K
          refine awp_sub (sub_keep [1, 5, 6, 7, 61]) ?_
          simp only [go_sem]
          cases hA : s.zipIdx.all (isP x i)
          · rw [hA] at st
            repeat refine awp_seq ?_
            refine awp_cond rfl (fun hc => ?_) (fun hc => ?_) <;> (try simp only [go_sem] at hc)
            refine awp_skip ?_
            try simp only [go_sem]
            repeat refine awp_seq ?_
            refine awp_reg (by kernel_rfl) fun K hK => ?_
            simp only [go_sem]
            (try simp (disch := omega) only [wrapI])
            repeat first | intro _ | refine ⟨(by omega), ?_⟩ | refine ⟨⟨by omega, by omega⟩, ?_⟩
            refine hK _ ?_
            clear hK K
            try simp only [go_sem]
            refine ⟨hci, fitV_of [] ?_ ?_⟩
            · simp only [go_sem, st]
              try simp
            · simp only [go_sem, st]
              try simp
          · rw [hA] at st
            repeat refine awp_seq ?_
            refine awp_cond rfl (fun hc => ?_) (fun hc => ?_) <;> (try simp only [go_sem] at hc)
            repeat refine awp_seq ?_
            refine awp_reg (by kernel_rfl) fun K hK => ?_
            simp only [go_sem]
            (try simp (disch := omega) only [wrapI])
            repeat first | intro _ | refine ⟨(by omega), ?_⟩ | refine ⟨⟨by omega, by omega⟩, ?_⟩
            refine hK _ ?_
            clear hK K
            refine awp_sub (sub_keep [1, 5, 6, 7]) ?_
            simp only [go_sem]
            repeat refine awp_seq ?_
            refine awp_reg (by kernel_rfl) fun K hK => ?_
            simp only [go_sem]
            (try simp (disch := omega) only [wrapI])
            repeat first | intro _ | refine ⟨(by omega), ?_⟩ | refine ⟨⟨by omega, by omega⟩, ?_⟩
            refine hK _ ?_
            clear hK K
            try simp only [go_sem]
            refine ⟨hci, fitV_of [] ?_ ?_⟩
            · simp only [go_sem, st]
              try simp
            · simp only [go_sem, st]
              try simp
    · -- else
      have hil : i = s.length := by omega
      have e1 : bestK isP s i = bestL isP s := by
        unfold bestK bestL
        rw [List.take_of_length_le (by simp; omega)]
      rw [e1]
      refine awp_exit ?_
      simp only [go_sem]
      repeat refine awp_seq ?_
      refine awp_reg (by kernel_rfl) fun K hK => ?_
      simp only [go_sem]
      (try simp (disch := omega) only [wrapI])
      repeat first | intro _ | refine ⟨(by omega), ?_⟩ | refine ⟨⟨by omega, by omega⟩, ?_⟩
      refine hK _ ?_
      clear hK K
      refine awp_sub (sub_keep [4]) ?_
      simp only [go_sem]
      refine awp_ret ?_
      simp only [go_sem]
theorem refMay_ok (d : Int) (l : List Am) (hc0 : checkV d l = 0) : ACalls Try.prog 25 [lawV d l, .bo false] (ints (bestL mayP (spansV d l))) := by
  have hS := refScores_ok d l hc0
  have hsl : (spansV d l).length ≤ 20 := by
    have := (checkV_zero hc0).1
    simp [spansV, hc0]; omega
  generalize spansV d l = s at hS hsl ⊢
  refine acalls_st (rs := [ints (bestL mayP s)]) [.tmp 4] Try.func25 rfl (by kernel_rfl) Try.ntmps25 rfl (by simp) rfl fun C vs => ?_
  repeat refine awp_seq ?_
  refine awp_reg (by kernel_rfl) fun K hK => ?_
  simp only [go_sem]
  (try simp (disch := omega) only [wrapI])
  repeat first | intro _ | refine ⟨(by omega), ?_⟩ | refine ⟨⟨by omega, by omega⟩, ?_⟩
  refine hK _ ?_
  clear hK K
  refine awp_sub (sub_frzP 2 2 [i64 d, aimsR l] (by omega) rfl rfl) ?_
  refine awp_sub (sub_keep [1, 2]) ?_
  simp only [go_sem]
  repeat refine awp_seq ?_
  refine awp_reg (by kernel_rfl) fun K hK => ?_
  simp only [go_sem]
  (try simp (disch := omega) only [wrapI])
  refine xcall_eq (hS) rfl (by simp only [go_sem, i64, ints]) (by simp only [go_sem, i64, ints]) (by first | exact .inl rfl | exact .inr rfl) ?_
  (try simp only [go_sem])
  (try simp (disch := omega) only [wrapI])
  repeat first | intro _ | refine ⟨(by omega), ?_⟩ | refine ⟨⟨by omega, by omega⟩, ?_⟩
  refine hK _ ?_
  clear hK K
  refine awp_sub (sub_keep [1, 5, 6]) ?_
  simp only [go_sem]
  repeat refine awp_seq ?_
  refine awp_reg (by kernel_rfl) fun K hK => ?_
  simp only [go_sem]
  (try simp (disch := omega) only [wrapI])
  repeat first | intro _ | refine ⟨(by omega), ?_⟩ | refine ⟨⟨by omega, by omega⟩, ?_⟩
  refine hK _ ?_
  clear hK K
  refine awp_sub (sub_keep [1, 5, 6, 7]) ?_
  simp only [go_sem]
  refine awp_sub (sub_own 5 40 3 1 (by omega) rfl) ?_
  try simp only [go_sem]
  repeat refine awp_seq ?_
  refine awp_block ?_
  refine awp_uptoV (n := 67) s.length (fun i vs => [(1, .r (.bo false)), (5, .os 40 (vs 40) 1 0 (bestK mayP s i).length), (6, .r (spansR s)), (7, .r (i64 i))])
    (fun i vs => [(40, .arr 3 1 ((bestK mayP s i).map fun x => [i64 x]))]) (fun _ => True) 0 (fitV_of [] ?_ ?_) (Nat.zero_le _) trivial ?_
  · try simp only [go_sem]
    simp [bestK]
  · try simp only [go_sem]
    simp [bestK]
  · intro i vs hi _
    repeat refine awp_seq ?_
    refine awp_reg (by kernel_rfl) fun K hK => ?_
    simp only [go_sem]
    (try simp (disch := omega) only [wrapI])
    repeat first | intro _ | refine ⟨(by omega), ?_⟩ | refine ⟨⟨by omega, by omega⟩, ?_⟩
    refine hK _ ?_
    clear hK K
    refine awp_sub (sub_keep [1, 5, 6, 7, 16]) ?_
    simp only [go_sem]
    repeat refine awp_seq ?_
    refine awp_cond rfl (fun hc => ?_) (fun hc => ?_) <;> (try simp only [go_sem] at hc)
    · -- then
      have hci := hc
      obtain ⟨x, hx⟩ := opt_of_lt hc
      have st := bestK_step (q := mayP) hx
      have ln := bestK_len mayP s i
      refine awp_skip ?_
      try simp only [go_sem]
      repeat refine awp_seq ?_
      refine awp_block ?_
      repeat refine awp_seq ?_
      refine awp_reg (by kernel_rfl) fun K hK => ?_
      simp only [go_sem]
      (try simp (disch := omega) only [wrapI])
      repeat first | intro _ | refine ⟨(by omega), ?_⟩ | refine ⟨⟨by omega, by omega⟩, ?_⟩
      refine hK _ ?_
      clear hK K
      refine awp_sub (sub_keep [1, 5, 6, 7, 8]) ?_
      simp only [go_sem]
      repeat refine awp_seq ?_
      refine awp_reg (by kernel_rfl) fun K hK => ?_
      simp only [go_sem]
      (try simp (disch := omega) only [wrapI])
      repeat first | intro _ | refine ⟨(by omega), ?_⟩ | refine ⟨⟨by omega, by omega⟩, ?_⟩
      refine hK _ ?_
      clear hK K
      refine awp_sub (sub_keep [1, 5, 6, 7, 8, 9]) ?_
      simp only [go_sem]
      repeat refine awp_seq ?_
      refine awp_block ?_
      refine awp_uptoV (n := 67) s.length (fun k vs => [(1, .r (.bo false)), (5, .os 40 (vs 40) 1 0 (bestK mayP s i).length), (6, .r (spansR s)), (7, .r (i64 i)), (8, .r (.bo ((s.zipIdx.take k).all (mayP x i)))), (9, .r (i64 k))])
        (fun k vs => [(40, .arr 3 1 ((bestK mayP s i).map fun x => [i64 x]))]) (fun _ => True) 0 (fitV_of [] ?_ ?_) (Nat.zero_le _) trivial ?_
      · try simp only [go_sem]
        simp
      · try simp only [go_sem]
      · intro k vs hk _
        repeat refine awp_seq ?_
        refine awp_reg (by kernel_rfl) fun K hK => ?_
        simp only [go_sem]
        (try simp (disch := omega) only [wrapI])
        repeat first | intro _ | refine ⟨(by omega), ?_⟩ | refine ⟨⟨by omega, by omega⟩, ?_⟩
        refine hK _ ?_
        clear hK K
        refine awp_sub (sub_keep [1, 5, 6, 7, 8, 9, 22]) ?_
        simp only [go_sem]
        repeat refine awp_seq ?_
        refine awp_cond rfl (fun hc => ?_) (fun hc => ?_) <;> (try simp only [go_sem] at hc)
        · -- then
          have hck := hc
          obtain ⟨y, hy⟩ := opt_of_lt hck
          have hyz : s.zipIdx[k]? = some (y, k) := by simp [hy]
          have a1 := all_step (p := mayP x i) hyz
          generalize (s.zipIdx.take k).all (mayP x i) = A at a1 ⊢
          refine awp_skip ?_
          try simp only [go_sem]
          repeat refine awp_seq ?_
          refine awp_block ?_
          by_cases hki : k = i
          · have e0 : ((k : Int) != (i : Int)) = false := by simp [hki]
            have hn : (s.zipIdx.take (k + 1)).all (mayP x i) = A := by rw [a1]; simp [mayP, hki]
            repeat refine awp_seq ?_
            refine awp_dreg2 [(1, none), (6, none), (7, none), (8, none), (9, none)] follows (by decide +kernel) (by kernel_rfl) (by simp only [keysOk, List.mem_cons, List.not_mem_nil, forall_eq_or_imp, Oc.keyOf, go_sem]; simp) fun K hK => ?_
            simp only [go_sem, hx, hy, hci, hck, e0]
            (try simp (disch := omega) only [wrapI])
            repeat first | intro _ | refine ⟨(by omega), ?_⟩ | refine ⟨⟨by omega, by omega⟩, ?_⟩
            refine hK _ ?_
            clear hK K
            refine awp_sub (sub_keep [1, 5, 6, 7, 8, 9, 60]) ?_
            simp only [go_sem]
            repeat refine awp_seq ?_
            refine awp_cond rfl (fun hc => ?_) (fun hc => ?_) <;> (try simp only [go_sem] at hc)
            refine awp_skip ?_
            try simp only [go_sem]
            repeat refine awp_seq ?_
            refine awp_reg (by kernel_rfl) fun K hK => ?_
            simp only [go_sem]
            (try simp (disch := omega) only [wrapI])
            repeat first | intro _ | refine ⟨(by omega), ?_⟩ | refine ⟨⟨by omega, by omega⟩, ?_⟩
            refine hK _ ?_
            clear hK K
            try simp only [go_sem]
            refine ⟨hck, fitV_of [] ?_ ?_⟩
            · rw [hn]
              try simp only [go_sem]
            · try simp only [go_sem]
          have e0 : ((k : Int) != (i : Int)) = true := by simp; omega
          by_cases hlt : x.2 < y.1
          · have e4 : decide (x.2 < y.1) = true := by simpa using hlt
            have hn : (s.zipIdx.take (k + 1)).all (mayP x i) = false := by rw [a1]; simp [mayP, hki]; intro _; omega
            repeat refine awp_seq ?_
            refine awp_dreg2 [(1, none), (6, none), (7, none), (8, none), (9, none)] follows (by decide +kernel) (by kernel_rfl) (by simp only [keysOk, List.mem_cons, List.not_mem_nil, forall_eq_or_imp, Oc.keyOf, go_sem]; simp) fun K hK => ?_
            simp only [go_sem, hx, hy, hci, hck, e0, e4]
            (try simp (disch := omega) only [wrapI])
            repeat first | intro _ | refine ⟨(by omega), ?_⟩ | refine ⟨⟨by omega, by omega⟩, ?_⟩
            refine hK _ ?_
            clear hK K
            refine awp_sub (sub_keep [1, 5, 6, 7, 8, 9, 60]) ?_
            simp only [go_sem]
            repeat refine awp_seq ?_
            refine awp_cond rfl (fun hc => ?_) (fun hc => ?_) <;> (try simp only [go_sem] at hc)
            repeat refine awp_seq ?_
            refine awp_reg (by kernel_rfl) fun K hK => ?_
            simp only [go_sem]
            (try simp (disch := omega) only [wrapI])
            repeat first | intro _ | refine ⟨(by omega), ?_⟩ | refine ⟨⟨by omega, by omega⟩, ?_⟩
            refine hK _ ?_
            clear hK K
            refine awp_sub (sub_keep [1, 5, 6, 7, 8, 9]) ?_
            simp only [go_sem]
            repeat refine awp_seq ?_
            refine awp_reg (by kernel_rfl) fun K hK => ?_
            simp only [go_sem]
            (try simp (disch := omega) only [wrapI])
            repeat first | intro _ | refine ⟨(by omega), ?_⟩ | refine ⟨⟨by omega, by omega⟩, ?_⟩
            refine hK _ ?_
            clear hK K
            try simp only [go_sem]
            refine ⟨hck, fitV_of [] ?_ ?_⟩
            · rw [hn]
              try simp only [go_sem]
            · try simp only [go_sem]
          · have e4 : decide (x.2 < y.1) = false := by simpa using hlt
            have hn : (s.zipIdx.take (k + 1)).all (mayP x i) = A := by rw [a1]; simp [mayP, hki]; intro _; omega
            repeat refine awp_seq ?_
            refine awp_dreg2 [(1, none), (6, none), (7, none), (8, none), (9, none)] follows (by decide +kernel) (by kernel_rfl) (by simp only [keysOk, List.mem_cons, List.not_mem_nil, forall_eq_or_imp, Oc.keyOf, go_sem]; simp) fun K hK => ?_
            simp only [go_sem, hx, hy, hci, hck, e0, e4]
            (try simp (disch := omega) only [wrapI])
            repeat first | intro _ | refine ⟨(by omega), ?_⟩ | refine ⟨⟨by omega, by omega⟩, ?_⟩
            refine hK _ ?_
            clear hK K
            refine awp_sub (sub_keep [1, 5, 6, 7, 8, 9, 60]) ?_
            simp only [go_sem]
            repeat refine awp_seq ?_
            refine awp_cond rfl (fun hc => ?_) (fun hc => ?_) <;> (try simp only [go_sem] at hc)
            refine awp_skip ?_
            try simp only [go_sem]
            repeat refine awp_seq ?_
            refine awp_reg (by kernel_rfl) fun K hK => ?_
            simp only [go_sem]
            (try simp (disch := omega) only [wrapI])
            repeat first | intro _ | refine ⟨(by omega), ?_⟩ | refine ⟨⟨by omega, by omega⟩, ?_⟩
            refine hK _ ?_
            clear hK K
            try simp only [go_sem]
            refine ⟨hck, fitV_of [] ?_ ?_⟩
            · rw [hn]
              try simp only [go_sem]
            · try simp only [go_sem]
        · -- else
          refine awp_exit ?_
          simp only [go_sem]
          have hks : k = s.length := by omega
          have e1 : s.zipIdx.take k = s.zipIdx := List.take_of_length_le (by simp; omega)
          rw [e1]
          repeat refine awp_seq ?_
          refine awp_reg (by kernel_rfl) fun K hK => ?_
          simp only [go_sem]
          (try simp (disch := omega) only [wrapI])
          repeat first | intro _ | refine ⟨(by omega), ?_⟩ | refine ⟨⟨by omega, by omega⟩, ?_⟩
          refine hK _ ?_
          clear hK K
          refine awp_sub (sub_keep [1, 5, 6, 7, 61]) ?_
          simp only [go_sem]
          cases hA : s.zipIdx.all (mayP x i)
          · rw [hA] at st
            repeat refine awp_seq ?_
            refine awp_cond rfl (fun hc => ?_) (fun hc => ?_) <;> (try simp only [go_sem] at hc)
            refine awp_skip ?_
            try simp only [go_sem]
            repeat refine awp_seq ?_
            refine awp_reg (by kernel_rfl) fun K hK => ?_
            simp only [go_sem]
            (try simp (disch := omega) only [wrapI])
            repeat first | intro _ | refine ⟨(by omega), ?_⟩ | refine ⟨⟨by omega, by omega⟩, ?_⟩
            refine hK _ ?_
            clear hK K
            try simp only [go_sem]
            refine ⟨hci, fitV_of [] ?_ ?_⟩
            · simp only [go_sem, st]
              try simp
            · simp only [go_sem, st]
              try simp
          · rw [hA] at st
            repeat refine awp_seq ?_
            refine awp_cond rfl (fun hc => ?_) (fun hc => ?_) <;> (try simp only [go_sem] at hc)
            repeat refine awp_seq ?_
            refine awp_reg (by kernel_rfl) fun K hK => ?_
            simp only [go_sem]
            (try simp (disch := omega) only [wrapI])
            repeat first | intro _ | refine ⟨(by omega), ?_⟩ | refine ⟨⟨by omega, by omega⟩, ?_⟩
            refine hK _ ?_
            clear hK K
            refine awp_sub (sub_keep [1, 5, 6, 7]) ?_
            simp only [go_sem]
            repeat refine awp_seq ?_
            refine awp_reg (by kernel_rfl) fun K hK => ?_
            simp only [go_sem]
            (try simp (disch := omega) only [wrapI])
            repeat first | intro _ | refine ⟨(by omega), ?_⟩ | refine ⟨⟨by omega, by omega⟩, ?_⟩
            refine hK _ ?_
            clear hK K
            try simp only [go_sem]
            refine ⟨hci, fitV_of [] ?_ ?_⟩
            · simp only [go_sem, st]
              try simp
            · simp only [go_sem, st]
              try simp
    · -- else
      have hil : i = s.length := by omega
      have e1 : bestK mayP s i = bestL mayP s := by
        unfold bestK bestL
        rw [List.take_of_length_le (by simp; omega)]
      rw [e1]
      refine awp_exit ?_
      simp only [go_sem]
      repeat refine awp_seq ?_
      refine awp_reg (by kernel_rfl) fun K hK => ?_
      simp only [go_sem]
      (try simp (disch := omega) only [wrapI])
      repeat first | intro _ | refine ⟨(by omega), ?_⟩ | refine ⟨⟨by omega, by omega⟩, ?_⟩
      refine hK _ ?_
      clear hK K
      refine awp_sub (sub_keep [4]) ?_
      simp only [go_sem]
      refine awp_ret ?_
      simp only [go_sem]
theorem refValues_ok (d : Int) (l : List Am) (at_ : Int) (vals : List Int) (hw : WfL d l) : ACalls Try.prog 41 [lawV d l, i64 at_, ints vals] (i64 (pickE d l at_ vals)) := by
  have hC := refCheck_ok d l hw
  refine acalls_st (rs := [i64 (pickE d l at_ vals)]) [.tmp 6] Try.func41 rfl (by kernel_rfl) Try.ntmps41 rfl (by simp) rfl fun C vs => ?_
  repeat refine awp_seq ?_
  refine awp_reg (by kernel_rfl) fun K hK => ?_
  simp only [go_sem]
  (try simp (disch := omega) only [wrapI])
  repeat first | intro _ | refine ⟨(by omega), ?_⟩ | refine ⟨⟨by omega, by omega⟩, ?_⟩
  refine hK _ ?_
  clear hK K
  refine awp_sub (sub_frzP 3 3 [i64 d, aimsR l] (by omega) rfl rfl) ?_
  refine awp_sub (sub_keep [1, 2, 3]) ?_
  simp only [go_sem]
  by_cases h0 : checkV d l = 0
  case neg =>
    have hp : pickE d l at_ vals = checkV d l := by simp [pickE, h0]
    rw [hp]
    generalize checkV d l = c at hC h0
    have e0 : (c != 0) = true := by simpa using h0
    repeat refine awp_seq ?_
    refine awp_reg (by kernel_rfl) fun K hK => ?_
    simp only [go_sem]
    (try simp (disch := omega) only [wrapI])
    refine xcall_eq (hC) rfl (by simp only [go_sem, i64, ints]) (by simp only [go_sem, i64, ints]) (by first | exact .inl rfl | exact .inr rfl) ?_
    (try simp only [go_sem])
    (try simp (disch := omega) only [wrapI])
    repeat first | intro _ | refine ⟨(by omega), ?_⟩ | refine ⟨⟨by omega, by omega⟩, ?_⟩
    refine hK _ ?_
    clear hK K
    refine awp_sub (sub_keep [1, 2, 3, 7]) ?_
    simp only [go_sem]
    repeat refine awp_seq ?_
    refine awp_reg (by kernel_rfl) fun K hK => ?_
    simp only [go_sem, e0]
    (try simp (disch := omega) only [wrapI])
    repeat first | intro _ | refine ⟨(by omega), ?_⟩ | refine ⟨⟨by omega, by omega⟩, ?_⟩
    refine hK _ ?_
    clear hK K
    refine awp_sub (sub_keep [1, 2, 3, 7, 12]) ?_
    simp only [go_sem]
    repeat refine awp_seq ?_
    refine awp_cond rfl (fun hc => ?_) (fun hc => ?_) <;> (try simp only [go_sem] at hc)
    repeat refine awp_seq ?_
    refine awp_reg (by kernel_rfl) fun K hK => ?_
    simp only [go_sem]
    (try simp (disch := omega) only [wrapI])
    repeat first | intro _ | refine ⟨(by omega), ?_⟩ | refine ⟨⟨by omega, by omega⟩, ?_⟩
    refine hK _ ?_
    clear hK K
    refine awp_sub (sub_keep [6]) ?_
    simp only [go_sem]
    refine awp_ret ?_
    simp only [go_sem]
  rw [h0] at hC
  repeat refine awp_seq ?_
  refine awp_reg (by kernel_rfl) fun K hK => ?_
  simp only [go_sem]
  (try simp (disch := omega) only [wrapI])
  refine xcall_eq (hC) rfl (by simp only [go_sem, i64, ints]) (by simp only [go_sem, i64, ints]) (by first | exact .inl rfl | exact .inr rfl) ?_
  (try simp only [go_sem])
  (try simp (disch := omega) only [wrapI])
  repeat first | intro _ | refine ⟨(by omega), ?_⟩ | refine ⟨⟨by omega, by omega⟩, ?_⟩
  refine hK _ ?_
  clear hK K
  refine awp_sub (sub_keep [1, 2, 3, 7]) ?_
  simp only [go_sem]
  repeat refine awp_seq ?_
  refine awp_reg (by kernel_rfl) fun K hK => ?_
  simp only [go_sem, bne_self_eq_false]
  (try simp (disch := omega) only [wrapI])
  repeat first | intro _ | refine ⟨(by omega), ?_⟩ | refine ⟨⟨by omega, by omega⟩, ?_⟩
  refine hK _ ?_
  clear hK K
  refine awp_sub (sub_keep [1, 2, 3, 7, 12]) ?_
  simp only [go_sem]
  repeat refine awp_seq ?_
  refine awp_cond rfl (fun hc => ?_) (fun hc => ?_) <;> (try simp only [go_sem] at hc)
  refine awp_skip ?_
  try simp only [go_sem]
  by_cases hn : at_ < 0
  · have hp : pickE d l at_ vals = 7 := by
      unfold pickE; rw [if_neg (by simp [h0]), if_pos (by omega)]
    rw [hp]
    have e1 : decide (at_ < 0) = true := by simpa using hn
    repeat refine awp_seq ?_
    refine awp_reg (by kernel_rfl) fun K hK => ?_
    simp only [go_sem, e1]
    (try simp (disch := omega) only [wrapI])
    repeat first | intro _ | refine ⟨(by omega), ?_⟩ | refine ⟨⟨by omega, by omega⟩, ?_⟩
    refine hK _ ?_
    clear hK K
    refine awp_sub (sub_keep [1, 2, 3, 22]) ?_
    simp only [go_sem]
    repeat refine awp_seq ?_
    refine awp_cond rfl (fun hc => ?_) (fun hc => ?_) <;> (try simp only [go_sem] at hc)
    repeat refine awp_seq ?_
    refine awp_reg (by kernel_rfl) fun K hK => ?_
    simp only [go_sem]
    (try simp (disch := omega) only [wrapI])
    repeat first | intro _ | refine ⟨(by omega), ?_⟩ | refine ⟨⟨by omega, by omega⟩, ?_⟩
    refine hK _ ?_
    clear hK K
    refine awp_sub (sub_keep [6]) ?_
    simp only [go_sem]
    refine awp_ret ?_
    simp only [go_sem]
  have e1 : decide (at_ < 0) = false := by simpa using hn
  obtain ⟨n, rfl⟩ := Int.eq_ofNat_of_zero_le (show 0 ≤ at_ by omega)
  repeat refine awp_seq ?_
  refine awp_reg (by kernel_rfl) fun K hK => ?_
  simp only [go_sem, e1]
  (try simp (disch := omega) only [wrapI])
  intro hll
  repeat first | intro _ | refine ⟨(by omega), ?_⟩ | refine ⟨⟨by omega, by omega⟩, ?_⟩
  refine hK _ ?_
  clear hK K
  refine awp_sub (sub_keep [1, 2, 3, 22]) ?_
  simp only [go_sem]
  repeat refine awp_seq ?_
  refine awp_cond rfl (fun hc => ?_) (fun hc => ?_) <;> (try simp only [go_sem] at hc)
  · have hp : pickE d l n vals = 7 := by
      unfold pickE; rw [if_neg (by simp [h0]), if_pos (by omega)]
    rw [hp]
    repeat refine awp_seq ?_
    refine awp_reg (by kernel_rfl) fun K hK => ?_
    simp only [go_sem]
    (try simp (disch := omega) only [wrapI])
    repeat first | intro _ | refine ⟨(by omega), ?_⟩ | refine ⟨⟨by omega, by omega⟩, ?_⟩
    refine hK _ ?_
    clear hK K
    refine awp_sub (sub_keep [6]) ?_
    simp only [go_sem]
    refine awp_ret ?_
    simp only [go_sem]
  have hnl : n < l.length := by omega
  obtain ⟨x, hx⟩ := opt_of_lt hnl
  have hax : aimAt l n = x := by simp [aimAt, hx]
  refine awp_skip ?_
  try simp only [go_sem]
  by_cases hlen : vals.length = x.beds.length
  case neg =>
    have hp : pickE d l n vals = 4 := by
      unfold pickE; rw [if_neg (by simp [h0]), if_neg (by omega), if_pos (by rw [hax]; exact hlen)]
    rw [hp]
    have e2 : ((vals.length : Int) != x.beds.length) = true := by simp; omega
    repeat refine awp_seq ?_
    refine awp_reg (by kernel_rfl) fun K hK => ?_
    simp only [go_sem, hx, hnl, aimR, e2]
    (try simp (disch := omega) only [wrapI])
    repeat first | intro _ | refine ⟨(by omega), ?_⟩ | refine ⟨⟨by omega, by omega⟩, ?_⟩
    repeat first | intro _ | refine ⟨(by omega), ?_⟩ | refine ⟨⟨by omega, by omega⟩, ?_⟩
    refine hK _ ?_
    clear hK K
    refine awp_sub (sub_keep [2, 32]) ?_
    simp only [go_sem]
    repeat refine awp_seq ?_
    refine awp_cond rfl (fun hc => ?_) (fun hc => ?_) <;> (try simp only [go_sem] at hc)
    repeat refine awp_seq ?_
    refine awp_reg (by kernel_rfl) fun K hK => ?_
    simp only [go_sem]
    (try simp (disch := omega) only [wrapI])
    repeat first | intro _ | refine ⟨(by omega), ?_⟩ | refine ⟨⟨by omega, by omega⟩, ?_⟩
    refine hK _ ?_
    clear hK K
    refine awp_sub (sub_keep [6]) ?_
    simp only [go_sem]
    refine awp_ret ?_
    simp only [go_sem]
  have e2 : ((vals.length : Int) != x.beds.length) = false := by simp; omega
  have hp : pickE d l n vals = if withinL (-1000000000000) 1000000000000 vals = false then 2 else 0 := by
    unfold pickE; rw [if_neg (by simp [h0]), if_neg (by omega), if_neg (by rw [hax]; simp [hlen])]
  repeat refine awp_seq ?_
  refine awp_reg (by kernel_rfl) fun K hK => ?_
  simp only [go_sem, hx, hnl, aimR, e2]
  (try simp (disch := omega) only [wrapI])
  repeat first | intro _ | refine ⟨(by omega), ?_⟩ | refine ⟨⟨by omega, by omega⟩, ?_⟩
  repeat first | intro _ | refine ⟨(by omega), ?_⟩ | refine ⟨⟨by omega, by omega⟩, ?_⟩
  refine hK _ ?_
  clear hK K
  refine awp_sub (sub_keep [2, 32]) ?_
  simp only [go_sem]
  repeat refine awp_seq ?_
  refine awp_cond rfl (fun hc => ?_) (fun hc => ?_) <;> (try simp only [go_sem] at hc)
  refine awp_skip ?_
  try simp only [go_sem]
  repeat refine awp_seq ?_
  refine awp_reg (by kernel_rfl) fun K hK => ?_
  simp only [go_sem]
  (try simp (disch := omega) only [wrapI])
  repeat first | intro _ | refine ⟨(by omega), ?_⟩ | refine ⟨⟨by omega, by omega⟩, ?_⟩
  refine hK _ ?_
  clear hK K
  refine awp_sub (sub_keep [2, 8]) ?_
  simp only [go_sem]
  repeat refine awp_seq ?_
  refine awp_block ?_
  refine awp_upto (n := 51) vals.length (fun i vs => [(2, .r (ints vals)), (8, .r (i64 i))])
    (fun i => []) (fun i => withinL (-1000000000000) 1000000000000 (vals.take i) = true) 0 (fit_of [] ?_ ?_) (Nat.zero_le _) rfl ?_
  · try simp only [go_sem]
  · try simp only [go_sem]
  · intro i vs hi hI
    repeat refine awp_seq ?_
    refine awp_reg (by kernel_rfl) fun K hK => ?_
    simp only [go_sem]
    (try simp (disch := omega) only [wrapI])
    repeat first | intro _ | refine ⟨(by omega), ?_⟩ | refine ⟨⟨by omega, by omega⟩, ?_⟩
    refine hK _ ?_
    clear hK K
    refine awp_sub (sub_keep [2, 8, 36]) ?_
    simp only [go_sem]
    repeat refine awp_seq ?_
    refine awp_cond rfl (fun hc => ?_) (fun hc => ?_) <;> (try simp only [go_sem] at hc)
    · -- then
      have hci := hc
      obtain ⟨v, hv⟩ := opt_of_lt hc
      have hst : withinL (-1000000000000) 1000000000000 (vals.take (i + 1)) = (withinL (-1000000000000) 1000000000000 (vals.take i) && (decide (-1000000000000 ≤ v) && decide (v ≤ 1000000000000))) := by
        rw [take_of_opt hv]; simp [withinL]
      have bad : ¬ (-1000000000000 ≤ v ∧ v ≤ 1000000000000) → pickE d l n vals = 2 := fun h => by
        rw [hp, if_pos]
        exact List.all_eq_false.2 ⟨v, mem_of_opt hv, by simpa using h⟩
      refine awp_skip ?_
      try simp only [go_sem]
      repeat refine awp_seq ?_
      refine awp_block ?_
      by_cases h1 : v < -1000000000000
      · have e3 : decide (v < -1000000000000) = true := by simpa using h1
        repeat refine awp_seq ?_
        refine awp_reg (by kernel_rfl) fun K hK => ?_
        simp only [go_sem, hv, hci, e3]
        (try simp (disch := omega) only [wrapI])
        repeat first | intro _ | refine ⟨(by omega), ?_⟩ | refine ⟨⟨by omega, by omega⟩, ?_⟩
        refine hK _ ?_
        clear hK K
        refine awp_sub (sub_keep [2, 8, 50]) ?_
        simp only [go_sem]
        repeat refine awp_seq ?_
        refine awp_cond rfl (fun hc => ?_) (fun hc => ?_) <;> (try simp only [go_sem] at hc)
        repeat refine awp_seq ?_
        refine awp_reg (by kernel_rfl) fun K hK => ?_
        simp only [go_sem]
        (try simp (disch := omega) only [wrapI])
        repeat first | intro _ | refine ⟨(by omega), ?_⟩ | refine ⟨⟨by omega, by omega⟩, ?_⟩
        refine hK _ ?_
        clear hK K
        refine awp_sub (sub_keep [6]) ?_
        simp only [go_sem]
        refine awp_ret ?_
        simp only [go_sem]
        simp [bad (by omega)]
      have e3 : decide (v < -1000000000000) = false := by simpa using h1
      repeat refine awp_seq ?_
      refine awp_reg (by kernel_rfl) fun K hK => ?_
      simp only [go_sem, hv, hci, e3]
      (try simp (disch := omega) only [wrapI])
      repeat first | intro _ | refine ⟨(by omega), ?_⟩ | refine ⟨⟨by omega, by omega⟩, ?_⟩
      refine hK _ ?_
      clear hK K
      refine awp_sub (sub_keep [2, 8, 50]) ?_
      simp only [go_sem]
      repeat refine awp_seq ?_
      refine awp_cond rfl (fun hc => ?_) (fun hc => ?_) <;> (try simp only [go_sem] at hc)
      · -- then
        repeat refine awp_seq ?_
        refine awp_reg (by kernel_rfl) fun K hK => ?_
        simp only [go_sem]
        (try simp (disch := omega) only [wrapI])
        repeat first | intro _ | refine ⟨(by omega), ?_⟩ | refine ⟨⟨by omega, by omega⟩, ?_⟩
        refine hK _ ?_
        clear hK K
        refine awp_sub (sub_keep [6]) ?_
        simp only [go_sem]
        refine awp_ret ?_
        simp only [go_sem]
        simp [bad (by omega)]
      · -- else
        refine awp_skip ?_
        try simp only [go_sem]
        repeat refine awp_seq ?_
        refine awp_reg (by kernel_rfl) fun K hK => ?_
        simp only [go_sem]
        (try simp (disch := omega) only [wrapI])
        repeat first | intro _ | refine ⟨(by omega), ?_⟩ | refine ⟨⟨by omega, by omega⟩, ?_⟩
        refine hK _ ?_
        clear hK K
        try simp only [go_sem]
        refine ⟨hci, ?_, fit_of [] ?_ ?_⟩
        · rw [hst, hI]; simp; omega
        · try simp only [go_sem]
        · try simp only [go_sem]
    · -- else
      refine awp_exit ?_
      simp only [go_sem]
      repeat refine awp_seq ?_
      refine awp_reg (by kernel_rfl) fun K hK => ?_
      simp only [go_sem]
      (try simp (disch := omega) only [wrapI])
      repeat first | intro _ | refine ⟨(by omega), ?_⟩ | refine ⟨⟨by omega, by omega⟩, ?_⟩
      refine hK _ ?_
      clear hK K
      refine awp_sub (sub_keep [6]) ?_
      simp only [go_sem]
      refine awp_ret ?_
      simp only [go_sem]
      have : i = vals.length := by omega
      rw [this, List.take_length] at hI
      simp [hp, hI]
end Go.Proofs.Ytgkejinoaommeaa

/- Law ThrowMeans: which means values can have, and the truths at both ends, are what the document says. -/
namespace Go.Proofs.Ytgkejinoaommeaa
open Go Go.Oc
set_option linter.unusedSimpArgs false
set_option linter.unusedVariables false
set_option maxRecDepth 8000
theorem eqS46 : eqN Try.prog 46 = some 2 := by kernel_rfl
theorem means_law (d : Int) (l : List Am) (at_ : Int) (vals : List Int) (hw : WfL d l) : ACalls Try.prog 9 [lawV d l, i64 at_, ints vals] (.bo true) := by
  refine acalls_st (rs := [.bo true]) [.tmp 6] Try.func9 rfl (by kernel_rfl) Try.ntmps9 rfl (by simp) rfl fun C vs => ?_
  repeat refine awp_seq ?_
  refine awp_reg (by kernel_rfl) fun K hK => ?_
  simp only [go_sem]
  (try simp (disch := omega) only [wrapI])
  repeat first | intro _ | refine ⟨(by omega), ?_⟩ | refine ⟨⟨by omega, by omega⟩, ?_⟩
  refine hK _ ?_
  clear hK K
  refine awp_sub (sub_frzP 3 3 [i64 d, aimsR l] (by omega) rfl rfl) ?_
  refine awp_sub (sub_keep [1, 2, 3]) ?_
  simp only [go_sem]
  repeat refine awp_seq ?_
  refine awp_reg (by kernel_rfl) fun K hK => ?_
  simp only [go_sem]
  (try simp (disch := omega) only [wrapI])
  refine xcall_eq (great_ok d l) rfl (by simp only [go_sem, i64, ints]) (by simp only [go_sem, i64, ints]) (by first | exact .inl rfl | exact .inr rfl) ?_
  (try simp only [go_sem])
  (try simp (disch := omega) only [wrapI])
  cases hg : greatL l
  case true =>
    try simp only [go_sem]
    repeat first | intro _ | refine ⟨(by omega), ?_⟩ | refine ⟨⟨by omega, by omega⟩, ?_⟩
    refine hK _ ?_
    clear hK K
    refine awp_sub (sub_keep [1, 2, 3, 22]) ?_
    simp only [go_sem]
    repeat refine awp_seq ?_
    refine awp_cond rfl (fun hc => ?_) (fun hc => ?_) <;> (try simp only [go_sem] at hc)
    repeat refine awp_seq ?_
    refine awp_reg (by kernel_rfl) fun K hK => ?_
    simp only [go_sem]
    (try simp (disch := omega) only [wrapI])
    refine xcall_eq (known14_ok) rfl (by simp only [go_sem, i64, ints]) (by simp only [go_sem, i64, ints]) (by first | exact .inl rfl | exact .inr rfl) ?_
    (try simp only [go_sem])
    (try simp (disch := omega) only [wrapI])
    repeat first | intro _ | refine ⟨(by omega), ?_⟩ | refine ⟨⟨by omega, by omega⟩, ?_⟩
    refine hK _ ?_
    clear hK K
    refine awp_sub (sub_keep [6]) ?_
    simp only [go_sem]
    refine awp_ret ?_
    simp only [go_sem]
  obtain ⟨hl, hb⟩ := great_le hg
  have hown := own_ok d l (by omega) (fun a ha => by have := hb a ha; omega)
  try simp only [go_sem]
  intro _
  repeat first | intro _ | refine ⟨(by omega), ?_⟩ | refine ⟨⟨by omega, by omega⟩, ?_⟩
  refine hK _ ?_
  clear hK K
  refine awp_sub (sub_keep [1, 2, 3, 22]) ?_
  simp only [go_sem]
  repeat refine awp_seq ?_
  refine awp_cond rfl (fun hc => ?_) (fun hc => ?_) <;> (try simp only [go_sem] at hc)
  · repeat refine awp_seq ?_
    refine awp_reg (by kernel_rfl) fun K hK => ?_
    simp only [go_sem]
    (try simp (disch := omega) only [wrapI])
    refine xcall_eq (known14_ok) rfl (by simp only [go_sem, i64, ints]) (by simp only [go_sem, i64, ints]) (by first | exact .inl rfl | exact .inr rfl) ?_
    (try simp only [go_sem])
    (try simp (disch := omega) only [wrapI])
    repeat first | intro _ | refine ⟨(by omega), ?_⟩ | refine ⟨⟨by omega, by omega⟩, ?_⟩
    refine hK _ ?_
    clear hK K
    refine awp_sub (sub_keep [6]) ?_
    simp only [go_sem]
    refine awp_ret ?_
    simp only [go_sem]
  have hv14 : vals.length ≤ 14 := by omega
  refine awp_skip ?_
  try simp only [go_sem]
  repeat refine awp_seq ?_
  refine awp_reg (by kernel_rfl) fun K hK => ?_
  simp only [go_sem]
  (try simp (disch := omega) only [wrapI])
  repeat first | intro _ | refine ⟨(by omega), ?_⟩ | refine ⟨⟨by omega, by omega⟩, ?_⟩
  refine hK _ ?_
  clear hK K
  refine awp_sub (sub_keep [1, 2, 3, 7]) ?_
  simp only [go_sem]
  refine awp_sub (sub_frz (ty := 3) (sz := 1) (off := 0) (m := vals.length) (es := vals.map fun x => [i64 x]) 7 26 (by omega) (by try simp only [go_sem]) (by try simp only [go_sem]) (by simp)) ?_
  have e2 : ((vals.map fun x => [i64 x]).drop 0).take vals.length = vals.map fun x => [i64 x] := by
    rw [List.drop_zero, List.take_of_length_le (by simp)]
  rw [e2]
  refine awp_sub (sub_keep [1, 2, 3, 7]) ?_
  simp only [go_sem]
  have hM := Mean_ok d l at_ vals hw
  have hT0 := Truth_ok d l at_ vals false hw
  have hT1 := Truth_ok d l at_ vals true hw
  have hV := refValues_ok d l at_ vals hw
  have hT := eqS46
  by_cases h0 : pickE d l at_ vals = 0
  · obtain ⟨z1, z2, z3, z4, z5⟩ := pickE_zero h0
    obtain ⟨c1, c2, c3, c4, c5⟩ := checkV_zero z1
    obtain ⟨n, rfl⟩ := Int.eq_ofNat_of_zero_le z2.1
    have hnl : n < l.length := by omega
    obtain ⟨x, hx⟩ := opt_of_lt hnl
    have hax : aimAt l n = x := by simp [aimAt, hx]
    obtain ⟨k1, k2, k3, k4, k5, k6⟩ := aimOk_facts (c5 x (mem_of_opt hx))
    have hxl := c2 x (mem_of_opt hx)
    rw [hax] at z3
    have rM := refMean_ok x.at_ d x.beds vals k4 c4.2 k5 k6 z3 (by omega) z4
    have r0 := refTruth_ok x.at_ d x.beds vals false k4 c4.2 k5 k6 z3 (by omega)
    have r1 := refTruth_ok x.at_ d x.beds vals true k4 c4.2 k5 k6 z3 (by omega)
    have m1 : meanV d l n vals = (meanLo d x.beds vals, meanHi d x.beds vals) := by simp [meanV, h0, hax]
    have m2 : truthV d l n vals false = filledV (cmG false) d x.beds vals := by simp only [truthV, h0, hax, cmG]; rfl
    have m3 : truthV d l n vals true = filledV (cmG true) d x.beds vals := by simp only [truthV, h0, hax, cmG]; rfl
    rw [m1] at hM
    rw [m2] at hT0
    rw [m3] at hT1
    rw [h0] at hM hT0 hT1 hV
    simp only at hM
    generalize meanLo d x.beds vals = ml at hM rM
    generalize meanHi d x.beds vals = mh at hM rM
    generalize filledV (cmG false) d x.beds vals = F0 at hT0 r0
    generalize filledV (cmG true) d x.beds vals = F1 at hT1 r1
    repeat refine awp_seq ?_
    refine awp_reg (by kernel_rfl) fun K hK => ?_
    simp only [go_sem]
    (try simp (disch := omega) only [wrapI])
    refine xcall_eq (hown) rfl (by simp only [go_sem, i64, ints]) (by simp only [go_sem, i64, ints]) (by first | exact .inl rfl | exact .inr rfl) ?_
    (try simp only [go_sem])
    (try simp (disch := omega) only [wrapI])
    try simp only [go_sem]
    refine xcall_eq (hM) rfl (by simp only [go_sem, i64, ints]) (by simp only [go_sem, i64, ints]) (by first | exact .inl rfl | exact .inr rfl) ?_
    (try simp only [go_sem])
    (try simp (disch := omega) only [wrapI])
    repeat first | intro _ | refine ⟨(by omega), ?_⟩ | refine ⟨⟨by omega, by omega⟩, ?_⟩
    refine hK _ ?_
    clear hK K
    refine awp_sub (sub_frzP 8 8 [i64 ml, i64 mh] (by omega) rfl rfl) ?_
    refine awp_sub (sub_keep [1, 2, 3, 7, 8, 9]) ?_
    simp only [go_sem]
    repeat refine awp_seq ?_
    refine awp_reg (by kernel_rfl) fun K hK => ?_
    simp only [go_sem]
    (try simp (disch := omega) only [wrapI])
    refine xcall_eq (hown) rfl (by simp only [go_sem, i64, ints]) (by simp only [go_sem, i64, ints]) (by first | exact .inl rfl | exact .inr rfl) ?_
    (try simp only [go_sem])
    (try simp (disch := omega) only [wrapI])
    try simp only [go_sem]
    refine xcall_eq (hT0) rfl (by simp only [go_sem, i64, ints]) (by simp only [go_sem, i64, ints]) (by first | exact .inl rfl | exact .inr rfl) ?_
    (try simp only [go_sem])
    (try simp (disch := omega) only [wrapI])
    repeat first | intro _ | refine ⟨(by omega), ?_⟩ | refine ⟨⟨by omega, by omega⟩, ?_⟩
    refine hK _ ?_
    clear hK K
    refine awp_sub (sub_keep [1, 2, 3, 7, 8, 9, 10, 11]) ?_
    simp only [go_sem]
    repeat refine awp_seq ?_
    refine awp_reg (by kernel_rfl) fun K hK => ?_
    simp only [go_sem]
    (try simp (disch := omega) only [wrapI])
    refine xcall_eq (hown) rfl (by simp only [go_sem, i64, ints]) (by simp only [go_sem, i64, ints]) (by first | exact .inl rfl | exact .inr rfl) ?_
    (try simp only [go_sem])
    (try simp (disch := omega) only [wrapI])
    try simp only [go_sem]
    refine xcall_eq (hT1) rfl (by simp only [go_sem, i64, ints]) (by simp only [go_sem, i64, ints]) (by first | exact .inl rfl | exact .inr rfl) ?_
    (try simp only [go_sem])
    (try simp (disch := omega) only [wrapI])
    repeat first | intro _ | refine ⟨(by omega), ?_⟩ | refine ⟨⟨by omega, by omega⟩, ?_⟩
    refine hK _ ?_
    clear hK K
    refine awp_sub (sub_keep [1, 2, 3, 7, 8, 9, 10, 11, 12, 13]) ?_
    simp only [go_sem]
    repeat refine awp_seq ?_
    refine awp_reg (by kernel_rfl) fun K hK => ?_
    simp only [go_sem]
    (try simp (disch := omega) only [wrapI])
    refine xcall_eq (hV) rfl (by simp only [go_sem, i64, ints]) (by simp only [go_sem, i64, ints]) (by first | exact .inl rfl | exact .inr rfl) ?_
    (try simp only [go_sem])
    (try simp (disch := omega) only [wrapI])
    repeat first | intro _ | refine ⟨(by omega), ?_⟩ | refine ⟨⟨by omega, by omega⟩, ?_⟩
    refine hK _ ?_
    clear hK K
    refine awp_sub (sub_keep [1, 2, 3, 7, 8, 9, 10, 11, 12, 13, 14]) ?_
    simp only [go_sem]
    repeat refine awp_seq ?_
    refine awp_reg (by kernel_rfl) fun K hK => ?_
    simp only [go_sem, bne_self_eq_false]
    (try simp (disch := omega) only [wrapI])
    refine xcall_eq (alike_ok vals vals) rfl (by simp only [go_sem, i64, ints, bne_self_eq_false]) (by simp only [go_sem, i64, ints, bne_self_eq_false]) (by first | exact .inl rfl | exact .inr rfl) ?_
    (try simp only [go_sem, bne_self_eq_false])
    (try simp (disch := omega) only [wrapI])
    repeat first | intro _ | refine ⟨(by omega), ?_⟩ | refine ⟨⟨by omega, by omega⟩, ?_⟩
    refine hK _ ?_
    clear hK K
    refine awp_sub (sub_keep [1, 2, 3, 8, 10, 12, 14, 73]) ?_
    simp only [go_sem]
    repeat refine awp_seq ?_
    refine awp_cond rfl (fun hc => ?_) (fun hc => ?_) <;> (try simp only [go_sem] at hc)
    refine awp_skip ?_
    try simp only [go_sem]
    repeat refine awp_seq ?_
    refine awp_reg (by kernel_rfl) fun K hK => ?_
    simp only [go_sem, bne_self_eq_false]
    (try simp (disch := omega) only [wrapI])
    repeat first | intro _ | refine ⟨(by omega), ?_⟩ | refine ⟨⟨by omega, by omega⟩, ?_⟩
    refine hK _ ?_
    clear hK K
    refine awp_sub (sub_keep [1, 2, 3, 8, 10, 12, 75]) ?_
    simp only [go_sem]
    repeat refine awp_seq ?_
    refine awp_cond rfl (fun hc => ?_) (fun hc => ?_) <;> (try simp only [go_sem] at hc)
    refine awp_skip ?_
    try simp only [go_sem]
    repeat refine awp_seq ?_
    refine awp_reg (by kernel_rfl) fun K hK => ?_
    simp only [go_sem, hx, hnl, aimR]
    (try simp (disch := omega) only [wrapI])
    repeat first | intro _ | refine ⟨(by omega), ?_⟩ | refine ⟨⟨by omega, by omega⟩, ?_⟩
    refine hK _ ?_
    clear hK K
    refine awp_sub (sub_frzP 15 15 [i64 x.at_, bedsR x.beds] (by omega) rfl rfl) ?_
    refine awp_sub (sub_keep [2, 3, 8, 10, 12, 15]) ?_
    simp only [go_sem]
    repeat refine awp_seq ?_
    refine awp_dreg2 [(2, none), (3, none), (8, none), (10, none), (12, none), (15, none)] follows (by decide +kernel) (by kernel_rfl) (by simp only [keysOk, List.mem_cons, List.not_mem_nil, forall_eq_or_imp, Oc.keyOf, go_sem]; simp) fun K hK => ?_
    simp only [go_sem, hT, cmpL, eq_self, if_true, beq_self_eq_true, Bool.and_true, List.length_cons, List.length_nil]
    (try simp (disch := omega) only [wrapI])
    refine xcall_eq (rM) rfl (by simp only [go_sem, i64, ints, hT, cmpL, eq_self, if_true, beq_self_eq_true, Bool.and_true, List.length_cons, List.length_nil]) (by simp only [go_sem, i64, ints, hT, cmpL, eq_self, if_true, beq_self_eq_true, Bool.and_true, List.length_cons, List.length_nil]) (by first | exact .inl rfl | exact .inr rfl) ?_
    (try simp only [go_sem, hT, cmpL, eq_self, if_true, beq_self_eq_true, Bool.and_true, List.length_cons, List.length_nil])
    (try simp (disch := omega) only [wrapI])
    repeat first | intro _ | refine ⟨(by omega), ?_⟩ | refine ⟨⟨by omega, by omega⟩, ?_⟩
    refine xcall_eq (r0) rfl (by simp only [go_sem, i64, ints]) (by simp only [go_sem, i64, ints]) (by first | exact .inl rfl | exact .inr rfl) ?_
    (try simp only [go_sem])
    (try simp (disch := omega) only [wrapI])
    try simp only [go_sem]
    refine xcall_eq (alike_ok F0 F0) rfl (by simp only [go_sem, i64, ints]) (by simp only [go_sem, i64, ints]) (by first | exact .inl rfl | exact .inr rfl) ?_
    (try simp only [go_sem])
    (try simp (disch := omega) only [wrapI])
    try simp only [go_sem]
    refine xcall_eq (r1) rfl (by simp only [go_sem, i64, ints]) (by simp only [go_sem, i64, ints]) (by first | exact .inl rfl | exact .inr rfl) ?_
    (try simp only [go_sem])
    (try simp (disch := omega) only [wrapI])
    try simp only [go_sem]
    refine xcall_eq (alike_ok F1 F1) rfl (by simp only [go_sem, i64, ints]) (by simp only [go_sem, i64, ints]) (by first | exact .inl rfl | exact .inr rfl) ?_
    (try simp only [go_sem])
    (try simp (disch := omega) only [wrapI])
    try simp only [go_sem]
    refine xcall_eq (known14_ok) rfl (by simp only [go_sem, i64, ints]) (by simp only [go_sem, i64, ints]) (by first | exact .inl rfl | exact .inr rfl) ?_
    (try simp only [go_sem])
    (try simp (disch := omega) only [wrapI])
    repeat first | intro _ | refine ⟨(by omega), ?_⟩ | refine ⟨⟨by omega, by omega⟩, ?_⟩
    refine hK _ ?_
    clear hK K
    refine awp_sub (sub_keep [6]) ?_
    simp only [go_sem]
    refine awp_ret ?_
    simp only [go_sem]
  · have m1 : meanV d l at_ vals = (0, 0) := by simp [meanV, h0]
    have m2 : truthV d l at_ vals false = [] := by simp [truthV, h0]
    have m3 : truthV d l at_ vals true = [] := by simp [truthV, h0]
    rw [m1] at hM
    rw [m2] at hT0
    rw [m3] at hT1
    have hT0' : ACalls Try.prog 40 [lawV d l, i64 at_, ints vals, .bo false] (.tu [.sl 1 [], i64 (pickE d l at_ vals)]) := hT0
    have hT1' : ACalls Try.prog 40 [lawV d l, i64 at_, ints vals, .bo true] (.tu [.sl 1 [], i64 (pickE d l at_ vals)]) := hT1
    simp only at hM
    generalize pickE d l at_ vals = c at hM hT0' hT1' hV h0
    have e0 : (c != 0) = true := by simpa using h0
    repeat refine awp_seq ?_
    refine awp_reg (by kernel_rfl) fun K hK => ?_
    simp only [go_sem]
    (try simp (disch := omega) only [wrapI])
    refine xcall_eq (hown) rfl (by simp only [go_sem, i64, ints]) (by simp only [go_sem, i64, ints]) (by first | exact .inl rfl | exact .inr rfl) ?_
    (try simp only [go_sem])
    (try simp (disch := omega) only [wrapI])
    try simp only [go_sem]
    refine xcall_eq (hM) rfl (by simp only [go_sem, i64, ints]) (by simp only [go_sem, i64, ints]) (by first | exact .inl rfl | exact .inr rfl) ?_
    (try simp only [go_sem])
    (try simp (disch := omega) only [wrapI])
    repeat first | intro _ | refine ⟨(by omega), ?_⟩ | refine ⟨⟨by omega, by omega⟩, ?_⟩
    refine hK _ ?_
    clear hK K
    refine awp_sub (sub_frzP 8 8 [i64 0, i64 0] (by omega) rfl rfl) ?_
    refine awp_sub (sub_keep [1, 2, 3, 7, 8, 9]) ?_
    simp only [go_sem]
    repeat refine awp_seq ?_
    refine awp_reg (by kernel_rfl) fun K hK => ?_
    simp only [go_sem]
    (try simp (disch := omega) only [wrapI])
    refine xcall_eq (hown) rfl (by simp only [go_sem, i64, ints]) (by simp only [go_sem, i64, ints]) (by first | exact .inl rfl | exact .inr rfl) ?_
    (try simp only [go_sem])
    (try simp (disch := omega) only [wrapI])
    try simp only [go_sem]
    refine xcall_eq (hT0') rfl (by simp only [go_sem, i64, ints]) (by simp only [go_sem, i64, ints]) (by first | exact .inl rfl | exact .inr rfl) ?_
    (try simp only [go_sem])
    (try simp (disch := omega) only [wrapI])
    repeat first | intro _ | refine ⟨(by omega), ?_⟩ | refine ⟨⟨by omega, by omega⟩, ?_⟩
    refine hK _ ?_
    clear hK K
    refine awp_sub (sub_keep [1, 2, 3, 7, 8, 9, 10, 11]) ?_
    simp only [go_sem]
    repeat refine awp_seq ?_
    refine awp_reg (by kernel_rfl) fun K hK => ?_
    simp only [go_sem]
    (try simp (disch := omega) only [wrapI])
    refine xcall_eq (hown) rfl (by simp only [go_sem, i64, ints]) (by simp only [go_sem, i64, ints]) (by first | exact .inl rfl | exact .inr rfl) ?_
    (try simp only [go_sem])
    (try simp (disch := omega) only [wrapI])
    try simp only [go_sem]
    refine xcall_eq (hT1') rfl (by simp only [go_sem, i64, ints]) (by simp only [go_sem, i64, ints]) (by first | exact .inl rfl | exact .inr rfl) ?_
    (try simp only [go_sem])
    (try simp (disch := omega) only [wrapI])
    repeat first | intro _ | refine ⟨(by omega), ?_⟩ | refine ⟨⟨by omega, by omega⟩, ?_⟩
    refine hK _ ?_
    clear hK K
    refine awp_sub (sub_keep [1, 2, 3, 7, 8, 9, 10, 11, 12, 13]) ?_
    simp only [go_sem]
    repeat refine awp_seq ?_
    refine awp_reg (by kernel_rfl) fun K hK => ?_
    simp only [go_sem]
    (try simp (disch := omega) only [wrapI])
    refine xcall_eq (hV) rfl (by simp only [go_sem, i64, ints]) (by simp only [go_sem, i64, ints]) (by first | exact .inl rfl | exact .inr rfl) ?_
    (try simp only [go_sem])
    (try simp (disch := omega) only [wrapI])
    repeat first | intro _ | refine ⟨(by omega), ?_⟩ | refine ⟨⟨by omega, by omega⟩, ?_⟩
    refine hK _ ?_
    clear hK K
    refine awp_sub (sub_keep [1, 2, 3, 7, 8, 9, 10, 11, 12, 13, 14]) ?_
    simp only [go_sem]
    repeat refine awp_seq ?_
    refine awp_reg (by kernel_rfl) fun K hK => ?_
    simp only [go_sem, bne_self_eq_false]
    (try simp (disch := omega) only [wrapI])
    refine xcall_eq (alike_ok vals vals) rfl (by simp only [go_sem, i64, ints, bne_self_eq_false]) (by simp only [go_sem, i64, ints, bne_self_eq_false]) (by first | exact .inl rfl | exact .inr rfl) ?_
    (try simp only [go_sem, bne_self_eq_false])
    (try simp (disch := omega) only [wrapI])
    repeat first | intro _ | refine ⟨(by omega), ?_⟩ | refine ⟨⟨by omega, by omega⟩, ?_⟩
    refine hK _ ?_
    clear hK K
    refine awp_sub (sub_keep [1, 2, 3, 8, 10, 12, 14, 73]) ?_
    simp only [go_sem]
    repeat refine awp_seq ?_
    refine awp_cond rfl (fun hc => ?_) (fun hc => ?_) <;> (try simp only [go_sem] at hc)
    refine awp_skip ?_
    try simp only [go_sem]
    repeat refine awp_seq ?_
    refine awp_reg (by kernel_rfl) fun K hK => ?_
    simp only [go_sem, e0]
    (try simp (disch := omega) only [wrapI])
    repeat first | intro _ | refine ⟨(by omega), ?_⟩ | refine ⟨⟨by omega, by omega⟩, ?_⟩
    refine hK _ ?_
    clear hK K
    refine awp_sub (sub_keep [1, 2, 3, 8, 10, 12, 75]) ?_
    simp only [go_sem]
    repeat refine awp_seq ?_
    refine awp_cond rfl (fun hc => ?_) (fun hc => ?_) <;> (try simp only [go_sem] at hc)
    repeat refine awp_seq ?_
    refine awp_reg (by kernel_rfl) fun K hK => ?_
    simp only [go_sem, hT, cmpL, eq_self, if_true, beq_self_eq_true, Bool.and_true, List.length_cons, List.length_nil]
    (try simp (disch := omega) only [wrapI])
    refine ⟨fun _ => ?_, fun h => absurd h (by decide)⟩
    refine xcall_eq (known14_ok) rfl (by simp only [go_sem, i64, ints]) (by simp only [go_sem, i64, ints]) (by first | exact .inl rfl | exact .inr rfl) ?_
    (try simp only [go_sem])
    (try simp (disch := omega) only [wrapI])
    repeat first | intro _ | refine ⟨(by omega), ?_⟩ | refine ⟨⟨by omega, by omega⟩, ?_⟩
    refine hK _ ?_
    clear hK K
    refine awp_sub (sub_keep [6]) ?_
    simp only [go_sem]
    refine awp_ret ?_
    simp only [go_sem]
end Go.Proofs.Ytgkejinoaommeaa

/- What a reading of the arguments says of them: plain data of a shape. -/
namespace Go.Oc
open Go Go.RowKit Go.ChangeShapes Go.WideShapes

inductive Sh where
  | int (k : IntKind)
  | bool
  | sl (es : List Sh)
def fieldsSh (P : Program) (sh : TypeId → Option (List Sh)) : List Field → Nat → Option (List Sh)
  | [], _ => some []
  | f :: fs, o =>
    match sh f.type with
    | some ss => if f.offset == o && ss.length == P.cellsOf f.type then match fieldsSh P sh fs (o + ss.length) with | some q => some (ss ++ q) | none => none else none
    | none => none
/-- The cells of a type. -/
def shape (P : Program) : Nat → TypeId → Option (List Sh)
  | 0, _ => none
  | n + 1, t =>
    match P.underlying t with
    | some (.int k) => some [.int k]
    | some .bool => some [.bool]
    | some (.slice e) =>
      match shape P n e with
      | some ss => if ss.length == P.cellsOf e && decide (0 < ss.length) then some [.sl ss] else none
      | none => none
    | some (.array m e) =>
      match shape P n e with
      | some ss => if ss.length == P.cellsOf e && P.cellsOf t == m * ss.length then some (List.replicate m ss).flatten else none
      | none => none
    | some (.struct fs) =>
      match fieldsSh P (shape P n) fs.toList 0 with
      | some ss => if ss.length == P.cellsOf t then some ss else none
      | none => none
    | _ => none
mutual
def Fits : Sh → RV → Prop
  | .int k, x => ∃ n, x = .it k n ∧ (Lit.int k n).wf = true
  | .bool, x => ∃ b, x = .bo b
  | .sl ss, x => ∃ es, x = .sl ss.length es ∧ FitsE ss es
def FitsL : List Sh → List RV → Prop
  | [], xs => xs = []
  | s :: ss, xs => ∃ y ys, xs = y :: ys ∧ Fits s y ∧ FitsL ss ys
def FitsE (ss : List Sh) : List (List RV) → Prop
  | [] => True
  | e :: es => FitsL ss e ∧ FitsE ss es
end

theorem fitsL_append : ∀ {s1 s2 : List Sh} {x1 x2 : List RV}, FitsL s1 x1 → FitsL s2 x2 → FitsL (s1 ++ s2) (x1 ++ x2)
  | [], _, _, _, h1, h2 => by simp only [FitsL] at h1; subst h1; simpa using h2
  | s :: ss, s2, x1, x2, h1, h2 => by
    simp only [FitsL] at h1
    obtain ⟨y, ys, rfl, h3, h4⟩ := h1
    simp only [List.cons_append, FitsL]
    exact ⟨y, _, rfl, h3, fitsL_append h4 h2⟩
theorem fitsL_length : ∀ {ss : List Sh} {xs : List RV}, FitsL ss xs → xs.length = ss.length
  | [], _, h => by simp only [FitsL] at h; subst h; rfl
  | s :: ss, _, h => by
    simp only [FitsL] at h
    obtain ⟨y, ys, rfl, _, h⟩ := h
    simp [fitsL_length h]
theorem fitsE_of : ∀ {ss : List Sh} {es : List (List RV)}, (∀ e ∈ es, FitsL ss e) → FitsE ss es
  | _, [], _ => by simp only [FitsE]
  | ss, e :: es, h => by simp only [FitsE]; exact ⟨h e (by simp), fitsE_of fun x hx => h x (by simp [hx])⟩
theorem choice {α : Type} {Q : Nat → α → Prop} : ∀ (n : Nat), (∀ i, i < n → ∃ x, Q i x) → ∃ xs : List α, xs.length = n ∧ ∀ i x, xs[i]? = some x → Q i x
  | 0, _ => ⟨[], rfl, by simp⟩
  | n + 1, h => by
    obtain ⟨xs, hl, hx⟩ := choice n fun i hi => h i (by omega)
    obtain ⟨y, hy⟩ := h n (by omega)
    refine ⟨xs ++ [y], by simp [hl], fun i x hi => ?_⟩
    by_cases h1 : i < n
    · rw [List.getElem?_append_left (by omega)] at hi; exact hx i x hi
    · rw [List.getElem?_append_right (by omega)] at hi
      have : i = n := by have := (List.getElem?_eq_some_iff.1 hi).1; simp at this; omega
      subst this
      simp [hl] at hi
      exact hi ▸ hy
section
variable {w : World} {P : Program}
theorem cells?_get {base n : Nat} {a : Addr} {cs : List Value} (h : w.cells? base a n = some cs) : cs.length = n ∧ ∀ i, i < n → w.cell? (a.add i) = cs[i]? := by
  unfold World.cells? at h
  split at h
  · exact ⟨by simpa using mapM_some_length h, fun i hi => mapM_some_get h i i (by simp [hi])⟩
  · cases h
theorem cell_lt {a : Addr} {v : Value} (h : w.cell? a = some v) : a.block < w.heap.size := by
  refine Decidable.byContradiction fun hn => ?_
  have : w.heap[a.block]? = none := by simp; omega
  simp [World.cell?, this] at h
/-- All that was there. -/
def old (w : World) : Nat → Prop := fun b => b < w.heap.size
theorem relC_of_cells {xs : List RV} {cs : List Value} {ad : Addr} (hV : RV.relV w (old w) xs cs) (hone : ∀ u ∈ cs, u.oneCell' = true) (hc : ∀ i, i < cs.length → w.cell? (ad.add i) = cs[i]?) : RV.relC w (old w) xs ad 0 := by
  refine RV.relC_of_get fun i x hx => ?_
  obtain ⟨u, hu, hr⟩ := RV.relV_get hV hx
  have hi := (List.getElem?_eq_some_iff.1 hu).1
  refine ⟨u, ?_, hone u (List.mem_of_getElem? hu), hr⟩
  rw [Nat.zero_add, hc i hi, hu]

variable {H : Type} {enc : TypeId × Value → H} {base : Nat} {spare : Nat → Bool} {held : Bool}
def Good3 (w : World) (ss : List Sh) (cs : List Value) : Prop := ∃ xs, FitsL ss xs ∧ RV.relV w (old w) xs cs ∧ ∀ u ∈ cs, u.oneCell' = true
theorem good3_append {s1 s2 : List Sh} {c1 c2 : List Value} (h1 : Good3 w s1 c1) (h2 : Good3 w s2 c2) : Good3 w (s1 ++ s2) (c1 ++ c2) := by
  obtain ⟨x1, f1, r1, o1⟩ := h1
  obtain ⟨x2, f2, r2, o2⟩ := h2
  refine ⟨x1 ++ x2, fitsL_append f1 f2, RV.relV_append r1 r2, fun u hu => ?_⟩
  rcases List.mem_append.1 hu with hu | hu
  · exact o1 u hu
  · exact o2 u hu
theorem good3_length {ss : List Sh} {cs : List Value} (h : Good3 w ss cs) : cs.length = ss.length := by
  obtain ⟨xs, f, r, _⟩ := h
  rw [RV.relV_length r, fitsL_length f]
theorem trod_fits : ∀ (fuel n : Nat) (t : TypeId) (cs : List Value) (x : DataW H × List MemPlace) (ss : List Sh), DataW.trod enc P w base spare held fuel t cs = some x → shape P n t = some ss → Good3 w ss cs := by
  intro fuel
  induction fuel with
  | zero => intro n t cs x ss h; simp [DataW.trod] at h
  | succ fuel ih =>
    intro n t cs x ss h hs
    cases n with
    | zero => simp [shape] at hs
    | succ n =>
      unfold shape at hs
      split at hs
      · rename_i k ht
        injection hs with hs; subst hs
        obtain ⟨m, rfl, _, hw⟩ := DataW.trod_int ht h
        exact ⟨[.it k m], by simp only [FitsL, Fits]; exact ⟨_, [], rfl, ⟨m, rfl, hw⟩, rfl⟩, by simp only [RV.relV, RV.rel]; exact ⟨_, [], rfl, rfl, rfl⟩, by simp [Value.oneCell']⟩
      · rename_i ht
        injection hs with hs; subst hs
        obtain ⟨b, rfl, _⟩ := DataW.trod_bool ht h
        exact ⟨[.bo b], by simp only [FitsL, Fits]; exact ⟨_, [], rfl, ⟨b, rfl⟩, rfl⟩, by simp only [RV.relV, RV.rel]; exact ⟨_, [], rfl, rfl, rfl⟩, by simp [Value.oneCell']⟩
      · rename_i e ht
        split at hs
        · rename_i es hes
          split at hs
          · rename_i hc
            simp only [Bool.and_eq_true, beq_iff_eq, decide_eq_true_eq] at hc
            injection hs with hs; subst hs
            rcases DataW.trod_slice ht h with ⟨rfl, _⟩ | ⟨a, len, cap, elems, rest, m, hm, rfl, _, _, hlc, hcm, hel, hget, _⟩
            · refine ⟨[.sl es.length []], ?_, ?_, by simp [Value.oneCell']⟩
              · simp only [FitsL, Fits]
                exact ⟨_, [], rfl, ⟨[], rfl, by simp only [FitsE]⟩, rfl⟩
              · simp only [RV.relV, RV.rel]
                exact ⟨_, [], rfl, ⟨none, 0, rfl, Nat.le_refl _, Nat.zero_le _, fun h => absurd rfl h⟩, rfl⟩
            · injection hm with hm; subst hm
              have hall : ∀ i, i < len → ∃ e', FitsL es e' ∧ e'.length = es.length ∧ RV.relC w (old w) e' (a.add (i * es.length)) 0 ∧ a.block < w.heap.size := fun i hi => by
                have h1 := hget i hi
                have h2 : i < elems.length := by omega
                rw [List.getElem?_eq_getElem h2] at h1
                obtain ⟨ci, hci, htr⟩ := Option.bind_eq_some_iff.1 h1
                rw [← hc.1] at hci
                obtain ⟨hl, hcell⟩ := cells?_get hci
                obtain ⟨xs, f, r, o⟩ := ih n e ci _ es htr hes
                refine ⟨xs, f, fitsL_length f, relC_of_cells r o (fun j hj => hcell j (by omega)), ?_⟩
                have h3 := hcell 0 hc.2
                have h4 : 0 < ci.length := by omega
                rw [List.getElem?_eq_getElem h4] at h3
                have := cell_lt h3
                rwa [block_add, block_add] at this
              obtain ⟨els, hlen, hels⟩ := choice len hall
              refine ⟨[.sl es.length els], ?_, ?_, by simp [Value.oneCell']⟩
              · simp only [FitsL, Fits]
                refine ⟨_, [], rfl, ⟨els, rfl, fitsE_of fun e' he' => ?_⟩, rfl⟩
                obtain ⟨i, hi⟩ := List.getElem?_of_mem he'
                exact (hels i e' hi).1
              · simp only [RV.relV, RV.rel]
                refine ⟨_, [], rfl, ⟨some a, cap, by rw [hlen], by omega, hcm, fun hne => ?_⟩, rfl⟩
                obtain ⟨e0, he0⟩ : ∃ e0, els[0]? = some e0 := by
                  cases els with
                  | nil => exact absurd rfl hne
                  | cons a l => exact ⟨a, rfl⟩
                refine ⟨a, rfl, (hels 0 e0 he0).2.2.2, RV.relE_of_get fun i e' he' => ?_⟩
                obtain ⟨_, q1, q2, _⟩ := hels i e' he'
                exact ⟨q1, RV.relC_unbase _ q2⟩
          · cases hs
        · cases hs
      · rename_i m e ht
        split at hs
        · rename_i es hes
          split at hs
          · rename_i hc
            simp only [Bool.and_eq_true, beq_iff_eq] at hc
            injection hs with hs; subst hs
            obtain ⟨xs, fm, hm, _, hcl, hxl, hget⟩ := DataW.trod_array ht h
            injection hm with hm; subst hm
            have key : ∀ j, j ≤ m → Good3 w (List.replicate j es).flatten (cs.take (j * es.length)) := by
              intro j
              induction j with
              | zero => intro _; exact ⟨[], by simp [FitsL], by simp [RV.relV], by simp⟩
              | succ j ihj =>
                intro hj
                have h1 := hget j (by omega)
                have h2 : j < xs.length := by omega
                rw [List.getElem?_eq_getElem h2, ← hc.1] at h1
                have h3 := ih n e _ _ es h1 hes
                have := good3_append (ihj (by omega)) h3
                rw [← List.take_add] at this
                rw [List.replicate_succ', List.flatten_append, Nat.add_mul]
                simpa using this
            have := key m (Nat.le_refl _)
            rwa [← hc.2, ← hcl, List.take_length] at this
          · cases hs
        · cases hs
      · rename_i fs ht
        split at hs
        · rename_i q hq
          split at hs
          · rename_i hc
            simp only [beq_iff_eq] at hc
            injection hs with hs; subst hs
            obtain ⟨xs, fm, hm, _, hcl, hxl, hget⟩ := DataW.trod_struct ht h
            injection hm with hm; subst hm
            have key : ∀ (l : List Field) (o : Nat) (q : List Sh), (∀ f ∈ l, ∃ y, DataW.trod enc P w base spare held fuel f.type ((cs.drop f.offset).take (P.cellsOf f.type)) = some y) → fieldsSh P (shape P n) l o = some q → Good3 w q ((cs.drop o).take q.length) := by
              intro l
              induction l with
              | nil =>
                intro o q _ hq
                simp only [fieldsSh, Option.some.injEq] at hq
                subst hq
                exact ⟨[], by simp [FitsL], by simp [RV.relV], by simp⟩
              | cons f l ihl =>
                intro o q hall hq
                simp only [fieldsSh] at hq
                split at hq
                · rename_i s1 hs1
                  split at hq
                  · rename_i hc1
                    simp only [Bool.and_eq_true, beq_iff_eq] at hc1
                    split at hq
                    · rename_i q2 hq2
                      injection hq with hq; subst hq
                      obtain ⟨y, hy⟩ := hall f (by simp)
                      have g1 := ih n f.type _ _ s1 hy hs1
                      have g2 := ihl (o + s1.length) q2 (fun f' hf' => hall f' (by simp [hf'])) hq2
                      rw [hc1.1, ← hc1.2] at g1
                      have := good3_append g1 g2
                      rw [← List.drop_drop, ← List.take_add] at this
                      simpa using this
                    · cases hq
                  · cases hq
                · cases hq
            have := key fs.toList 0 q (fun f hf => by
              obtain ⟨i, hi⟩ := List.getElem?_of_mem hf
              have hi' : fs[i]? = some f := by simpa using hi
              have h1 := hget i f hi'
              have h2 : i < xs.length := by have := (Array.getElem?_eq_some_iff.1 hi').1; omega
              exact ⟨xs[i], by rw [h1]; exact List.getElem?_eq_getElem h2⟩) hq
            rwa [List.drop_zero, hc, ← hcl, List.take_length] at this
          · cases hs
        · cases hs
      · cases hs

/-- An argument of a type. -/
def FitsT (P : Program) (n : Nat) (t : TypeId) (x : RV) : Prop := ∃ ss, shape P n t = some ss ∧ if aggOf P t then ∃ xs, x = .ag xs ∧ FitsL ss xs else FitsL ss [x]
theorem arg_fits {n : Nat} {t : TypeId} {v : Value} {d : DataW H} {ps : List MemPlace} {r : Reach} {b0 : Nat} (hs : (shape P n t).isSome = true) (hval : Value.okWide P w r b0 t v) (h : DataW.Trod enc P w base spare held t v d ps) :
    ∃ x, FitsT P n t x ∧ x.rel w (old w) v := by
  obtain ⟨ss, hss⟩ := Option.isSome_iff_exists.1 hs
  obtain ⟨fuel, hf⟩ := h
  obtain ⟨xs, f, r, o⟩ := trod_fits fuel n t _ _ ss hf hss
  have one : aggOf P t = false → v.cells.toList = [v] → ∃ x, FitsT P n t x ∧ x.rel w (old w) v := fun ha hc => by
    rw [hc] at r
    match xs, r with
    | [x], r =>
      simp only [RV.relV] at r
      obtain ⟨u, us, e, hr, _⟩ := r
      injection e with e1 e2
      subst e1
      exact ⟨x, ⟨ss, hss, by rw [ha]; exact f⟩, hr⟩
    | [], r => simp [RV.relV] at r
    | _ :: _ :: _, r =>
      simp only [RV.relV] at r
      obtain ⟨u, us, e, _, u2, us2, e2, _⟩ := r
      injection e with _ e
      rw [e2] at e; cases e
  cases n with
  | zero => simp [shape] at hss
  | succ n =>
    have hss' := hss
    unfold shape at hss'
    split at hss'
    · rename_i k ht
      obtain ⟨m, rfl⟩ := okWide_int ht hval
      exact one (by simp [aggOf, ht]) rfl
    · rename_i ht
      obtain ⟨b, rfl⟩ := okWide_bool ht hval
      exact one (by simp [aggOf, ht]) rfl
    · rename_i e ht
      obtain ⟨a, l, c, rfl⟩ := okWide_slice ht hval
      exact one (by simp [aggOf, ht]) rfl
    · rename_i m e ht
      obtain ⟨cs, rfl⟩ : ∃ cs, v = .agg cs := by
        simp only [Value.okWide, ht] at hval
        obtain ⟨cs, h1, _⟩ := hval
        exact ⟨cs, h1⟩
      exact ⟨.ag xs, ⟨ss, hss, by simp only [aggOf, ht, if_true]; exact ⟨xs, rfl, f⟩⟩, by simp only [RV.rel]; exact ⟨cs, rfl, o, r⟩⟩
    · rename_i fs ht
      obtain ⟨cs, rfl, _⟩ := okWide_struct ht hval
      exact ⟨.ag xs, ⟨ss, hss, by simp only [aggOf, ht, if_true]; exact ⟨xs, rfl, f⟩⟩, by simp only [RV.rel]; exact ⟨cs, rfl, o, r⟩⟩
    · cases hss'

theorem wf_i64 {n : Int} (h : (Lit.int .i64 n).wf = true) : -9223372036854775808 ≤ n ∧ n ≤ 9223372036854775807 := by
  simp only [Lit.wf, Bool.and_eq_true, decide_eq_true_eq] at h
  have h1 : IntKind.min .i64 = -9223372036854775808 := by decide
  have h2 : IntKind.max .i64 = 9223372036854775807 := by decide
  rw [h1, h2] at h
  exact h
theorem fitsE_ints : ∀ {es : List (List RV)}, FitsE [.int .i64] es → ∃ l : List Int, es = l.map (fun x => [.it .i64 x]) ∧ ∀ x ∈ l, -9223372036854775808 ≤ x ∧ x ≤ 9223372036854775807
  | [], _ => ⟨[], rfl, by simp⟩
  | e :: es, h => by
    simp only [FitsE, FitsL, Fits] at h
    obtain ⟨⟨y, ys, rfl, ⟨n, rfl, hn⟩, rfl⟩, h⟩ := h
    obtain ⟨l, rfl, hl⟩ := fitsE_ints h
    refine ⟨n :: l, rfl, fun x hx => ?_⟩
    rcases List.mem_cons.1 hx with rfl | hx
    · exact wf_i64 hn
    · exact hl x hx
theorem fitsT_ag {n : Nat} {t : TypeId} {x : RV} {ss : List Sh} (h : FitsT P n t x) (hs : shape P n t = some ss) (ha : aggOf P t = true) : ∃ xs, x = .ag xs ∧ FitsL ss xs := by
  obtain ⟨s', h1, h2⟩ := h
  rw [hs] at h1; injection h1 with h1; subst h1
  rw [ha] at h2
  exact h2
theorem fitsT_one {n : Nat} {t : TypeId} {x : RV} {s : Sh} (h : FitsT P n t x) (hs : shape P n t = some [s]) (ha : aggOf P t = false) : Fits s x := by
  obtain ⟨s', h1, h2⟩ := h
  rw [hs] at h1; injection h1 with h1; subst h1
  rw [ha] at h2
  simp only [Bool.false_eq_true, if_false, FitsL] at h2
  obtain ⟨y, ys, e, h3, _⟩ := h2
  injection e with e1 e2
  subst e1
  exact h3
theorem fitsT_int {n : Nat} {t : TypeId} {x : RV} (h : FitsT P n t x) (hs : shape P n t = some [.int .i64]) (ha : aggOf P t = false) : ∃ m, x = .it .i64 m ∧ -9223372036854775808 ≤ m ∧ m ≤ 9223372036854775807 := by
  have := fitsT_one h hs ha
  simp only [Fits] at this
  obtain ⟨m, h1, h2⟩ := this
  exact ⟨m, h1, wf_i64 h2⟩
theorem fitsT_ints {n : Nat} {t : TypeId} {x : RV} (h : FitsT P n t x) (hs : shape P n t = some [.sl [.int .i64]]) (ha : aggOf P t = false) : ∃ l : List Int, x = .sl 1 (l.map (fun x => [.it .i64 x])) ∧ ∀ x ∈ l, -9223372036854775808 ≤ x ∧ x ≤ 9223372036854775807 := by
  have := fitsT_one h hs ha
  simp only [Fits] at this
  obtain ⟨es, h1, h2⟩ := this
  obtain ⟨l, rfl, hl⟩ := fitsE_ints h2
  exact ⟨l, h1, hl⟩
end
end Go.Oc

/- Arguments of the types of chapter 7. -/
namespace Go.Proofs.Ytgkejinoaommeaa
open Go Go.Oc
theorem fitsE_bed : ∀ {es : List (List RV)}, FitsE [.int .i64, .int .i64, .int .i64] es → ∃ l : List Bd, es = l.map bedR ∧ Wf l
  | [], _ => ⟨[], rfl, by simp [Wf]⟩
  | e :: es, h => by
    simp only [Oc.FitsE, Oc.FitsL, Oc.Fits] at h
    obtain ⟨⟨_, _, rfl, ⟨a, rfl, ha⟩, _, _, rfl, ⟨b, rfl, hb⟩, _, _, rfl, ⟨c, rfl, hc⟩, rfl⟩, h⟩ := h
    obtain ⟨l, rfl, hl⟩ := fitsE_bed h
    refine ⟨⟨a, b, c⟩ :: l, rfl, fun x hx => ?_⟩
    rcases List.mem_cons.1 hx with rfl | hx
    · exact ⟨wf_i64 ha, wf_i64 hb, wf_i64 hc⟩
    · exact hl x hx
theorem fitsE_aim : ∀ {es : List (List RV)}, FitsE [.int .i64, .sl [.int .i64, .int .i64, .int .i64]] es → ∃ l : List Am, es = l.map aimR ∧ ∀ a ∈ l, WfA a
  | [], _ => ⟨[], rfl, by simp⟩
  | e :: es, h => by
    simp only [Oc.FitsE, Oc.FitsL, Oc.Fits] at h
    obtain ⟨⟨_, _, rfl, ⟨a, rfl, ha⟩, _, _, rfl, ⟨q, rfl, hq⟩, rfl⟩, h⟩ := h
    obtain ⟨l, rfl, hl⟩ := fitsE_aim h
    obtain ⟨b, rfl, hb⟩ := fitsE_bed hq
    refine ⟨⟨a, b⟩ :: l, rfl, fun x hx => ?_⟩
    rcases List.mem_cons.1 hx with rfl | hx
    · exact ⟨wf_i64 ha, hb⟩
    · exact hl x hx
theorem fits24 {x : RV} (h : FitsT Try.prog 9 24 x) : ∃ d l, x = lawV d l ∧ WfL d l := by
  obtain ⟨xs, rfl, hx⟩ := fitsT_ag (ss := [.int .i64, .sl [.int .i64, .sl [.int .i64, .int .i64, .int .i64]]]) h (by kernel_rfl) (by kernel_rfl)
  simp only [Oc.FitsL, Oc.Fits] at hx
  obtain ⟨_, _, rfl, ⟨d, rfl, hd⟩, _, _, rfl, ⟨es, rfl, hes⟩, rfl⟩ := hx
  obtain ⟨l, rfl, hl⟩ := fitsE_aim hes
  exact ⟨d, l, rfl, wf_i64 hd, hl⟩
theorem fits36 {x : RV} (h : FitsT Try.prog 9 36 x) : ∃ a, x = aimV a ∧ WfA a := by
  obtain ⟨xs, rfl, hx⟩ := fitsT_ag (ss := [.int .i64, .sl [.int .i64, .int .i64, .int .i64]]) h (by kernel_rfl) (by kernel_rfl)
  simp only [Oc.FitsL, Oc.Fits] at hx
  obtain ⟨_, _, rfl, ⟨a, rfl, ha⟩, _, _, rfl, ⟨es, rfl, hes⟩, rfl⟩ := hx
  obtain ⟨l, rfl, hl⟩ := fitsE_bed hes
  exact ⟨⟨a, l⟩, rfl, wf_i64 ha, hl⟩
end Go.Proofs.Ytgkejinoaommeaa

/- The bounds of the small kinds of integers. -/
namespace Go.Oc
open Go Go.RowKit
theorem wf_u8 {n : Int} (h : (Lit.int .u8 n).wf = true) : 0 ≤ n ∧ n ≤ 255 := by
  simp only [Lit.wf, Bool.and_eq_true, decide_eq_true_eq] at h
  have h1 : IntKind.min .u8 = 0 := by decide
  have h2 : IntKind.max .u8 = 255 := by decide
  rw [h1, h2] at h
  exact h
theorem wf_u16 {n : Int} (h : (Lit.int .u16 n).wf = true) : 0 ≤ n ∧ n ≤ 65535 := by
  simp only [Lit.wf, Bool.and_eq_true, decide_eq_true_eq] at h
  have h1 : IntKind.min .u16 = 0 := by decide
  have h2 : IntKind.max .u16 = 65535 := by decide
  rw [h1, h2] at h
  exact h
theorem wf_u32 {n : Int} (h : (Lit.int .u32 n).wf = true) : 0 ≤ n ∧ n ≤ 4294967295 := by
  simp only [Lit.wf, Bool.and_eq_true, decide_eq_true_eq] at h
  have h1 : IntKind.min .u32 = 0 := by decide
  have h2 : IntKind.max .u32 = 4294967295 := by decide
  rw [h1, h2] at h
  exact h
theorem fitsE_u8 : ∀ {es : List (List RV)}, FitsE [.int .u8] es → ∃ l : List Int, es = l.map (fun x => [.it .u8 x]) ∧ ∀ x ∈ l, 0 ≤ x ∧ x ≤ 255
  | [], _ => ⟨[], rfl, by simp⟩
  | e :: es, h => by
    simp only [FitsE, FitsL, Fits] at h
    obtain ⟨⟨y, ys, rfl, ⟨n, rfl, hn⟩, rfl⟩, h⟩ := h
    obtain ⟨l, rfl, hl⟩ := fitsE_u8 h
    refine ⟨n :: l, rfl, fun x hx => ?_⟩
    rcases List.mem_cons.1 hx with rfl | hx
    · exact wf_u8 hn
    · exact hl x hx
theorem fitsE_u16 : ∀ {es : List (List RV)}, FitsE [.int .u16] es → ∃ l : List Int, es = l.map (fun x => [.it .u16 x]) ∧ ∀ x ∈ l, 0 ≤ x ∧ x ≤ 65535
  | [], _ => ⟨[], rfl, by simp⟩
  | e :: es, h => by
    simp only [FitsE, FitsL, Fits] at h
    obtain ⟨⟨y, ys, rfl, ⟨n, rfl, hn⟩, rfl⟩, h⟩ := h
    obtain ⟨l, rfl, hl⟩ := fitsE_u16 h
    refine ⟨n :: l, rfl, fun x hx => ?_⟩
    rcases List.mem_cons.1 hx with rfl | hx
    · exact wf_u16 hn
    · exact hl x hx
end Go.Oc

/- The law of the means returns true for all arguments of its types. -/
namespace Go.Proofs.Ytgkejinoaommeaa
open Go Go.Oc
theorem law9' {x0 x1 x2 : RV} (h0 : FitsT Try.prog 9 24 x0) (h1 : FitsT Try.prog 9 3 x1) (h2 : FitsT Try.prog 9 41 x2) : ACalls Try.prog 9 [x0, x1, x2] (.bo true) := by
  obtain ⟨d, l, rfl, hw⟩ := fits24 h0
  obtain ⟨n, rfl, _⟩ := fitsT_int h1 (by kernel_rfl) (by kernel_rfl)
  obtain ⟨v, rfl, _⟩ := fitsT_ints h2 (by kernel_rfl) (by kernel_rfl)
  exact means_law d l n v hw
end Go.Proofs.Ytgkejinoaommeaa


namespace Go.Proofs.Ytgkejinoaommeaa
open Go Go.Oc Go.ChangeShapes Go.WideShapes Go.RowKit
set_option linter.unusedVariables false
theorem own : ownKnob Try.prog.godebug = none := by kernel_rfl
theorem laidOut : laidOutB Try.prog = true := by kernel_rfl
set_option maxRecDepth 100000 in
theorem lifted (os : Os) (started : os.Started) (H : Type) (enc : TypeId × Value → H) :
    ReturnsInHanded {} Try.checked os 9 .any (Rows.throwMeansSpec.pre6 enc Try.prog Try.f9 Rows.throwMeansRow.domain false) (Rows.throwMeansSpec.post enc Try.prog Try.f9 false true false false) := by
  refine returnsInHanded_of_change (C := Try.checked) own started (by kernel_rfl) Try.func9
    (ChangeSpec.witness6 (enc := enc) (C := Try.checked) false ⟨#[], #[.agg #[.int .i64 0, .slice none 0 0], .int .i64 0, .slice none 0 0], []⟩ 8 (by kernel_rfl) (by kernel_rfl) (by kernel_rfl) (by kernel_rfl)) ?_
  intro W base args ds gs before hval0 hW hcnd _
  have hval : ∀ (j : Nat) t v, Try.f9.params[j]? = some t → args[j]? = some v → Value.okWide Try.prog W .any base t v := hval0
  have hW' := hW
  obtain ⟨p, q, hA0, hV, rfl, hfz, hnd⟩ := hW
  have hA : DataW.TrodAll enc Try.prog W 0 (fun _ => true) true Try.f9.params.toList args.toList ds p := hA0
  rw [Try.params9] at hA hval
  obtain ⟨v0, vs0, d0, ds0, p0, q0, hargs, rfl, rfl, h0, r0⟩ := trodAll_cons hA
  obtain ⟨v1, vs1, d1, ds1, p1, q1, rfl, rfl, rfl, h1, r1⟩ := trodAll_cons r0
  obtain ⟨v2, vs2, d2, ds2, p2, q2, rfl, rfl, rfl, h2, r2⟩ := trodAll_cons r1
  obtain ⟨rfl, rfl, rfl⟩ := trodAll_nil r2
  obtain rfl : args = #[v0, v1, v2] := by cases args; simp_all
  obtain ⟨rfl, rfl⟩ := trodVars_none hV
  have lt0 : ∀ x ∈ p0, x.block < W.heap.size := by obtain ⟨m, hm⟩ := h0; exact DataW.trod_lt m _ _ _ hm
  have lt1 : ∀ x ∈ p1, x.block < W.heap.size := by obtain ⟨m, hm⟩ := h1; exact DataW.trod_lt m _ _ _ hm
  have lt2 : ∀ x ∈ p2, x.block < W.heap.size := by obtain ⟨m, hm⟩ := h2; exact DataW.trod_lt m _ _ _ hm
  obtain ⟨x0, g0, e0⟩ := arg_fits (n := 9) (by kernel_rfl) (hval 0 24 v0 rfl rfl) h0
  obtain ⟨x1, g1, e1⟩ := arg_fits (n := 9) (by kernel_rfl) (hval 1 3 v1 rfl rfl) h1
  obtain ⟨x2, g2, e2⟩ := arg_fits (n := 9) (by kernel_rfl) (hval 2 41 v2 rfl rfl) h2
  clear hA0 hval0
  refine ((law9' g0 g1 g2).2 W (old W) #[v0, v1, v2] (fun _ h => h) (by simp only [RV.relV]; exact ⟨_, _, rfl, e0, _, _, rfl, e1, _, _, rfl, e2, rfl⟩)).mono fun e W' he => ?_
  obtain ⟨v, R', rfl, bel, _, _, _, hr⟩ := he
  simp only [RV.rel] at hr
  subst hr
  exact ⟨_, rfl, _, _, _, [], _, [], hW', trodAll_mk1 (shut_bool Try.underlying4 _), (trodAll_cons_mk (Below.trod laidOut (by kernel_rfl) (of_decide_eq_true (by kernel_rfl)) h0 bel lt0) (trodAll_cons_mk (Below.trod laidOut (by kernel_rfl) (of_decide_eq_true (by kernel_rfl)) h1 bel lt1) (trodAll_cons_mk (Below.trod laidOut (by kernel_rfl) (of_decide_eq_true (by kernel_rfl)) h2 bel lt2) trodAll_mk0))), rfl, bel.frame _, fun h => by cases h⟩
theorem over : Rows.throwMeansRow.holds Try.pinned (OpenSpec.ofChange Rows.throwMeansSpec) :=
  OpenClaim.holds_of_wide 9 Try.f9 rfl rfl rfl rfl rfl rfl rfl ⟨rfl, rfl, rfl, rfl, rfl⟩ rfl rfl rfl rfl rfl (by kernel_rfl) Try.func9 (by kernel_rfl)
    (of_decide_eq_true (by kernel_rfl)) (by unfold Func.isWrapper; first | (rw [if_pos (by decide +kernel)]; kernel_rfl) | (rw [if_neg (by decide +kernel)]; exact ⟨rfl, rfl⟩))
    (fun os started H enc _ => lifted os started H enc)
theorem throwMeans_holds : Rows.ThrowMeansSaid := over
#print axioms throwMeans_holds
end Go.Proofs.Ytgkejinoaommeaa
