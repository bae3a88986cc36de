/- Part 6 of the texts of this claim. -/
import Derived.Test.YtaniakoadbkadaaV65
import Derived.Test.YtaniakoadbkadaaV64
/- What the tests of rules return. -/
namespace Go.Proofs.Ytaniakoadbkadaa
open Go Go.Oc
set_option linter.unusedSimpArgs false
set_option linter.unusedVariables false
set_option maxRecDepth 8000
structure Game where
  pl : Int
  lg : Int
  pt : Int
abbrev gameC (g : Game) : List RV := [i64 g.pl, i64 g.lg, i64 g.pt]
abbrev games (l : List Game) : RV := .sl 3 (l.map gameC)
structure Rules where
  squad : Int
  gs : List Game
  most : Int
  bonus : Int
abbrev rulesC (r : Rules) : List RV := [i64 r.squad, games r.gs, i64 r.most, i64 r.bonus]
def isGameB (squad : Int) (g : Game) : Bool := withinL 1 (min 2 squad) [g.pl] && withinL 1 15 [g.lg] && withinL 0 99 [g.pt]
theorem isGame_ok (r : Rules) (g : Game) : ACalls Try.prog 38 [.ag (rulesC r), .ag (gameC g)] (.bo (isGameB r.squad g)) := by
  refine acalls_st (rs := [.bo (isGameB r.squad g)]) [.tmp 4] Try.func38 rfl (by kernel_rfl) Try.ntmps38 rfl (by simp) rfl fun C vs => ?_
  repeat refine awp_seq ?_
  refine awp_reg (by kernel_rfl) fun K hK => ?_
  simp only [go_sem]
  (try simp (disch := omega) only [wrapI])
  repeat first | intro _ | refine ⟨(by omega), ?_⟩ | refine ⟨⟨by omega, by omega⟩, ?_⟩
  refine hK _ ?_
  clear hK K
  repeat refine awp_seq ?_
  refine awp_reg (by kernel_rfl) fun K hK => ?_
  simp only [go_sem]
  (try simp (disch := omega) only [wrapI])
  refine xcall_eq (within_ok 1 (min 2 r.squad) [g.pl]) rfl (by simp only [go_sem, i64, ints]) (by simp only [go_sem, i64, ints]) (by first | exact .inl rfl | exact .inr rfl) ?_
  (try simp only [go_sem])
  (try simp (disch := omega) only [wrapI])
  refine ⟨fun h1 => ?_, fun h1 => ?_⟩
  · refine xcall_eq (within_ok 1 15 [g.lg]) rfl (by simp only [go_sem, i64, ints]) (by simp only [go_sem, i64, ints]) (by first | exact .inl rfl | exact .inr rfl) ?_
    (try simp only [go_sem])
    (try simp (disch := omega) only [wrapI])
    refine ⟨fun h2 => ?_, fun h2 => ?_⟩
    · refine xcall_eq (within_ok 0 99 [g.pt]) rfl (by simp only [go_sem, i64, ints]) (by simp only [go_sem, i64, ints]) (by first | exact .inl rfl | exact .inr rfl) ?_
      (try simp only [go_sem])
      (try simp (disch := omega) only [wrapI])
      repeat first | intro _ | refine ⟨(by omega), ?_⟩ | refine ⟨⟨by omega, by omega⟩, ?_⟩
      refine hK _ ?_
      clear hK K
      refine awp_ret ?_
      simp only [go_sem]
      simp [isGameB, h1, h2]
    · repeat first | intro _ | refine ⟨(by omega), ?_⟩ | refine ⟨⟨by omega, by omega⟩, ?_⟩
      refine hK _ ?_
      clear hK K
      refine awp_ret ?_
      simp only [go_sem]
      simp [isGameB, h1, h2]
  · repeat first | intro _ | refine ⟨(by omega), ?_⟩ | refine ⟨⟨by omega, by omega⟩, ?_⟩
    refine hK _ ?_
    clear hK K
    refine awp_ret ?_
    simp only [go_sem]
    simp [isGameB, h1]
theorem check1_ok (r : Rules) (g : Game) : ACalls Try.prog 37 [.ag (gameC g), .rp (rulesC r)] (.bo (!isGameB r.squad g)) := by
  refine acalls_st (rs := [.bo (!isGameB r.squad g)]) [.tmp 3] Try.func37 rfl (by kernel_rfl) Try.ntmps37 rfl (by simp) rfl fun C vs => ?_
  repeat refine awp_seq ?_
  refine awp_reg (by kernel_rfl) fun K hK => ?_
  simp only [go_sem]
  (try simp (disch := omega) only [wrapI])
  repeat first | intro _ | refine ⟨(by omega), ?_⟩ | refine ⟨⟨by omega, by omega⟩, ?_⟩
  refine hK _ ?_
  clear hK K
  repeat refine awp_seq ?_
  refine awp_reg (by kernel_rfl) fun K hK => ?_
  simp only [go_sem]
  (try simp (disch := omega) only [wrapI])
  refine xcall_eq (isGame_ok r g) rfl (by simp only [go_sem, i64, ints]) (by simp only [go_sem, i64, ints]) (by first | exact .inl rfl | exact .inr rfl) ?_
  (try simp only [go_sem])
  (try simp (disch := omega) only [wrapI])
  repeat first | intro _ | refine ⟨(by omega), ?_⟩ | refine ⟨⟨by omega, by omega⟩, ?_⟩
  refine hK _ ?_
  clear hK K
  refine awp_ret ?_
  simp only [go_sem]
theorem indexG_ok (p : Game → Bool) (f : Nat) (caps : List RV) (l : List Game) (h : ∀ x ∈ l, ACalls Try.prog f (.ag (gameC x) :: caps) (.bo (p x))) : ACalls Try.prog 63 [games l, .fn f caps] (i64 (indexF p l)) := by
  refine acalls_st (rs := [i64 (indexF p l)]) [.tmp 4] Try.func63 rfl (by kernel_rfl) Try.ntmps63 rfl (by simp) rfl fun C vs => ?_
  repeat refine awp_seq ?_
  refine awp_reg (by kernel_rfl) fun K hK => ?_
  simp only [go_sem]
  (try simp (disch := omega) only [wrapI])
  repeat first | intro _ | refine ⟨(by omega), ?_⟩ | refine ⟨⟨by omega, by omega⟩, ?_⟩
  refine hK _ ?_
  clear hK K
  repeat refine awp_seq ?_
  refine awp_reg (by kernel_rfl) fun K hK => ?_
  simp only [go_sem]
  (try simp (disch := omega) only [wrapI])
  intro hl
  repeat first | intro _ | refine ⟨(by omega), ?_⟩ | refine ⟨⟨by omega, by omega⟩, ?_⟩
  refine hK _ ?_
  clear hK K
  repeat refine awp_seq ?_
  refine awp_block ?_
  refine awp_upto (n := 19) l.length (fun i vs => [(0, .r (games l)), (1, .r (.fn f caps)), (7, .r (i64 l.length)), (8, .r (i64 i))]) (fun _ => [])
    (fun i => indexF p l = if indexF p (l.drop i) < 0 then -1 else i + indexF p (l.drop i)) 0 (fit_of [] ?_ rfl) (Nat.zero_le _) ?_ ?_
  · try simp only [go_sem]
  · simp only [List.drop_zero]
    have := indexF_ge p l
    split
    · omega
    · simp
  · intro i vs hi hI
    repeat refine awp_seq ?_
    refine awp_reg (by kernel_rfl) fun K hK => ?_
    simp only [go_sem]
    (try simp (disch := omega) only [wrapI])
    repeat first | intro _ | refine ⟨(by omega), ?_⟩ | refine ⟨⟨by omega, by omega⟩, ?_⟩
    refine hK _ ?_
    clear hK K
    repeat refine awp_seq ?_
    refine awp_cond rfl (fun hc => ?_) (fun hc => ?_) <;> (try simp only [go_sem] at hc)
    · obtain ⟨x, hx⟩ := opt_of_lt hc
      rw [drop_of_opt hx] at hI
      refine awp_skip ?_
      repeat refine awp_seq ?_
      refine awp_block ?_
      repeat refine awp_seq ?_
      refine awp_reg (by kernel_rfl) fun K hK => ?_
      simp only [go_sem]
      (try simp (disch := omega) only [wrapI])
      repeat first | intro _ | refine ⟨(by omega), ?_⟩ | refine ⟨⟨by omega, by omega⟩, ?_⟩
      refine hK _ ?_
      clear hK K
      repeat refine awp_seq ?_
      refine awp_reg (by kernel_rfl) fun K hK => ?_
      simp only [go_sem, hx, hc]
      (try simp (disch := omega) only [wrapI])
      refine xcall_eq (h x (mem_of_opt hx)) rfl (by simp only [go_sem, i64, ints]) (by simp only [go_sem, i64, ints]) (by first | exact .inl rfl | exact .inr rfl) ?_
      (try simp only [go_sem])
      (try simp (disch := omega) only [wrapI])
      repeat first | intro _ | refine ⟨(by omega), ?_⟩ | refine ⟨⟨by omega, by omega⟩, ?_⟩
      refine hK _ ?_
      clear hK K
      repeat refine awp_seq ?_
      refine awp_cond rfl (fun hc => ?_) (fun hc => ?_) <;> (try simp only [go_sem] at hc)
      · repeat refine awp_seq ?_
        refine awp_reg (by kernel_rfl) fun K hK => ?_
        simp only [go_sem]
        (try simp (disch := omega) only [wrapI])
        repeat first | intro _ | refine ⟨(by omega), ?_⟩ | refine ⟨⟨by omega, by omega⟩, ?_⟩
        refine hK _ ?_
        clear hK K
        refine awp_ret ?_
        simp only [go_sem]
        simp [hI, indexF, hc]
      · refine awp_skip ?_
        try simp only [go_sem]
        repeat refine awp_seq ?_
        refine awp_reg (by kernel_rfl) fun K hK => ?_
        simp only [go_sem]
        (try simp (disch := omega) only [wrapI])
        repeat first | intro _ | refine ⟨(by omega), ?_⟩ | refine ⟨⟨by omega, by omega⟩, ?_⟩
        refine hK _ ?_
        clear hK K
        try simp only [go_sem]
        refine ⟨‹_›, ?_, fit_of [] ?_ rfl⟩
        · rw [hI]
          simp only [indexF, hc, Bool.false_eq_true, if_false]
          have := indexF_ge p (l.drop (i + 1))
          (repeat' split) <;> omega
        · try simp only [go_sem]
    · refine awp_exit ?_
      simp only [go_sem]
      repeat refine awp_seq ?_
      refine awp_reg (by kernel_rfl) fun K hK => ?_
      simp only [go_sem]
      (try simp (disch := omega) only [wrapI])
      repeat first | intro _ | refine ⟨(by omega), ?_⟩ | refine ⟨⟨by omega, by omega⟩, ?_⟩
      refine hK _ ?_
      clear hK K
      refine awp_ret ?_
      simp only [go_sem]
      have : l.drop i = [] := List.drop_eq_nil_of_le (by omega)
      simp [hI, this, indexF]
theorem containsG_ok (p : Game → Bool) (f : Nat) (caps : List RV) (l : List Game) (h : ∀ x ∈ l, ACalls Try.prog f (.ag (gameC x) :: caps) (.bo (p x))) : ACalls Try.prog 39 [games l, .fn f caps] (.bo (l.any p)) := by
  refine acalls_st (rs := [.bo (l.any p)]) [.tmp 4] Try.func39 rfl (by kernel_rfl) Try.ntmps39 rfl (by simp) rfl fun C vs => ?_
  repeat refine awp_seq ?_
  refine awp_reg (by kernel_rfl) fun K hK => ?_
  simp only [go_sem]
  (try simp (disch := omega) only [wrapI])
  repeat first | intro _ | refine ⟨(by omega), ?_⟩ | refine ⟨⟨by omega, by omega⟩, ?_⟩
  refine hK _ ?_
  clear hK K
  repeat refine awp_seq ?_
  refine awp_reg (by kernel_rfl) fun K hK => ?_
  simp only [go_sem]
  (try simp (disch := omega) only [wrapI])
  refine xcall_eq (indexG_ok p f caps l h) rfl (by simp only [go_sem, i64, ints]) (by simp only [go_sem, i64, ints]) (by first | exact .inl rfl | exact .inr rfl) ?_
  (try simp only [go_sem])
  (try simp (disch := omega) only [wrapI])
  repeat first | intro _ | refine ⟨(by omega), ?_⟩ | refine ⟨⟨by omega, by omega⟩, ?_⟩
  refine hK _ ?_
  clear hK K
  refine awp_ret ?_
  simp only [go_sem]
  rw [← indexF_any]
/-- The rules are valid. -/
def rulesB (r : Rules) : Bool := withinL 1 16 [r.squad] && withinL 1 20 [(r.gs.length : Int), r.most] && r.gs.all (isGameB r.squad) && withinL 0 99 [r.bonus]
def errC (b : Bool) : Int := if b then 0 else 2
theorem check_ok (r : Rules) : ACalls Try.prog 20 [.ag (rulesC r)] (i64 (errC (rulesB r))) := by
  refine acalls_st (rs := [i64 (errC (rulesB r))]) [.tmp 2] Try.func20 rfl (by kernel_rfl) Try.ntmps20 rfl (by simp) rfl fun C vs => ?_
  repeat refine awp_seq ?_
  refine awp_reg (by kernel_rfl) fun K hK => ?_
  simp only [go_sem]
  (try simp (disch := omega) only [wrapI])
  repeat first | intro _ | refine ⟨(by omega), ?_⟩ | refine ⟨⟨by omega, by omega⟩, ?_⟩
  refine hK _ ?_
  clear hK K
  repeat refine awp_seq ?_
  refine awp_reg (by kernel_rfl) fun K hK => ?_
  simp only [go_sem]
  (try simp (disch := omega) only [wrapI])
  repeat first | intro _ | refine ⟨(by omega), ?_⟩ | refine ⟨⟨by omega, by omega⟩, ?_⟩
  refine hK _ ?_
  clear hK K
  repeat refine awp_seq ?_
  refine awp_reg (by kernel_rfl) fun K hK => ?_
  simp only [go_sem]
  (try simp (disch := omega) only [wrapI])
  refine xcall_eq (within_ok 1 16 [r.squad]) rfl (by simp only [go_sem, i64, ints]) (by simp only [go_sem, i64, ints]) (by first | exact .inl rfl | exact .inr rfl) ?_
  (try simp only [go_sem])
  (try simp (disch := omega) only [wrapI])
  cases h1 : withinL 1 16 [r.squad]
  · try simp only [go_sem]
    repeat first | intro _ | refine ⟨(by omega), ?_⟩ | refine ⟨⟨by omega, by omega⟩, ?_⟩
    refine hK _ ?_
    clear hK K
    repeat refine awp_seq ?_
    refine awp_cond rfl (fun hc => ?_) (fun hc => ?_) <;> (try simp only [go_sem] at hc)
    repeat refine awp_seq ?_
    refine awp_reg (by kernel_rfl) fun K hK => ?_
    simp only [go_sem]
    (try simp (disch := omega) only [wrapI])
    repeat first | intro _ | refine ⟨(by omega), ?_⟩ | refine ⟨⟨by omega, by omega⟩, ?_⟩
    refine hK _ ?_
    clear hK K
    refine awp_ret ?_
    simp only [go_sem]
    simp [rulesB, errC, h1]
  try simp only [go_sem]
  intro hlen
  refine xcall_eq (within_ok 1 20 [(r.gs.length : Int), r.most]) rfl (by simp only [go_sem, i64, ints]) (by simp only [go_sem, i64, ints]) (by first | exact .inl rfl | exact .inr rfl) ?_
  (try simp only [go_sem])
  (try simp (disch := omega) only [wrapI])
  cases h2 : withinL 1 20 [(r.gs.length : Int), r.most]
  · try simp only [go_sem]
    repeat first | intro _ | refine ⟨(by omega), ?_⟩ | refine ⟨⟨by omega, by omega⟩, ?_⟩
    refine hK _ ?_
    clear hK K
    repeat refine awp_seq ?_
    refine awp_cond rfl (fun hc => ?_) (fun hc => ?_) <;> (try simp only [go_sem] at hc)
    repeat refine awp_seq ?_
    refine awp_reg (by kernel_rfl) fun K hK => ?_
    simp only [go_sem]
    (try simp (disch := omega) only [wrapI])
    repeat first | intro _ | refine ⟨(by omega), ?_⟩ | refine ⟨⟨by omega, by omega⟩, ?_⟩
    refine hK _ ?_
    clear hK K
    refine awp_ret ?_
    simp only [go_sem]
    simp [rulesB, errC, h1, h2]
  try simp only [go_sem]
  refine xcall_eq (containsG_ok (fun g => !isGameB r.squad g) 37 [.rp (rulesC r)] r.gs fun g _ => check1_ok r g) rfl (by simp only [go_sem, i64, ints]) (by simp only [go_sem, i64, ints]) (by first | exact .inl rfl | exact .inr rfl) ?_
  (try simp only [go_sem])
  (try simp (disch := omega) only [wrapI])
  have e3 : (r.gs.any fun g => !isGameB r.squad g) = !(r.gs.all (isGameB r.squad)) := by simp [List.any_eq_not_all_not]
  rw [e3]
  cases h3 : r.gs.all (isGameB r.squad)
  · try simp only [go_sem]
    repeat first | intro _ | refine ⟨(by omega), ?_⟩ | refine ⟨⟨by omega, by omega⟩, ?_⟩
    refine hK _ ?_
    clear hK K
    repeat refine awp_seq ?_
    refine awp_cond rfl (fun hc => ?_) (fun hc => ?_) <;> (try simp only [go_sem] at hc)
    repeat refine awp_seq ?_
    refine awp_reg (by kernel_rfl) fun K hK => ?_
    simp only [go_sem]
    (try simp (disch := omega) only [wrapI])
    repeat first | intro _ | refine ⟨(by omega), ?_⟩ | refine ⟨⟨by omega, by omega⟩, ?_⟩
    refine hK _ ?_
    clear hK K
    refine awp_ret ?_
    simp only [go_sem]
    simp [rulesB, errC, h1, h2, h3]
  try simp only [go_sem]
  refine xcall_eq (within_ok 0 99 [r.bonus]) rfl (by simp only [go_sem, i64, ints]) (by simp only [go_sem, i64, ints]) (by first | exact .inl rfl | exact .inr rfl) ?_
  (try simp only [go_sem])
  (try simp (disch := omega) only [wrapI])
  cases h4 : withinL 0 99 [r.bonus]
  · try simp only [go_sem]
    repeat first | intro _ | refine ⟨(by omega), ?_⟩ | refine ⟨⟨by omega, by omega⟩, ?_⟩
    refine hK _ ?_
    clear hK K
    repeat refine awp_seq ?_
    refine awp_cond rfl (fun hc => ?_) (fun hc => ?_) <;> (try simp only [go_sem] at hc)
    repeat refine awp_seq ?_
    refine awp_reg (by kernel_rfl) fun K hK => ?_
    simp only [go_sem]
    (try simp (disch := omega) only [wrapI])
    repeat first | intro _ | refine ⟨(by omega), ?_⟩ | refine ⟨⟨by omega, by omega⟩, ?_⟩
    refine hK _ ?_
    clear hK K
    refine awp_ret ?_
    simp only [go_sem]
    simp [rulesB, errC, h1, h2, h3, h4]
  try simp only [go_sem]
  repeat first | intro _ | refine ⟨(by omega), ?_⟩ | refine ⟨⟨by omega, by omega⟩, ?_⟩
  refine hK _ ?_
  clear hK K
  repeat refine awp_seq ?_
  refine awp_cond rfl (fun hc => ?_) (fun hc => ?_) <;> (try simp only [go_sem] at hc)
  refine awp_skip ?_
  try simp only [go_sem]
  repeat refine awp_seq ?_
  refine awp_reg (by kernel_rfl) fun K hK => ?_
  simp only [go_sem]
  (try simp (disch := omega) only [wrapI])
  repeat first | intro _ | refine ⟨(by omega), ?_⟩ | refine ⟨⟨by omega, by omega⟩, ?_⟩
  refine hK _ ?_
  clear hK K
  refine awp_ret ?_
  simp only [go_sem]
  simp [rulesB, errC, h1, h2, h3, h4]
/-! ### The document's test -/
theorem min2 {s : Int} {g : Game} : isGameB s g = (withinL 1 2 [g.pl] && !decide (g.pl > s) && withinL 1 15 [g.lg] && withinL 0 99 [g.pt]) := by
  unfold isGameB
  congr 2
  simp only [withinL, List.all_cons, List.all_nil, Bool.and_true]
  rw [Bool.eq_iff_iff]
  simp only [Bool.and_eq_true, decide_eq_true_eq, Bool.not_eq_true', decide_eq_false_iff_not]
  omega
theorem withinL_pair (x y a b : Int) : withinL x y [a, b] = (withinL x y [a] && withinL x y [b]) := by simp [withinL]
theorem sum_le (b : Int) : ∀ l : List Int, (∀ x ∈ l, 0 ≤ x ∧ x ≤ b) → 0 ≤ l.sum ∧ l.sum ≤ b * l.length
  | [], _ => by simp
  | x :: l, h => by
    have h1 := h x (by simp)
    have h2 := sum_le b l fun y hy => h y (by simp [hy])
    simp only [List.sum_cons, List.length_cons, Int.natCast_add, Int.mul_add]
    omega
theorem withinL_one {a b n : Int} (h : withinL a b [n] = true) : a ≤ n ∧ n ≤ b := by simpa [withinL] using h
theorem withinL_mem {a b : Int} {l : List Int} (h : withinL a b l = true) : ∀ x ∈ l, a ≤ x ∧ x ≤ b := fun x hx => by
  have := List.all_eq_true.1 h x hx
  simpa using this
theorem rulesB_facts {r : Rules} (h : rulesB r = true) : (1 ≤ r.squad ∧ r.squad ≤ 16) ∧ (1 ≤ r.gs.length ∧ r.gs.length ≤ 20) ∧ (1 ≤ r.most ∧ r.most ≤ 20) ∧ (∀ g ∈ r.gs, (1 ≤ g.pl ∧ g.pl ≤ 2 ∧ g.pl ≤ r.squad) ∧ (1 ≤ g.lg ∧ g.lg ≤ 15) ∧ 0 ≤ g.pt ∧ g.pt ≤ 99) ∧ 0 ≤ r.bonus ∧ r.bonus ≤ 99 := by
  simp only [rulesB, Bool.and_eq_true] at h
  obtain ⟨⟨⟨h1, h2⟩, h3⟩, h4⟩ := h
  have g2 := withinL_mem h2
  have ga := g2 (r.gs.length : Int) (by simp)
  have gb := g2 r.most (by simp)
  refine ⟨withinL_one h1, ⟨by omega, by omega⟩, gb, fun g hg => ?_, withinL_one h4⟩
  have := List.all_eq_true.1 h3 g hg
  simp only [isGameB, Bool.and_eq_true] at this
  obtain ⟨⟨a1, a2⟩, a3⟩ := this
  have b1 := withinL_one a1
  exact ⟨⟨b1.1, by omega, by omega⟩, withinL_one a2, withinL_one a3⟩
theorem erase_map {α β : Type} (f : α → β) (L : List α) (j : Nat) : (L.map f).eraseIdx j = (L.eraseIdx j).map f := by
  rw [List.eraseIdx_eq_take_drop_succ, List.eraseIdx_eq_take_drop_succ, List.map_append, List.map_take, List.map_drop]
end Go.Proofs.Ytaniakoadbkadaa

/- The first round of a knock-out, by the program and by the document. -/
namespace Go.Proofs.Ytaniakoadbkadaa
open Go Go.Oc
set_option linter.unusedSimpArgs false
set_option linter.unusedVariables false
set_option maxRecDepth 8000
def halfOf (m : Nat) : Nat := 2 ^ Nat.log2 (m - 1)
theorem half_eq {m j : Nat} (h1 : 2 ^ j < m) (h2 : m ≤ 2 * 2 ^ j) : 2 ^ j = halfOf m := by
  have h3 : m - 1 ≠ 0 := by have := Nat.pow_pos (a := 2) (n := j) (by omega); omega
  have : Nat.log2 (m - 1) = j := (Nat.log2_eq_iff h3).2 ⟨by omega, by rw [Nat.pow_succ]; omega⟩
  rw [halfOf, this]
def pairAt (m h i : Nat) : Int × Int := (i, if m ≤ 2 * h - 1 - i then -1 else ((2 * h - 1 - i : Nat) : Int))
def pairsUp (m h n : Nat) : List (Int × Int) := (List.range n).map (pairAt m h)
abbrev pairC (p : Int × Int) : List RV := [i64 p.1, i64 p.2]
abbrev pairs (l : List (Int × Int)) : RV := .sl 2 (l.map pairC)
theorem pairsUp_succ (m h n : Nat) : pairsUp m h (n + 1) = pairsUp m h n ++ [pairAt m h n] := by simp [pairsUp, List.range_succ]
theorem pairsUp_length (m h n : Nat) : (pairsUp m h n).length = n := by simp [pairsUp]
/-- The round, with the error. -/
def knockL (m : Int) : List (Int × Int) × Int := if withinL 2 64 [m] = false then ([], 3) else (pairsUp m.toNat (halfOf m.toNat) (halfOf m.toNat), 0)
theorem knock_ok (m : Int) : ACalls Try.prog 11 [i64 m] (.tu [pairs (knockL m).1, i64 (knockL m).2]) := by
  refine acalls_st (rs := [pairs (knockL m).1, i64 (knockL m).2]) [.tmp 2, .tmp 3] Try.func11 rfl (by kernel_rfl) Try.ntmps11 rfl (by simp) rfl fun C vs => ?_
  repeat refine awp_seq ?_
  refine awp_reg (by kernel_rfl) fun K hK => ?_
  simp only [go_sem]
  (try simp (disch := omega) only [wrapI])
  repeat first | intro _ | refine ⟨(by omega), ?_⟩ | refine ⟨⟨by omega, by omega⟩, ?_⟩
  refine hK _ ?_
  clear hK K
  repeat refine awp_seq ?_
  refine awp_reg (by kernel_rfl) fun K hK => ?_
  simp only [go_sem]
  (try simp (disch := omega) only [wrapI])
  refine xcall_eq (within_ok 2 64 [m]) rfl (by simp only [go_sem, i64, ints]) (by simp only [go_sem, i64, ints]) (by first | exact .inl rfl | exact .inr rfl) ?_
  (try simp only [go_sem])
  (try simp (disch := omega) only [wrapI])
  repeat first | intro _ | refine ⟨(by omega), ?_⟩ | refine ⟨⟨by omega, by omega⟩, ?_⟩
  refine hK _ ?_
  clear hK K
  cases h1 : withinL 2 64 [m]
  · repeat refine awp_seq ?_
    refine awp_cond rfl (fun hc => ?_) (fun hc => ?_) <;> (try simp only [go_sem] at hc)
    repeat refine awp_seq ?_
    refine awp_reg (by kernel_rfl) fun K hK => ?_
    simp only [go_sem]
    (try simp (disch := omega) only [wrapI])
    repeat first | intro _ | refine ⟨(by omega), ?_⟩ | refine ⟨⟨by omega, by omega⟩, ?_⟩
    refine hK _ ?_
    clear hK K
    refine awp_ret ?_
    simp only [go_sem]
    simp [knockL, h1]
  repeat refine awp_seq ?_
  refine awp_cond rfl (fun hc => ?_) (fun hc => ?_) <;> (try simp only [go_sem] at hc)
  refine awp_skip ?_
  try simp only [go_sem]
  have e : knockL m = (pairsUp m.toNat (halfOf m.toNat) (halfOf m.toNat), 0) := by simp [knockL, h1]
  rw [e]
  have g1 := withinL_one h1
  obtain ⟨m, rfl⟩ := Int.eq_ofNat_of_zero_le (show 0 ≤ m by omega)
  rw [Int.toNat_natCast]
  repeat refine awp_seq ?_
  refine awp_reg (by kernel_rfl) fun K hK => ?_
  simp only [go_sem]
  (try simp (disch := omega) only [wrapI])
  repeat first | intro _ | refine ⟨(by omega), ?_⟩ | refine ⟨⟨by omega, by omega⟩, ?_⟩
  refine hK _ ?_
  clear hK K
  repeat refine awp_seq ?_
  refine awp_block ?_
  refine awp_while (n := 39) (fun (j : Nat) vs => [(0, .r (i64 m)), (2, .r .ns), (4, .r (i64 ((2 ^ j : Nat) : Int)))]) (fun _ => []) (fun j => 2 ^ j < m) (fun j => m - 2 ^ j) 0 (fit_of [] ?_ rfl) ?_ ?_
  · try simp only [go_sem]
    simp
  · simp; omega
  · intro j vs hj
    have hp : 0 < 2 ^ j := Nat.pow_pos (by omega)
    have hs : 2 ^ (j + 1) = 2 ^ j * 2 := Nat.pow_succ 2 j
    generalize hh : 2 ^ j = h at *
    repeat refine awp_seq ?_
    refine awp_reg (by kernel_rfl) fun K hK => ?_
    simp only [go_sem]
    (try simp (disch := omega) only [wrapI])
    repeat first | intro _ | refine ⟨(by omega), ?_⟩ | refine ⟨⟨by omega, by omega⟩, ?_⟩
    refine hK _ ?_
    clear hK K
    repeat refine awp_seq ?_
    refine awp_cond rfl (fun hc => ?_) (fun hc => ?_) <;> (try simp only [go_sem] at hc)
    · refine awp_skip ?_
      repeat refine awp_seq ?_
      refine awp_block ?_
      repeat refine awp_seq ?_
      refine awp_reg (by kernel_rfl) fun K hK => ?_
      simp only [go_sem]
      (try simp (disch := omega) only [wrapI])
      repeat first | intro _ | refine ⟨(by omega), ?_⟩ | refine ⟨⟨by omega, by omega⟩, ?_⟩
      refine hK _ ?_
      clear hK K
      try simp only [go_sem]
      refine ⟨j + 1, by omega, by omega, fit_of [] ?_ rfl⟩
      try simp only [go_sem]
      omega
    · have hhf : h = halfOf m := by rw [← hh]; exact half_eq (by omega) (by omega)
      rw [← hhf]
      refine awp_exit ?_
      simp only [go_sem]
      repeat refine awp_seq ?_
      refine awp_reg (by kernel_rfl) fun K hK => ?_
      simp only [go_sem]
      (try simp (disch := omega) only [wrapI])
      repeat first | intro _ | refine ⟨(by omega), ?_⟩ | refine ⟨⟨by omega, by omega⟩, ?_⟩
      refine hK _ ?_
      clear hK K
      repeat refine awp_seq ?_
      refine awp_block ?_
      refine awp_sub (sub_own 2 36 28 2 (by omega) rfl) ?_
      refine awp_upto (n := 39) h (fun i vs => [(0, .r (i64 m)), (2, .os 36 (vs 36) 2 0 i), (4, .r (i64 h)), (17, .r (i64 h)), (18, .r (i64 i))]) (fun i => [(36, .arr 28 2 ((pairsUp m h i).map pairC))])
        (fun _ => True) 0 (fit_of [] ?_ ?_) (Nat.zero_le _) trivial ?_
      · try simp only [go_sem]
      · try simp only [go_sem]
        rfl
      · intro i vs hi _
        repeat refine awp_seq ?_
        refine awp_reg (by kernel_rfl) fun K hK => ?_
        simp only [go_sem]
        (try simp (disch := omega) only [wrapI])
        repeat first | intro _ | refine ⟨(by omega), ?_⟩ | refine ⟨⟨by omega, by omega⟩, ?_⟩
        refine hK _ ?_
        clear hK K
        repeat refine awp_seq ?_
        refine awp_cond rfl (fun hc => ?_) (fun hc => ?_) <;> (try simp only [go_sem] at hc)
        · have hci := hc
          refine awp_skip ?_
          repeat refine awp_seq ?_
          refine awp_block ?_
          repeat refine awp_seq ?_
          refine awp_reg (by kernel_rfl) fun K hK => ?_
          simp only [go_sem]
          (try simp (disch := omega) only [wrapI])
          repeat first | intro _ | refine ⟨(by omega), ?_⟩ | refine ⟨⟨by omega, by omega⟩, ?_⟩
          refine hK _ ?_
          clear hK K
          repeat refine awp_seq ?_
          refine awp_reg (by kernel_rfl) fun K hK => ?_
          simp only [go_sem]
          (try simp (disch := omega) only [wrapI])
          repeat first | intro _ | refine ⟨(by omega), ?_⟩ | refine ⟨⟨by omega, by omega⟩, ?_⟩
          refine hK _ ?_
          clear hK K
          repeat refine awp_seq ?_
          refine awp_reg (by kernel_rfl) fun K hK => ?_
          simp only [go_sem]
          (try simp (disch := omega) only [wrapI])
          repeat first | intro _ | refine ⟨(by omega), ?_⟩ | refine ⟨⟨by omega, by omega⟩, ?_⟩
          refine hK _ ?_
          clear hK K
          by_cases hge : (m : Int) ≤ 2 * (h : Int) - 1 - (i : Int)
          · have hpa : pairAt m h i = ((i : Int), -1) := by
              have : m ≤ 2 * h - 1 - i := by omega
              simp [pairAt, this]
            simp only [hge, go_sem]
            repeat refine awp_seq ?_
            refine awp_cond rfl (fun hc => ?_) (fun hc => ?_) <;> (try simp only [go_sem] at hc)
            repeat refine awp_seq ?_
            refine awp_reg (by kernel_rfl) fun K hK => ?_
            simp only [go_sem]
            (try simp (disch := omega) only [wrapI])
            repeat first | intro _ | refine ⟨(by omega), ?_⟩ | refine ⟨⟨by omega, by omega⟩, ?_⟩
            refine hK _ ?_
            clear hK K
            try simp only [go_sem]
            repeat refine awp_seq ?_
            refine awp_reg (by kernel_rfl) fun K hK => ?_
            simp only [go_sem, pairsUp_length]
            (try simp (disch := omega) only [wrapI])
            refine ⟨⟨by omega, by omega⟩, ?_⟩
            repeat first | intro _ | refine ⟨(by omega), ?_⟩ | refine ⟨⟨by omega, by omega⟩, ?_⟩
            refine hK _ ?_
            clear hK K
            try simp only [go_sem]
            repeat refine awp_seq ?_
            refine awp_reg (by kernel_rfl) fun K hK => ?_
            simp only [go_sem]
            (try simp (disch := omega) only [wrapI])
            repeat first | intro _ | refine ⟨(by omega), ?_⟩ | refine ⟨⟨by omega, by omega⟩, ?_⟩
            refine hK _ ?_
            clear hK K
            try simp only [go_sem]
            refine ⟨hci, fit_of [6] ?_ ?_⟩
            · try simp only [go_sem]
            · try simp only [go_sem]
              simp [killC, delc, pairsUp_succ, hpa]
          · have hpa : pairAt m h i = ((i : Int), 2 * (h : Int) - 1 - (i : Int)) := by
              have h4 : ¬ m ≤ 2 * h - 1 - i := by omega
              have h5 : ((2 * h - 1 - i : Nat) : Int) = 2 * (h : Int) - 1 - (i : Int) := by omega
              simp only [pairAt, h4, if_false, h5]
            simp only [hge, go_sem]
            repeat refine awp_seq ?_
            refine awp_cond rfl (fun hc => ?_) (fun hc => ?_) <;> (try simp only [go_sem] at hc)
            refine awp_skip ?_
            try simp only [go_sem]
            repeat refine awp_seq ?_
            refine awp_reg (by kernel_rfl) fun K hK => ?_
            simp only [go_sem, pairsUp_length]
            (try simp (disch := omega) only [wrapI])
            refine ⟨⟨by omega, by omega⟩, ?_⟩
            repeat first | intro _ | refine ⟨(by omega), ?_⟩ | refine ⟨⟨by omega, by omega⟩, ?_⟩
            refine hK _ ?_
            clear hK K
            try simp only [go_sem]
            repeat refine awp_seq ?_
            refine awp_reg (by kernel_rfl) fun K hK => ?_
            simp only [go_sem]
            (try simp (disch := omega) only [wrapI])
            repeat first | intro _ | refine ⟨(by omega), ?_⟩ | refine ⟨⟨by omega, by omega⟩, ?_⟩
            refine hK _ ?_
            clear hK K
            try simp only [go_sem]
            refine ⟨hci, fit_of [6] ?_ ?_⟩
            · try simp only [go_sem]
            · try simp only [go_sem]
              simp [killC, delc, pairsUp_succ, hpa]
        · have : i = h := by omega
          subst this
          refine awp_exit ?_
          simp only [go_sem]
          repeat refine awp_seq ?_
          refine awp_reg (by kernel_rfl) fun K hK => ?_
          simp only [go_sem]
          (try simp (disch := omega) only [wrapI])
          repeat first | intro _ | refine ⟨(by omega), ?_⟩ | refine ⟨⟨by omega, by omega⟩, ?_⟩
          refine hK _ ?_
          clear hK K
          refine awp_ret ?_
          simp only [go_sem]
          exact ⟨by rw [pairsUp_length]; exact Nat.le_refl _, List.take_of_length_le (by rw [List.length_map, pairsUp_length]; exact Nat.le_refl _)⟩
end Go.Proofs.Ytaniakoadbkadaa

/- Who goes out when, and what the places are worth. -/
namespace Go.Proofs.Ytaniakoadbkadaa
open Go Go.Oc
set_option linter.unusedSimpArgs false
set_option linter.unusedVariables false
set_option maxRecDepth 8000
abbrev shK : List Int := [400, 200, 100, 100, 50, 50, 50, 50]
def outU (m h i : Nat) : List Int := ((List.range i).filter fun k => decide (2 * h - 1 - k < m)).map fun (k : Nat) => ((2 * h - 1 - k : Nat) : Int)
def outL (m : Nat) : List Int := outU m (halfOf m) (halfOf m)
def stK (n : Nat) : Nat → Nat × List (List Int)
  | 0 => (n, [])
  | j + 1 => (halfOf (stK n j).1, outL (stK n j).1 :: (stK n j).2)
def lastS (ps : List (List Int)) (g : Nat) : Int := if g = 0 then 400 else shK.getD ((ps.getD (g - 1) []).getD 0 0).toNat 0
def okG (k : Nat) : List (List Int) → Bool
  | [] => true
  | g :: ps => decide (g ≠ []) && (List.range g.length).all (fun i => decide (shK.getD (k + i) 0 = shK.getD k 0)) && okG (k + g.length) ps
def tagG (k : Nat) : List (List Int) → List (Int × Int)
  | [] => []
  | g :: ps => g.map (fun p => (p, shK.getD k 0)) ++ tagG (k + g.length) ps
def shN (n : Nat) : List Int := (List.range n).map fun i => shK.getD i 0
def goodK (n : Nat) (ps : List (List Int)) : Bool :=
  decide (ps.length ≤ 60) && decide (ps.flatten.length ≤ 60) && decide ps.flatten.Nodup && ps.flatten.all (fun p => decide (0 ≤ p) && decide (p < (n : Int))) && okG 0 ps
  && decide ((List.range n).map (fun (p : Nat) => valM (tagG 0 ps) p) = shN n) && decide ((tagG 0 ps).map (·.2) = shN n) && decide ((shN n).sum ≤ 1000)
  && (List.range ps.length).all (fun g => (ps.getD g []).all fun p => decide (shK.getD p.toNat 0 ≤ lastS ps g) && decide (shK.getD p.toNat 0 = shK.getD ((ps.getD g []).getD 0 0).toNat 0))
theorem allGood : ((List.range 41).all fun n => decide (n < 2) || (List.range 7).all fun j => decide (1 < (stK n j).1) || !((List.range j).all fun i => decide (1 < (stK n i).1)) || goodK n ([0] :: (stK n j).2)) = true := by decide +kernel
theorem end6 : ((List.range 41).all fun n => decide ((stK n 6).1 ≤ 1)) = true := by decide +kernel
theorem good_at {n j : Nat} (h1 : 2 ≤ n) (h2 : n ≤ 40) (hj : (stK n j).1 ≤ 1) (hb : ∀ i, i < j → 1 < (stK n i).1) : goodK n ([0] :: (stK n j).2) = true := by
  have hj7 : j < 7 := by
    by_cases h : j < 7
    · exact h
    · have a1 := List.all_eq_true.1 end6 n (List.mem_range.2 (by omega))
      have a2 := hb 6 (by omega)
      simp only [decide_eq_true_eq] at a1
      omega
  have a := List.all_eq_true.1 allGood n (List.mem_range.2 (by omega))
  simp only [Bool.or_eq_true, decide_eq_true_eq] at a
  rcases a with a | a
  · omega
  have b := List.all_eq_true.1 a j (List.mem_range.2 hj7)
  simp only [Bool.or_eq_true, decide_eq_true_eq] at b
  rcases b with (b | b) | b
  · omega
  · exfalso
    have c : ((List.range j).all fun i => decide (1 < (stK n i).1)) = true := by
      rw [List.all_eq_true]
      intro i hi
      simpa using hb i (List.mem_range.1 hi)
    rw [c] at b
    simp at b
  · exact b
def shv (m s : Int) : Int := m * s / 1000
theorem psum_const {m : Int} {sh : List Int} {k : Nat} {c : Int} : ∀ {n : Nat}, (∀ i, i < n → sh.getD (k + i) 0 = c) → psumL m sh k n = n * shv m c
  | 0, _ => by simp [psumL]
  | n + 1, h => by
    rw [psumL_succ, psum_const fun i hi => h i (by omega), prz, h n (by omega)]
    unfold shv
    rw [Int.natCast_add, Int.add_mul]
    simp
theorem stP_tag (m : Int) : ∀ (ps : List (List Int)) (M : List (Int × Int)) (k : Nat) (c : Int), okG k ps = true →
    ps.foldl (payS m shK) (M, k, c) = (M ++ (tagG k ps).map (fun e => (e.1, shv m e.2)), k + ps.flatten.length, c - ((tagG k ps).map fun e => shv m e.2).sum)
  | [], M, k, c, _ => by simp [tagG]
  | g :: ps, M, k, c, h => by
    simp only [okG, Bool.and_eq_true, decide_eq_true_eq] at h
    obtain ⟨⟨h1, h2⟩, h3⟩ := h
    have hl : (g.length : Int) ≠ 0 := by
      have : g.length ≠ 0 := fun e => h1 (List.eq_nil_of_length_eq_zero e)
      omega
    have hc : psumL m shK k g.length = g.length * shv m (shK.getD k 0) := psum_const fun i hi => by
      simpa using List.all_eq_true.1 h2 i (List.mem_range.2 hi)
    have hd : psumL m shK k g.length / g.length = shv m (shK.getD k 0) := by rw [hc, Int.mul_ediv_cancel_left _ hl]
    have hsum : ∀ (l : List Int) (v : Int), (l.map fun _ => v).sum = v * l.length := by
      intro l v
      induction l with
      | nil => simp
      | cons x l ih => simp only [List.map_cons, List.sum_cons, List.length_cons, ih, Int.natCast_add, Int.mul_add]; simp; omega
    rw [List.foldl_cons, payS]
    simp only
    rw [hd, stP_tag m ps _ _ _ h3]
    have e1 : ((tagG k (g :: ps)).map fun e => shv m e.2).sum = shv m (shK.getD k 0) * g.length + ((tagG (k + g.length) ps).map fun e => shv m e.2).sum := by
      rw [tagG, List.map_append, List.sum_append, List.map_map]
      congr 1
      exact hsum g (shv m (shK.getD k 0))
    rw [e1, tagG]
    simp only [payM, List.map_append, List.map_map, List.append_assoc, List.flatten_cons, List.length_append, Prod.mk.injEq]
    refine ⟨rfl, by omega, by omega⟩
theorem findI_map (f : Int → Int) (p : Int) : ∀ (T : List (Int × Int)) (i : Nat), findI p (T.map fun e => (e.1, f e.2)) i = (findI p T i).map fun x => (x.1, f x.2)
  | [], _ => rfl
  | e :: T, i => by
    simp only [List.map_cons, findI]
    split
    · rfl
    · exact findI_map f p T (i + 1)
theorem valM_map {f : Int → Int} (h0 : f 0 = 0) (T : List (Int × Int)) (p : Int) : valM (T.map fun e => (e.1, f e.2)) p = f (valM T p) := by
  unfold valM
  rw [findI_map]
  cases findI p T 0 with
  | none => exact h0.symm
  | some x => rfl
theorem sum_shv {m : Int} (hm : 0 ≤ m) : ∀ (l : List Int), 1000 * (l.map (shv m)).sum ≤ m * l.sum
  | [] => by simp
  | s :: l => by
    have ih := sum_shv hm l
    have h : 1000 * (m * s / 1000) ≤ m * s := Int.mul_ediv_self_le (by omega)
    have e : shv m s = m * s / 1000 := rfl
    simp only [List.map_cons, List.sum_cons, Int.mul_add, e]
    omega
theorem shv_mono {m a b : Int} (hm : 0 ≤ m) (h : a ≤ b) : shv m a ≤ shv m b := Int.ediv_le_ediv (by omega) (Int.mul_le_mul_of_nonneg_left h hm)
theorem goodK_facts {n : Nat} {ps : List (List Int)} {m : Int} (hn : 2 ≤ n ∧ n ≤ 40) (hm : 0 ≤ m ∧ m ≤ 1000000000) (h : goodK n ps = true) :
    GoodP n shK ps ∧ prizesV m shK n ps = (shN n).map (shv m) ∧ (stP m shK ps).2.2 = m - ((shN n).map (shv m)).sum ∧ 0 ≤ m - ((shN n).map (shv m)).sum
    ∧ ∀ (g : Nat) (x : List Int), ps[g]? = some x → ∀ p : Int, p ∈ x → (0 ≤ p ∧ p < n) ∧ shv m (shK.getD p.toNat 0) ≤ shv m (lastS ps g) ∧ shv m (shK.getD p.toNat 0) = shv m (shK.getD (x.getD 0 0).toNat 0) := by
  simp only [goodK, Bool.and_eq_true, decide_eq_true_eq] at h
  obtain ⟨⟨⟨⟨⟨⟨⟨⟨h1, h2⟩, h3⟩, h4⟩, h5⟩, h6⟩, h7⟩, h8⟩, h9⟩ := h
  have hT := stP_tag m ps [] 0 m h5
  have hrg : ∀ p ∈ ps.flatten, 0 ≤ p ∧ p < n := fun p hp => by
    have := List.all_eq_true.1 h4 p hp
    simpa using this
  have hne : ∀ (ps : List (List Int)) (k : Nat), okG k ps = true → ∀ g ∈ ps, g ≠ [] := by
    intro ps
    induction ps with
    | nil => intro k _ g hg; cases hg
    | cons x ps ih =>
      intro k h g hg
      simp only [okG, Bool.and_eq_true, decide_eq_true_eq] at h
      rcases List.mem_cons.1 hg with rfl | hg
      · exact h.1.1
      · exact ih _ h.2 g hg
  have h71 : (tagG 0 ps).map (fun e => shv m e.2) = (shN n).map (shv m) := by rw [← h7, List.map_map]; rfl
  refine ⟨⟨by omega, by decide, by decide, by decide, h1, h2, h3, hne ps 0 h5, hrg⟩, ?_, ?_, ?_, ?_⟩
  · rw [← h6, List.map_map]
    unfold prizesV stP
    rw [hT, List.nil_append]
    refine List.map_congr_left fun p _ => ?_
    exact valM_map (by simp [shv]) (tagG 0 ps) p
  · unfold stP
    rw [hT]
    simp only
    rw [h71]
  · have hs := sum_shv hm.1 (shN n)
    have : m * (shN n).sum ≤ m * 1000 := Int.mul_le_mul_of_nonneg_left h8 hm.1
    omega
  · intro g x hx p hp
    have hgl : g < ps.length := (List.getElem?_eq_some_iff.1 hx).1
    have hg : ps.getD g [] = x := by rw [List.getD_eq_getElem?_getD, hx]; rfl
    have a := List.all_eq_true.1 h9 g (List.mem_range.2 hgl)
    rw [hg] at a
    have b := List.all_eq_true.1 a p hp
    simp only [Bool.and_eq_true, decide_eq_true_eq] at b
    exact ⟨hrg p (List.mem_flatten.2 ⟨x, mem_of_opt hx, hp⟩), shv_mono hm.1 b.1, by rw [b.2]⟩
theorem outU_snoc (m h i : Nat) : outU m h (i + 1) = if 2 * h - 1 - i < m then outU m h i ++ [((2 * h - 1 - i : Nat) : Int)] else outU m h i := by
  unfold outU
  rw [List.range_succ, List.filter_append]
  by_cases hc : 2 * h - 1 - i < m
  · simp [hc]
  · simp [hc]
theorem outU_len {m h : Nat} (h1 : h < m) (h2 : m ≤ 2 * h) : ∀ i, i ≤ h → (outU m h i).length = i - (2 * h - m)
  | 0, _ => by simp [outU]
  | i + 1, hi => by
    have ih := outU_len h1 h2 i (by omega)
    rw [outU_snoc]
    split
    · rw [List.length_append, ih]; simp; omega
    · rw [ih]; omega
theorem half_lt {m : Nat} (h : 2 ≤ m) : halfOf m < m ∧ m ≤ 2 * halfOf m ∧ 1 ≤ halfOf m := by
  have h0 : m - 1 ≠ 0 := by omega
  have h1 : 2 ^ Nat.log2 (m - 1) ≤ m - 1 := Nat.log2_self_le h0
  have h2 : m - 1 < 2 ^ (Nat.log2 (m - 1) + 1) := Nat.lt_log2_self
  have h3 : 2 ^ (Nat.log2 (m - 1) + 1) = 2 ^ Nat.log2 (m - 1) * 2 := Nat.pow_succ 2 _
  unfold halfOf
  have := Nat.pow_pos (a := 2) (n := Nat.log2 (m - 1)) (by omega)
  omega
theorem knockL_of {m : Nat} (h1 : 2 ≤ m) (h2 : m ≤ 64) : knockL (m : Int) = (pairsUp m (halfOf m) (halfOf m), 0) := by
  have : withinL 2 64 [(m : Int)] = true := by simp [withinL]; omega
  simp [knockL, this]
end Go.Proofs.Ytaniakoadbkadaa
