/- Part 8 of the texts of this claim. -/
import Derived.Test.YtnklbfmdojpfkaaVC7
import Derived.Test.YtnklbfmdojpfkaaVC4
/- Copies and comparisons of lists of lists, large inputs, codes of the document. -/
namespace Go.Proofs.Ytnklbfmdojpfkaa
open Go Go.Oc
set_option linter.unusedSimpArgs false
set_option linter.unusedVariables false
set_option maxRecDepth 8000
theorem lists_ok (l : List (List Int)) (hl : l.length ≤ 1000) (h : ∀ x ∈ l, x.length ≤ 1000) : ACalls Try.prog 15 [listsR l] (listsR l) := by
  refine acalls_st (rs := [listsR l]) [.tmp 2] Try.func15 rfl (by kernel_rfl) Try.ntmps15 rfl (by simp) rfl fun C vs => ?_
  repeat refine awp_seq ?_
  refine awp_reg (by kernel_rfl) fun K hK => ?_
  simp only [go_sem]
  (try simp (disch := omega) only [wrapI])
  repeat first | intro _ | refine ⟨(by omega), ?_⟩ | refine ⟨⟨by omega, by omega⟩, ?_⟩
  refine hK _ ?_
  clear hK K
  repeat refine awp_seq ?_
  refine awp_reg (by kernel_rfl) fun K hK => ?_
  simp only [go_sem]
  (try simp (disch := omega) only [wrapI])
  repeat first | intro _ | refine ⟨(by omega), ?_⟩ | refine ⟨⟨by omega, by omega⟩, ?_⟩
  refine hK _ ?_
  clear hK K
  repeat refine awp_seq ?_
  refine awp_reg (by kernel_rfl) fun K hK => ?_
  simp only [go_sem]
  (try simp (disch := omega) only [wrapI])
  repeat first | intro _ | refine ⟨(by omega), ?_⟩ | refine ⟨⟨by omega, by omega⟩, ?_⟩
  refine hK _ ?_
  clear hK K
  repeat refine awp_seq ?_
  refine awp_block ?_
  refine awp_sub (sub_own 3 19 34 1 (by omega) rfl) ?_
  refine awp_upto (n := 21) l.length (fun i vs => [(0, .r (listsR l)), (3, .os 19 (vs 19) 1 0 i), (4, .r (i64 i))]) (fun i => [(19, .arr 34 1 ((l.take i).map fun x => [ints x]))])
    (fun _ => True) 0 (fit_of [] ?_ ?_) (Nat.zero_le _) trivial ?_
  · try simp only [go_sem]
  · try simp only [go_sem]
  · intro i vs hi _
    repeat refine awp_seq ?_
    refine awp_reg (by kernel_rfl) fun K hK => ?_
    simp only [go_sem]
    (try simp (disch := omega) only [wrapI])
    intro _
    repeat first | intro _ | refine ⟨(by omega), ?_⟩ | refine ⟨⟨by omega, by omega⟩, ?_⟩
    refine hK _ ?_
    clear hK K
    repeat refine awp_seq ?_
    refine awp_cond rfl (fun hc => ?_) (fun hc => ?_) <;> (try simp only [go_sem] at hc)
    · have hci := hc
      obtain ⟨x, hx⟩ := opt_of_lt hci
      have hmin : min i l.length = i := by omega
      refine awp_skip ?_
      repeat refine awp_seq ?_
      refine awp_block ?_
      repeat refine awp_seq ?_
      refine awp_reg (by kernel_rfl) fun K hK => ?_
      simp only [go_sem, hx, hci]
      (try simp (disch := omega) only [wrapI])
      refine xcall_eq (ints_ok x (by have := h x (mem_of_opt hx); omega)) rfl (by simp only [go_sem, i64, ints]) (by simp only [go_sem, i64, ints]) (by first | exact .inl rfl | exact .inr rfl) ?_
      (try simp only [go_sem])
      (try simp (disch := omega) only [wrapI])
      simp only [hmin, go_sem]
      refine ⟨⟨by omega, by omega⟩, ?_⟩
      repeat first | intro _ | refine ⟨(by omega), ?_⟩ | refine ⟨⟨by omega, by omega⟩, ?_⟩
      refine hK _ ?_
      clear hK K
      try simp only [go_sem]
      repeat refine awp_seq ?_
      refine awp_reg (by kernel_rfl) fun K hK => ?_
      simp only [go_sem]
      (try simp (disch := omega) only [wrapI])
      repeat first | intro _ | refine ⟨(by omega), ?_⟩ | refine ⟨⟨by omega, by omega⟩, ?_⟩
      refine hK _ ?_
      clear hK K
      try simp only [go_sem]
      refine ⟨hci, fit_of [] ?_ ?_⟩
      · try simp only [go_sem]
      · simp only [killC]
        rw [take_of_opt hx]; simp
    · have : i = l.length := by omega
      subst this
      refine awp_exit ?_
      simp only [go_sem]
      repeat refine awp_seq ?_
      refine awp_reg (by kernel_rfl) fun K hK => ?_
      simp only [go_sem]
      (try simp (disch := omega) only [wrapI])
      repeat first | intro _ | refine ⟨(by omega), ?_⟩ | refine ⟨⟨by omega, by omega⟩, ?_⟩
      refine hK _ ?_
      clear hK K
      refine awp_ret ?_
      simp only [go_sem]
      rw [List.take_length, Nat.min_self]
      exact ⟨Nat.le_refl _, List.take_of_length_le (by rw [List.length_map]; exact Nat.le_refl _)⟩
theorem refLists_ok (a b : List (List Int)) : ACalls Try.prog 19 [listsR a, listsR b] (.bo (decide (a = b))) := by
  refine acalls_st (rs := [.bo (decide (a = b))]) [.tmp 4] Try.func19 rfl (by kernel_rfl) Try.ntmps19 rfl (by simp) rfl fun C vs => ?_
  repeat refine awp_seq ?_
  refine awp_reg (by kernel_rfl) fun K hK => ?_
  simp only [go_sem]
  (try simp (disch := omega) only [wrapI])
  repeat first | intro _ | refine ⟨(by omega), ?_⟩ | refine ⟨⟨by omega, by omega⟩, ?_⟩
  refine hK _ ?_
  clear hK K
  repeat refine awp_seq ?_
  refine awp_reg (by kernel_rfl) fun K hK => ?_
  simp only [go_sem]
  (try simp (disch := omega) only [wrapI])
  intro hla _
  by_cases h1 : a.length = b.length
  case neg =>
    have e4 : ((a.length : Int) != b.length) = true := by simp; omega
    rw [e4]
    repeat first | intro _ | refine ⟨(by omega), ?_⟩ | refine ⟨⟨by omega, by omega⟩, ?_⟩
    refine hK _ ?_
    clear hK K
    repeat refine awp_seq ?_
    refine awp_cond rfl (fun hc => ?_) (fun hc => ?_) <;> (try simp only [go_sem] at hc)
    repeat refine awp_seq ?_
    refine awp_reg (by kernel_rfl) fun K hK => ?_
    simp only [go_sem]
    (try simp (disch := omega) only [wrapI])
    repeat first | intro _ | refine ⟨(by omega), ?_⟩ | refine ⟨⟨by omega, by omega⟩, ?_⟩
    refine hK _ ?_
    clear hK K
    refine awp_ret ?_
    simp only [go_sem]
    simp
    exact fun h => h1 (by rw [h])
  have e4 : ((a.length : Int) != b.length) = false := by simp [h1]
  rw [e4]
  repeat first | intro _ | refine ⟨(by omega), ?_⟩ | refine ⟨⟨by omega, by omega⟩, ?_⟩
  refine hK _ ?_
  clear hK K
  repeat refine awp_seq ?_
  refine awp_cond rfl (fun hc => ?_) (fun hc => ?_) <;> (try simp only [go_sem] at hc)
  refine awp_skip ?_
  try simp only [go_sem]
  repeat refine awp_seq ?_
  refine awp_reg (by kernel_rfl) fun K hK => ?_
  simp only [go_sem]
  (try simp (disch := omega) only [wrapI])
  repeat first | intro _ | refine ⟨(by omega), ?_⟩ | refine ⟨⟨by omega, by omega⟩, ?_⟩
  refine hK _ ?_
  clear hK K
  repeat refine awp_seq ?_
  refine awp_block ?_
  refine awp_upto (n := 27) a.length (fun i vs => [(0, .r (listsR a)), (1, .r (listsR b)), (5, .r (i64 i))]) (fun _ => []) (fun i => a.take i = b.take i) 0 (fit_of [] ?_ rfl) (Nat.zero_le _) (by simp) ?_
  · try simp only [go_sem]
  · intro i vs hi hI
    repeat refine awp_seq ?_
    refine awp_reg (by kernel_rfl) fun K hK => ?_
    simp only [go_sem]
    (try simp (disch := omega) only [wrapI])
    intro _
    repeat first | intro _ | refine ⟨(by omega), ?_⟩ | refine ⟨⟨by omega, by omega⟩, ?_⟩
    refine hK _ ?_
    clear hK K
    repeat refine awp_seq ?_
    refine awp_cond rfl (fun hc => ?_) (fun hc => ?_) <;> (try simp only [go_sem] at hc)
    · have hci := hc
      have hc2 : i < b.length := by omega
      obtain ⟨x, hx⟩ := opt_of_lt hci
      obtain ⟨y, hy⟩ := opt_of_lt hc2
      refine awp_skip ?_
      repeat refine awp_seq ?_
      refine awp_block ?_
      repeat refine awp_seq ?_
      refine awp_dreg follows (by decide +kernel) (by kernel_rfl) fun K hK => ?_
      simp only [go_sem, hx, hy, hci, hc2]
      (try simp (disch := omega) only [wrapI])
      refine xcall_eq (refInts_ok x y) rfl (by simp only [go_sem, i64, ints]) (by simp only [go_sem, i64, ints]) (by first | exact .inl rfl | exact .inr rfl) ?_
      (try simp only [go_sem])
      (try simp (disch := omega) only [wrapI])
      repeat first | intro _ | refine ⟨(by omega), ?_⟩ | refine ⟨⟨by omega, by omega⟩, ?_⟩
      refine hK _ ?_
      clear hK K
      by_cases hxy : x = y
      · have e5 : decide (x = y) = true := by simp [hxy]
        rw [e5]
        repeat refine awp_seq ?_
        refine awp_cond rfl (fun hc => ?_) (fun hc => ?_) <;> (try simp only [go_sem] at hc)
        refine awp_skip ?_
        try simp only [go_sem]
        repeat refine awp_seq ?_
        refine awp_reg (by kernel_rfl) fun K hK => ?_
        simp only [go_sem]
        (try simp (disch := omega) only [wrapI])
        repeat first | intro _ | refine ⟨(by omega), ?_⟩ | refine ⟨⟨by omega, by omega⟩, ?_⟩
        refine hK _ ?_
        clear hK K
        try simp only [go_sem]
        refine ⟨hci, ?_, fit_of [] ?_ rfl⟩
        · rw [take_of_opt hx, take_of_opt hy, hI, hxy]
        · try simp only [go_sem]
      · have e5 : decide (x = y) = false := by simp [hxy]
        rw [e5]
        repeat refine awp_seq ?_
        refine awp_cond rfl (fun hc => ?_) (fun hc => ?_) <;> (try simp only [go_sem] at hc)
        repeat refine awp_seq ?_
        refine awp_reg (by kernel_rfl) fun K hK => ?_
        simp only [go_sem]
        (try simp (disch := omega) only [wrapI])
        repeat first | intro _ | refine ⟨(by omega), ?_⟩ | refine ⟨⟨by omega, by omega⟩, ?_⟩
        refine hK _ ?_
        clear hK K
        refine awp_ret ?_
        simp only [go_sem]
        simp
        intro h
        subst h
        rw [hx] at hy
        injection hy with hy
        exact hxy hy
    · refine awp_exit ?_
      simp only [go_sem]
      repeat refine awp_seq ?_
      refine awp_reg (by kernel_rfl) fun K hK => ?_
      simp only [go_sem]
      (try simp (disch := omega) only [wrapI])
      repeat first | intro _ | refine ⟨(by omega), ?_⟩ | refine ⟨⟨by omega, by omega⟩, ?_⟩
      refine hK _ ?_
      clear hK K
      refine awp_ret ?_
      simp only [go_sem]
      rw [List.take_of_length_le (by omega), List.take_of_length_le (by omega)] at hI
      simp [hI]
def largeB (r : Rules) (l : List (List Int)) : Bool := l.any (fun x => decide (5 < x.length)) || decide (25 < r.gs.length) || decide (25 < l.length)
theorem large_ok (r : Rules) (l : List (List Int)) : ACalls Try.prog 13 [.ag (rulesC r), listsR l] (.bo (largeB r l)) := by
  refine acalls_st (rs := [.bo (largeB r l)]) [.tmp 4] Try.func13 rfl (by kernel_rfl) Try.ntmps13 rfl (by simp) rfl fun C vs => ?_
  repeat refine awp_seq ?_
  refine awp_reg (by kernel_rfl) fun K hK => ?_
  simp only [go_sem]
  (try simp (disch := omega) only [wrapI])
  repeat first | intro _ | refine ⟨(by omega), ?_⟩ | refine ⟨⟨by omega, by omega⟩, ?_⟩
  refine hK _ ?_
  clear hK K
  repeat refine awp_seq ?_
  refine awp_reg (by kernel_rfl) fun K hK => ?_
  simp only [go_sem]
  (try simp (disch := omega) only [wrapI])
  repeat first | intro _ | refine ⟨(by omega), ?_⟩ | refine ⟨⟨by omega, by omega⟩, ?_⟩
  refine hK _ ?_
  clear hK K
  repeat refine awp_seq ?_
  refine awp_block ?_
  refine awp_upto (n := 27) l.length (fun i vs => [(1, .r (listsR l)), (2, .pt 2 (vs 2) 0), (5, .r (i64 i))])
    (fun i => [(2, .box [.r (i64 r.squad), .r (games r.gs), .r (i64 r.most), .r (i64 r.bonus)])]) (fun i => (l.take i).any (fun x => decide (5 < x.length)) = false) 0 (fit_of [] ?_ rfl) (Nat.zero_le _) (by simp) ?_
  · try simp only [go_sem]
  · intro i vs hi hI
    repeat refine awp_seq ?_
    refine awp_reg (by kernel_rfl) fun K hK => ?_
    simp only [go_sem]
    (try simp (disch := omega) only [wrapI])
    intro _
    repeat first | intro _ | refine ⟨(by omega), ?_⟩ | refine ⟨⟨by omega, by omega⟩, ?_⟩
    refine hK _ ?_
    clear hK K
    repeat refine awp_seq ?_
    refine awp_cond rfl (fun hc => ?_) (fun hc => ?_) <;> (try simp only [go_sem] at hc)
    · have hci := hc
      obtain ⟨x, hx⟩ := opt_of_lt hci
      refine awp_skip ?_
      repeat refine awp_seq ?_
      refine awp_block ?_
      repeat refine awp_seq ?_
      refine awp_reg (by kernel_rfl) fun K hK => ?_
      simp only [go_sem, hx, hci]
      (try simp (disch := omega) only [wrapI])
      intro _
      by_cases h5 : 5 < x.length
      · have e5 : decide ((5 : Int) < x.length) = true := by simp; omega
        rw [e5]
        repeat first | intro _ | refine ⟨(by omega), ?_⟩ | refine ⟨⟨by omega, by omega⟩, ?_⟩
        refine hK _ ?_
        clear hK K
        repeat refine awp_seq ?_
        refine awp_cond rfl (fun hc => ?_) (fun hc => ?_) <;> (try simp only [go_sem] at hc)
        repeat refine awp_seq ?_
        refine awp_reg (by kernel_rfl) fun K hK => ?_
        simp only [go_sem]
        (try simp (disch := omega) only [wrapI])
        repeat first | intro _ | refine ⟨(by omega), ?_⟩ | refine ⟨⟨by omega, by omega⟩, ?_⟩
        refine hK _ ?_
        clear hK K
        refine awp_ret ?_
        simp only [go_sem]
        have : l.any (fun x => decide (5 < x.length)) = true := List.any_eq_true.2 ⟨x, mem_of_opt hx, by simpa using h5⟩
        simp [largeB, this]
      · have e5 : decide ((5 : Int) < x.length) = false := by simp; omega
        rw [e5]
        repeat first | intro _ | refine ⟨(by omega), ?_⟩ | refine ⟨⟨by omega, by omega⟩, ?_⟩
        refine hK _ ?_
        clear hK K
        repeat refine awp_seq ?_
        refine awp_cond rfl (fun hc => ?_) (fun hc => ?_) <;> (try simp only [go_sem] at hc)
        refine awp_skip ?_
        try simp only [go_sem]
        repeat refine awp_seq ?_
        refine awp_reg (by kernel_rfl) fun K hK => ?_
        simp only [go_sem]
        (try simp (disch := omega) only [wrapI])
        repeat first | intro _ | refine ⟨(by omega), ?_⟩ | refine ⟨⟨by omega, by omega⟩, ?_⟩
        refine hK _ ?_
        clear hK K
        try simp only [go_sem]
        refine ⟨hci, ?_, fit_of [] ?_ rfl⟩
        · rw [take_of_opt hx, List.any_append, hI]
          simp; omega
        · try simp only [go_sem]
    · rw [List.take_of_length_le (by omega)] at hI
      refine awp_exit ?_
      simp only [go_sem]
      repeat refine awp_seq ?_
      refine awp_reg (by kernel_rfl) fun K hK => ?_
      simp only [go_sem]
      (try simp (disch := omega) only [wrapI])
      intro _
      by_cases h6 : 25 < r.gs.length
      · have e5 : ((25 : Int) < r.gs.length) = True := by simp; omega
        simp only [e5, go_sem]
        repeat first | intro _ | refine ⟨(by omega), ?_⟩ | refine ⟨⟨by omega, by omega⟩, ?_⟩
        refine hK _ ?_
        clear hK K
        refine awp_ret ?_
        simp only [go_sem]
        simp [largeB, h6]
      · have e5 : ((25 : Int) < r.gs.length) = False := by simp; omega
        simp only [e5, go_sem]
        intro _
        repeat first | intro _ | refine ⟨(by omega), ?_⟩ | refine ⟨⟨by omega, by omega⟩, ?_⟩
        refine hK _ ?_
        clear hK K
        refine awp_ret ?_
        simp only [go_sem]
        simp [largeB, hI, h6]
        omega
theorem refCode_ok (x : List Int) (hx : x.length = 1 ∨ x.length = 2) (h : ∀ p ∈ x, 0 ≤ p ∧ p ≤ 15) : ACalls Try.prog 53 [ints x] (i64 (codeL x)) := by
  rcases hx with hx | hx
  · obtain ⟨p, rfl⟩ : ∃ p, x = [p] := by
      match x, hx with
      | [p], _ => exact ⟨p, rfl⟩
    have h0 := h p (by simp)
    refine acalls_st (rs := [i64 (codeL [p])]) [.tmp 2] Try.func53 rfl (by kernel_rfl) Try.ntmps53 rfl (by simp) rfl fun C vs => ?_
    repeat refine awp_seq ?_
    refine awp_reg (by kernel_rfl) fun K hK => ?_
    simp only [go_sem]
    (try simp (disch := omega) only [wrapI])
    repeat first | intro _ | refine ⟨(by omega), ?_⟩ | refine ⟨⟨by omega, by omega⟩, ?_⟩
    refine hK _ ?_
    clear hK K
    repeat refine awp_seq ?_
    refine awp_reg (by kernel_rfl) fun K hK => ?_
    simp only [go_sem, beq_self_eq_true]
    (try simp (disch := omega) only [wrapI])
    repeat first | intro _ | refine ⟨(by omega), ?_⟩ | refine ⟨⟨by omega, by omega⟩, ?_⟩
    refine hK _ ?_
    clear hK K
    repeat refine awp_seq ?_
    refine awp_cond rfl (fun hc => ?_) (fun hc => ?_) <;> (try simp only [go_sem] at hc)
    repeat refine awp_seq ?_
    refine awp_reg (by kernel_rfl) fun K hK => ?_
    simp only [go_sem]
    (try simp (disch := omega) only [wrapI])
    repeat first | intro _ | refine ⟨(by omega), ?_⟩ | refine ⟨⟨by omega, by omega⟩, ?_⟩
    refine hK _ ?_
    clear hK K
    refine awp_ret ?_
    simp only [go_sem]
    simp [codeL]
    try omega
  · obtain ⟨p, q, rfl⟩ := two_of hx
    have h0 := h p (by simp)
    have h1 := h q (by simp)
    refine acalls_st (rs := [i64 (codeL [p, q])]) [.tmp 2] Try.func53 rfl (by kernel_rfl) Try.ntmps53 rfl (by simp) rfl fun C vs => ?_
    repeat refine awp_seq ?_
    refine awp_reg (by kernel_rfl) fun K hK => ?_
    simp only [go_sem]
    (try simp (disch := omega) only [wrapI])
    repeat first | intro _ | refine ⟨(by omega), ?_⟩ | refine ⟨⟨by omega, by omega⟩, ?_⟩
    refine hK _ ?_
    clear hK K
    repeat refine awp_seq ?_
    refine awp_reg (by kernel_rfl) fun K hK => ?_
    simp only [go_sem]
    (try simp (disch := omega) only [wrapI])
    have e : ((2 : Int) == 1) = false := rfl
    simp only [e, go_sem]
    repeat first | intro _ | refine ⟨(by omega), ?_⟩ | refine ⟨⟨by omega, by omega⟩, ?_⟩
    refine hK _ ?_
    clear hK K
    repeat refine awp_seq ?_
    refine awp_cond rfl (fun hc => ?_) (fun hc => ?_) <;> (try simp only [go_sem] at hc)
    refine awp_skip ?_
    try simp only [go_sem]
    repeat refine awp_seq ?_
    refine awp_dreg follows (by decide +kernel) (by kernel_rfl) fun K hK => ?_
    simp only [go_sem]
    (try simp (disch := omega) only [wrapI])
    repeat first | intro _ | refine ⟨(by omega), ?_⟩ | refine ⟨⟨by omega, by omega⟩, ?_⟩
    refine hK _ ?_
    clear hK K
    refine awp_ret ?_
    simp only [go_sem]
    simp [codeL]
    try omega
end Go.Proofs.Ytnklbfmdojpfkaa

/- Sheets, leads and winners, by the program and by the document. -/
namespace Go.Proofs.Ytnklbfmdojpfkaa
open Go Go.Oc
set_option linter.unusedSimpArgs false
set_option linter.unusedVariables false
set_option maxRecDepth 8000
def cmpV (x y : Int) : Int := if x < y then -1 else if y < x then 1 else 0
theorem compare_ok (x y : Int) : ACalls Try.prog 78 [i64 x, i64 y] (i64 (cmpV x y)) := by
  refine acalls_st (rs := [i64 (cmpV x y)]) [.tmp 4] Try.func78 rfl (by kernel_rfl) Try.ntmps78 rfl (by simp) rfl fun C vs => ?_
  repeat refine awp_seq ?_
  refine awp_reg (by kernel_rfl) fun K hK => ?_
  simp only [go_sem]
  (try simp (disch := omega) only [wrapI])
  repeat first | intro _ | refine ⟨(by omega), ?_⟩ | refine ⟨⟨by omega, by omega⟩, ?_⟩
  refine hK _ ?_
  clear hK K
  repeat refine awp_seq ?_
  refine awp_reg (by kernel_rfl) fun K hK => ?_
  simp only [go_sem]
  (try simp (disch := omega) only [wrapI])
  refine xcall_eq (nan_ok x) rfl (by simp only [go_sem, i64, ints]) (by simp only [go_sem, i64, ints]) (by first | exact .inl rfl | exact .inr rfl) ?_
  (try simp only [go_sem])
  (try simp (disch := omega) only [wrapI])
  repeat first | intro _ | refine ⟨(by omega), ?_⟩ | refine ⟨⟨by omega, by omega⟩, ?_⟩
  refine hK _ ?_
  clear hK K
  repeat refine awp_seq ?_
  refine awp_reg (by kernel_rfl) fun K hK => ?_
  simp only [go_sem]
  (try simp (disch := omega) only [wrapI])
  refine xcall_eq (nan_ok y) rfl (by simp only [go_sem, i64, ints]) (by simp only [go_sem, i64, ints]) (by first | exact .inl rfl | exact .inr rfl) ?_
  (try simp only [go_sem])
  (try simp (disch := omega) only [wrapI])
  repeat first | intro _ | refine ⟨(by omega), ?_⟩ | refine ⟨⟨by omega, by omega⟩, ?_⟩
  refine hK _ ?_
  clear hK K
  repeat refine awp_seq ?_
  refine awp_reg (by kernel_rfl) fun K hK => ?_
  simp only [go_sem]
  (try simp (disch := omega) only [wrapI])
  repeat first | intro _ | refine ⟨(by omega), ?_⟩ | refine ⟨⟨by omega, by omega⟩, ?_⟩
  refine hK _ ?_
  clear hK K
  repeat refine awp_seq ?_
  refine awp_cond rfl (fun hc => ?_) (fun hc => ?_) <;> (try simp only [go_sem] at hc)
  refine awp_skip ?_
  try simp only [go_sem]
  repeat refine awp_seq ?_
  refine awp_reg (by kernel_rfl) fun K hK => ?_
  simp only [go_sem]
  (try simp (disch := omega) only [wrapI])
  repeat first | intro _ | refine ⟨(by omega), ?_⟩ | refine ⟨⟨by omega, by omega⟩, ?_⟩
  refine hK _ ?_
  clear hK K
  repeat refine awp_seq ?_
  refine awp_cond rfl (fun hc => ?_) (fun hc => ?_) <;> (try simp only [go_sem] at hc)
  refine awp_skip ?_
  try simp only [go_sem]
  repeat refine awp_seq ?_
  refine awp_reg (by kernel_rfl) fun K hK => ?_
  simp only [go_sem]
  (try simp (disch := omega) only [wrapI])
  repeat first | intro _ | refine ⟨(by omega), ?_⟩ | refine ⟨⟨by omega, by omega⟩, ?_⟩
  refine hK _ ?_
  clear hK K
  by_cases h1 : x < y
  · have e1 : decide (x < y) = true := by simp [h1]
    rw [e1]
    repeat refine awp_seq ?_
    refine awp_cond rfl (fun hc => ?_) (fun hc => ?_) <;> (try simp only [go_sem] at hc)
    repeat refine awp_seq ?_
    refine awp_reg (by kernel_rfl) fun K hK => ?_
    simp only [go_sem]
    (try simp (disch := omega) only [wrapI])
    repeat first | intro _ | refine ⟨(by omega), ?_⟩ | refine ⟨⟨by omega, by omega⟩, ?_⟩
    refine hK _ ?_
    clear hK K
    refine awp_ret ?_
    simp only [go_sem]
    simp [cmpV, h1]
  have e1 : decide (x < y) = false := by simp [h1]
  rw [e1]
  repeat refine awp_seq ?_
  refine awp_cond rfl (fun hc => ?_) (fun hc => ?_) <;> (try simp only [go_sem] at hc)
  refine awp_skip ?_
  try simp only [go_sem]
  repeat refine awp_seq ?_
  refine awp_reg (by kernel_rfl) fun K hK => ?_
  simp only [go_sem]
  (try simp (disch := omega) only [wrapI])
  repeat first | intro _ | refine ⟨(by omega), ?_⟩ | refine ⟨⟨by omega, by omega⟩, ?_⟩
  refine hK _ ?_
  clear hK K
  by_cases h2 : y < x
  · have e1 : decide (y < x) = true := by simp [h2]
    rw [e1]
    repeat refine awp_seq ?_
    refine awp_cond rfl (fun hc => ?_) (fun hc => ?_) <;> (try simp only [go_sem] at hc)
    repeat refine awp_seq ?_
    refine awp_reg (by kernel_rfl) fun K hK => ?_
    simp only [go_sem]
    (try simp (disch := omega) only [wrapI])
    repeat first | intro _ | refine ⟨(by omega), ?_⟩ | refine ⟨⟨by omega, by omega⟩, ?_⟩
    refine hK _ ?_
    clear hK K
    refine awp_ret ?_
    simp only [go_sem]
    simp [cmpV, h1, h2]
  have e1 : decide (y < x) = false := by simp [h2]
  rw [e1]
  repeat refine awp_seq ?_
  refine awp_cond rfl (fun hc => ?_) (fun hc => ?_) <;> (try simp only [go_sem] at hc)
  refine awp_skip ?_
  try simp only [go_sem]
  repeat refine awp_seq ?_
  refine awp_reg (by kernel_rfl) fun K hK => ?_
  simp only [go_sem]
  (try simp (disch := omega) only [wrapI])
  repeat first | intro _ | refine ⟨(by omega), ?_⟩ | refine ⟨⟨by omega, by omega⟩, ?_⟩
  refine hK _ ?_
  clear hK K
  refine awp_ret ?_
  simp only [go_sem]
  simp [cmpV, h1, h2]
theorem or_ok (a b : Int) : ACalls Try.prog 77 [.sl 1 [[i64 a], [i64 b]]] (i64 (if a ≠ 0 then a else b)) := by
  refine acalls_st (rs := [i64 (if a ≠ 0 then a else b)]) [.tmp 2] Try.func77 rfl (by kernel_rfl) Try.ntmps77 rfl (by simp) rfl fun C vs => ?_
  repeat refine awp_seq ?_
  refine awp_reg (by kernel_rfl) fun K hK => ?_
  simp only [go_sem]
  (try simp (disch := omega) only [wrapI])
  repeat first | intro _ | refine ⟨(by omega), ?_⟩ | refine ⟨⟨by omega, by omega⟩, ?_⟩
  refine hK _ ?_
  clear hK K
  repeat refine awp_seq ?_
  refine awp_reg (by kernel_rfl) fun K hK => ?_
  simp only [go_sem]
  (try simp (disch := omega) only [wrapI])
  repeat first | intro _ | refine ⟨(by omega), ?_⟩ | refine ⟨⟨by omega, by omega⟩, ?_⟩
  refine hK _ ?_
  clear hK K
  repeat refine awp_seq ?_
  refine awp_reg (by kernel_rfl) fun K hK => ?_
  simp only [go_sem]
  (try simp (disch := omega) only [wrapI])
  repeat first | intro _ | refine ⟨(by omega), ?_⟩ | refine ⟨⟨by omega, by omega⟩, ?_⟩
  refine hK _ ?_
  clear hK K
  repeat refine awp_seq ?_
  refine awp_block ?_
  refine awp_upto (n := 18) 2 (fun i vs => [(3, .r (i64 0)), (6, .r (.sl 1 [[i64 a], [i64 b]])), (7, .r (i64 2)), (8, .r (i64 i))]) (fun _ => [])
    (fun i => (1 ≤ i → a = 0) ∧ (2 ≤ i → b = 0)) 0 (fit_of [] ?_ rfl) (Nat.zero_le _) ⟨by omega, by omega⟩ ?_
  · try simp only [go_sem]
  · rintro i vs hi ⟨hA, hB⟩
    have h3 : i = 0 ∨ i = 1 ∨ i = 2 := by omega
    rcases h3 with rfl | rfl | rfl
    · repeat refine awp_seq ?_
      refine awp_reg (by kernel_rfl) fun K hK => ?_
      simp only [go_sem]
      (try simp (disch := omega) only [wrapI])
      repeat first | intro _ | refine ⟨(by omega), ?_⟩ | refine ⟨⟨by omega, by omega⟩, ?_⟩
      refine hK _ ?_
      clear hK K
      repeat refine awp_seq ?_
      refine awp_cond rfl (fun hc => ?_) (fun hc => ?_) <;> (try simp only [go_sem] at hc)
      refine awp_skip ?_
      repeat refine awp_seq ?_
      refine awp_block ?_
      repeat refine awp_seq ?_
      refine awp_reg (by kernel_rfl) fun K hK => ?_
      simp only [go_sem]
      (try simp (disch := omega) only [wrapI])
      repeat first | intro _ | refine ⟨(by omega), ?_⟩ | refine ⟨⟨by omega, by omega⟩, ?_⟩
      refine hK _ ?_
      clear hK K
      repeat refine awp_seq ?_
      refine awp_reg (by kernel_rfl) fun K hK => ?_
      simp only [go_sem]
      (try simp (disch := omega) only [wrapI])
      by_cases ha : a = 0
      · have e1 : (a != 0) = false := by simp [ha]
        rw [e1]
        repeat first | intro _ | refine ⟨(by omega), ?_⟩ | refine ⟨⟨by omega, by omega⟩, ?_⟩
        refine hK _ ?_
        clear hK K
        repeat refine awp_seq ?_
        refine awp_cond rfl (fun hc => ?_) (fun hc => ?_) <;> (try simp only [go_sem] at hc)
        refine awp_skip ?_
        try simp only [go_sem]
        repeat refine awp_seq ?_
        refine awp_reg (by kernel_rfl) fun K hK => ?_
        simp only [go_sem]
        (try simp (disch := omega) only [wrapI])
        repeat first | intro _ | refine ⟨(by omega), ?_⟩ | refine ⟨⟨by omega, by omega⟩, ?_⟩
        refine hK _ ?_
        clear hK K
        try simp only [go_sem]
        refine ⟨ha, fit_of [] ?_ rfl⟩
        try simp only [go_sem]
      · have e1 : (a != 0) = true := by simp [ha]
        rw [e1]
        repeat first | intro _ | refine ⟨(by omega), ?_⟩ | refine ⟨⟨by omega, by omega⟩, ?_⟩
        refine hK _ ?_
        clear hK K
        repeat refine awp_seq ?_
        refine awp_cond rfl (fun hc => ?_) (fun hc => ?_) <;> (try simp only [go_sem] at hc)
        repeat refine awp_seq ?_
        refine awp_reg (by kernel_rfl) fun K hK => ?_
        simp only [go_sem]
        (try simp (disch := omega) only [wrapI])
        repeat first | intro _ | refine ⟨(by omega), ?_⟩ | refine ⟨⟨by omega, by omega⟩, ?_⟩
        refine hK _ ?_
        clear hK K
        refine awp_ret ?_
        simp only [go_sem]
        simp [ha]
    · have ha := hA (by omega)
      repeat refine awp_seq ?_
      refine awp_reg (by kernel_rfl) fun K hK => ?_
      simp only [go_sem]
      (try simp (disch := omega) only [wrapI])
      repeat first | intro _ | refine ⟨(by omega), ?_⟩ | refine ⟨⟨by omega, by omega⟩, ?_⟩
      refine hK _ ?_
      clear hK K
      repeat refine awp_seq ?_
      refine awp_cond rfl (fun hc => ?_) (fun hc => ?_) <;> (try simp only [go_sem] at hc)
      refine awp_skip ?_
      repeat refine awp_seq ?_
      refine awp_block ?_
      repeat refine awp_seq ?_
      refine awp_reg (by kernel_rfl) fun K hK => ?_
      simp only [go_sem]
      (try simp (disch := omega) only [wrapI])
      repeat first | intro _ | refine ⟨(by omega), ?_⟩ | refine ⟨⟨by omega, by omega⟩, ?_⟩
      refine hK _ ?_
      clear hK K
      repeat refine awp_seq ?_
      refine awp_reg (by kernel_rfl) fun K hK => ?_
      simp only [go_sem]
      (try simp (disch := omega) only [wrapI])
      by_cases hb : b = 0
      · have e1 : (b != 0) = false := by simp [hb]
        rw [e1]
        repeat first | intro _ | refine ⟨(by omega), ?_⟩ | refine ⟨⟨by omega, by omega⟩, ?_⟩
        refine hK _ ?_
        clear hK K
        repeat refine awp_seq ?_
        refine awp_cond rfl (fun hc => ?_) (fun hc => ?_) <;> (try simp only [go_sem] at hc)
        refine awp_skip ?_
        try simp only [go_sem]
        repeat refine awp_seq ?_
        refine awp_reg (by kernel_rfl) fun K hK => ?_
        simp only [go_sem]
        (try simp (disch := omega) only [wrapI])
        repeat first | intro _ | refine ⟨(by omega), ?_⟩ | refine ⟨⟨by omega, by omega⟩, ?_⟩
        refine hK _ ?_
        clear hK K
        try simp only [go_sem]
        refine ⟨⟨ha, hb⟩, fit_of [] ?_ rfl⟩
        try simp only [go_sem]
      · have e1 : (b != 0) = true := by simp [hb]
        rw [e1]
        repeat first | intro _ | refine ⟨(by omega), ?_⟩ | refine ⟨⟨by omega, by omega⟩, ?_⟩
        refine hK _ ?_
        clear hK K
        repeat refine awp_seq ?_
        refine awp_cond rfl (fun hc => ?_) (fun hc => ?_) <;> (try simp only [go_sem] at hc)
        repeat refine awp_seq ?_
        refine awp_reg (by kernel_rfl) fun K hK => ?_
        simp only [go_sem]
        (try simp (disch := omega) only [wrapI])
        repeat first | intro _ | refine ⟨(by omega), ?_⟩ | refine ⟨⟨by omega, by omega⟩, ?_⟩
        refine hK _ ?_
        clear hK K
        refine awp_ret ?_
        simp only [go_sem]
        simp [ha]
    · have ha := hA (by omega)
      have hb := hB (by omega)
      repeat refine awp_seq ?_
      refine awp_reg (by kernel_rfl) fun K hK => ?_
      simp only [go_sem]
      (try simp (disch := omega) only [wrapI])
      repeat first | intro _ | refine ⟨(by omega), ?_⟩ | refine ⟨⟨by omega, by omega⟩, ?_⟩
      refine hK _ ?_
      clear hK K
      repeat refine awp_seq ?_
      refine awp_cond rfl (fun hc => ?_) (fun hc => ?_) <;> (try simp only [go_sem] at hc)
      refine awp_exit ?_
      simp only [go_sem]
      repeat refine awp_seq ?_
      refine awp_reg (by kernel_rfl) fun K hK => ?_
      simp only [go_sem]
      (try simp (disch := omega) only [wrapI])
      repeat first | intro _ | refine ⟨(by omega), ?_⟩ | refine ⟨⟨by omega, by omega⟩, ?_⟩
      refine hK _ ?_
      clear hK K
      refine awp_ret ?_
      simp only [go_sem]
      simp [ha, hb]
/-- Who has won with a lead. -/
def leadW (p l : Int) : Int := if 0 < p then 0 else if p < 0 then 1 else if 0 < l then 0 else if l < 0 then 1 else 2
theorem winner_ok (p l : Int) : ACalls Try.prog 75 [.ag [i64 p, i64 l]] (i64 (leadW p l)) := by
  refine acalls_st (rs := [i64 (leadW p l)]) [.tmp 2] Try.func75 rfl (by kernel_rfl) Try.ntmps75 rfl (by simp) rfl fun C vs => ?_
  repeat refine awp_seq ?_
  refine awp_reg (by kernel_rfl) fun K hK => ?_
  simp only [go_sem]
  (try simp (disch := omega) only [wrapI])
  repeat first | intro _ | refine ⟨(by omega), ?_⟩ | refine ⟨⟨by omega, by omega⟩, ?_⟩
  refine hK _ ?_
  clear hK K
  repeat refine awp_seq ?_
  refine awp_dreg follows (by decide +kernel) (by kernel_rfl) fun K hK => ?_
  simp only [go_sem]
  (try simp (disch := omega) only [wrapI])
  refine xcall_eq (compare_ok p 0) rfl (by simp only [go_sem, i64, ints]) (by simp only [go_sem, i64, ints]) (by first | exact .inl rfl | exact .inr rfl) ?_
  (try simp only [go_sem])
  (try simp (disch := omega) only [wrapI])
  refine xcall_eq (compare_ok l 0) rfl (by simp only [go_sem, i64, ints]) (by simp only [go_sem, i64, ints]) (by first | exact .inl rfl | exact .inr rfl) ?_
  (try simp only [go_sem])
  (try simp (disch := omega) only [wrapI])
  refine xcall_eq (or_ok (cmpV p 0) (cmpV l 0)) rfl (by simp only [go_sem, i64, ints]) (by simp only [go_sem, i64, ints]) (by first | exact .inl rfl | exact .inr rfl) ?_
  (try simp only [go_sem])
  (try simp (disch := omega) only [wrapI])
  repeat first | intro _ | refine ⟨(by omega), ?_⟩ | refine ⟨⟨by omega, by omega⟩, ?_⟩
  refine hK _ ?_
  clear hK K
  have hv : (if cmpV p 0 ≠ 0 then cmpV p 0 else cmpV l 0) = if 0 < p then 1 else if p < 0 then -1 else if 0 < l then 1 else if l < 0 then -1 else 0 := by
    simp only [cmpV]
    (repeat' split) <;> omega
  rw [hv]
  repeat refine awp_seq ?_
  refine awp_block ?_
  repeat refine awp_seq ?_
  refine awp_reg (by kernel_rfl) fun K hK => ?_
  simp only [go_sem]
  (try simp (disch := omega) only [wrapI])
  repeat first | intro _ | refine ⟨(by omega), ?_⟩ | refine ⟨⟨by omega, by omega⟩, ?_⟩
  refine hK _ ?_
  clear hK K
  generalize hz : (if 0 < p then (1 : Int) else if p < 0 then -1 else if 0 < l then 1 else if l < 0 then -1 else 0) = z
  have hw : leadW p l = if z = 1 then 0 else if z = -1 then 1 else 2 := by
    rw [← hz]
    unfold leadW
    (repeat' split) <;> omega
  rw [hw]
  by_cases h1 : z = 1
  · have e1 : (z == 1) = true := by simp [h1]
    rw [e1]
    repeat refine awp_seq ?_
    refine awp_cond rfl (fun hc => ?_) (fun hc => ?_) <;> (try simp only [go_sem] at hc)
    repeat refine awp_seq ?_
    refine awp_reg (by kernel_rfl) fun K hK => ?_
    simp only [go_sem]
    (try simp (disch := omega) only [wrapI])
    repeat first | intro _ | refine ⟨(by omega), ?_⟩ | refine ⟨⟨by omega, by omega⟩, ?_⟩
    refine hK _ ?_
    clear hK K
    refine awp_ret ?_
    simp only [go_sem]
    simp [h1]
  have e1 : (z == 1) = false := by simp [h1]
  rw [e1]
  repeat refine awp_seq ?_
  refine awp_cond rfl (fun hc => ?_) (fun hc => ?_) <;> (try simp only [go_sem] at hc)
  repeat refine awp_seq ?_
  refine awp_reg (by kernel_rfl) fun K hK => ?_
  simp only [go_sem]
  (try simp (disch := omega) only [wrapI])
  repeat first | intro _ | refine ⟨(by omega), ?_⟩ | refine ⟨⟨by omega, by omega⟩, ?_⟩
  refine hK _ ?_
  clear hK K
  by_cases h2 : z = -1
  · have e1 : (z == -1) = true := by simp [h2]
    rw [e1]
    repeat refine awp_seq ?_
    refine awp_cond rfl (fun hc => ?_) (fun hc => ?_) <;> (try simp only [go_sem] at hc)
    repeat refine awp_seq ?_
    refine awp_reg (by kernel_rfl) fun K hK => ?_
    simp only [go_sem]
    (try simp (disch := omega) only [wrapI])
    repeat first | intro _ | refine ⟨(by omega), ?_⟩ | refine ⟨⟨by omega, by omega⟩, ?_⟩
    refine hK _ ?_
    clear hK K
    refine awp_ret ?_
    simp only [go_sem]
    simp [h2]
  have e1 : (z == -1) = false := by simp [h2]
  rw [e1]
  repeat refine awp_seq ?_
  refine awp_cond rfl (fun hc => ?_) (fun hc => ?_) <;> (try simp only [go_sem] at hc)
  refine awp_skip ?_
  try simp only [go_sem]
  repeat refine awp_seq ?_
  refine awp_reg (by kernel_rfl) fun K hK => ?_
  simp only [go_sem]
  (try simp (disch := omega) only [wrapI])
  repeat first | intro _ | refine ⟨(by omega), ?_⟩ | refine ⟨⟨by omega, by omega⟩, ?_⟩
  refine hK _ ?_
  clear hK K
  refine awp_ret ?_
  simp only [go_sem]
  simp [h1, h2]
structure Sheet where
  gm : Int
  ho : Int
  aw : Int
  wk : Int
abbrev sheetC (x : Sheet) : List RV := [i64 x.gm, i64 x.ho, i64 x.aw, i64 x.wk]
def legsOf (r : Rules) (i : Int) : Int := match r.gs[i.toNat]? with | some g => g.lg | none => 0
/-- The sheet is valid. -/
def sheetB (r : Rules) (x : Sheet) : Bool :=
  withinL 0 ((r.gs.length : Int) - 1) [x.gm] && withinL 0 2 [x.wk] &&
    (if x.wk = 0 then decide (max x.ho x.aw = legsOf r x.gm) && withinL 0 (legsOf r x.gm - 1) [min x.ho x.aw] else decide (x.ho = 0) && decide (x.aw = 0))
theorem isSheet_ok (r : Rules) (x : Sheet) (hr : rulesB r = true) : ACalls Try.prog 63 [.ag (rulesC r), .ag (sheetC x)] (.bo (sheetB r x)) := by
  obtain ⟨_, ⟨f3, f4⟩, _, f7, _⟩ := rulesB_facts hr
  refine acalls_st (rs := [.bo (sheetB r x)]) [.tmp 4] Try.func63 rfl (by kernel_rfl) Try.ntmps63 rfl (by simp) rfl fun C vs => ?_
  repeat refine awp_seq ?_
  refine awp_reg (by kernel_rfl) fun K hK => ?_
  simp only [go_sem]
  (try simp (disch := omega) only [wrapI])
  repeat first | intro _ | refine ⟨(by omega), ?_⟩ | refine ⟨⟨by omega, by omega⟩, ?_⟩
  refine hK _ ?_
  clear hK K
  repeat refine awp_seq ?_
  refine awp_reg (by kernel_rfl) fun K hK => ?_
  simp only [go_sem]
  (try simp (disch := omega) only [wrapI])
  intro _
  refine xcall_eq (within_ok 0 ((r.gs.length : Int) - 1) [x.gm]) rfl (by simp only [go_sem, i64, ints]) (by simp only [go_sem, i64, ints]) (by first | exact .inl rfl | exact .inr rfl) ?_
  (try simp only [go_sem])
  (try simp (disch := omega) only [wrapI])
  cases h1 : withinL 0 ((r.gs.length : Int) - 1) [x.gm]
  · try simp only [go_sem]
    repeat first | intro _ | refine ⟨(by omega), ?_⟩ | refine ⟨⟨by omega, by omega⟩, ?_⟩
    refine hK _ ?_
    clear hK K
    repeat refine awp_seq ?_
    refine awp_cond rfl (fun hc => ?_) (fun hc => ?_) <;> (try simp only [go_sem] at hc)
    repeat refine awp_seq ?_
    refine awp_reg (by kernel_rfl) fun K hK => ?_
    simp only [go_sem]
    (try simp (disch := omega) only [wrapI])
    repeat first | intro _ | refine ⟨(by omega), ?_⟩ | refine ⟨⟨by omega, by omega⟩, ?_⟩
    refine hK _ ?_
    clear hK K
    refine awp_ret ?_
    simp only [go_sem]
    simp [sheetB, h1]
  try simp only [go_sem]
  refine xcall_eq (within_ok 0 2 [x.wk]) rfl (by simp only [go_sem, i64, ints]) (by simp only [go_sem, i64, ints]) (by first | exact .inl rfl | exact .inr rfl) ?_
  (try simp only [go_sem])
  (try simp (disch := omega) only [wrapI])
  cases h2 : withinL 0 2 [x.wk]
  · try simp only [go_sem]
    repeat first | intro _ | refine ⟨(by omega), ?_⟩ | refine ⟨⟨by omega, by omega⟩, ?_⟩
    refine hK _ ?_
    clear hK K
    repeat refine awp_seq ?_
    refine awp_cond rfl (fun hc => ?_) (fun hc => ?_) <;> (try simp only [go_sem] at hc)
    repeat refine awp_seq ?_
    refine awp_reg (by kernel_rfl) fun K hK => ?_
    simp only [go_sem]
    (try simp (disch := omega) only [wrapI])
    repeat first | intro _ | refine ⟨(by omega), ?_⟩ | refine ⟨⟨by omega, by omega⟩, ?_⟩
    refine hK _ ?_
    clear hK K
    refine awp_ret ?_
    simp only [go_sem]
    simp [sheetB, h1, h2]
  try simp only [go_sem]
  repeat first | intro _ | refine ⟨(by omega), ?_⟩ | refine ⟨⟨by omega, by omega⟩, ?_⟩
  refine hK _ ?_
  clear hK K
  repeat refine awp_seq ?_
  refine awp_cond rfl (fun hc => ?_) (fun hc => ?_) <;> (try simp only [go_sem] at hc)
  refine awp_skip ?_
  try simp only [go_sem]
  have g1 := withinL_one h1
  have g2 := withinL_one h2
  obtain ⟨i, hi⟩ := Int.eq_ofNat_of_zero_le g1.1
  obtain ⟨g, hg⟩ := opt_of_lt (l := r.gs) (i := i) (by omega)
  obtain ⟨_, ⟨g5, g6⟩, _⟩ := f7 g (mem_of_opt hg)
  have hlg : legsOf r x.gm = g.lg := by rw [legsOf, hi, Int.toNat_natCast, hg]
  have hti : x.gm.toNat = i := by rw [hi, Int.toNat_natCast]
  have hz0 : (0 : Int) ≤ x.gm := by omega
  have hz1 : x.gm < r.gs.length := by omega
  repeat refine awp_seq ?_
  refine awp_reg (by kernel_rfl) fun K hK => ?_
  simp only [go_sem, hti, hg, hz0, hz1]
  (try simp (disch := omega) only [wrapI])
  repeat first | intro _ | refine ⟨(by omega), ?_⟩ | refine ⟨⟨by omega, by omega⟩, ?_⟩
  refine hK _ ?_
  clear hK K
  repeat refine awp_seq ?_
  refine awp_reg (by kernel_rfl) fun K hK => ?_
  simp only [go_sem]
  (try simp (disch := omega) only [wrapI])
  repeat first | intro _ | refine ⟨(by omega), ?_⟩ | refine ⟨⟨by omega, by omega⟩, ?_⟩
  refine hK _ ?_
  clear hK K
  by_cases h3 : x.wk = 0
  · have e1 : (x.wk != 0) = false := by simp [h3]
    rw [e1]
    repeat refine awp_seq ?_
    refine awp_cond rfl (fun hc => ?_) (fun hc => ?_) <;> (try simp only [go_sem] at hc)
    refine awp_skip ?_
    try simp only [go_sem]
    repeat refine awp_seq ?_
    refine awp_reg (by kernel_rfl) fun K hK => ?_
    simp only [go_sem]
    (try simp (disch := omega) only [wrapI])
    by_cases h4 : max x.ho x.aw = g.lg
    · have e2 : (max x.ho x.aw = g.lg) = True := by simp [h4]
      have e3 : (max x.ho x.aw ≠ g.lg) = False := by simp [h4]
      simp only [e2, e3, go_sem]
      refine xcall_eq (within_ok 0 (g.lg - 1) [min x.ho x.aw]) rfl (by simp only [go_sem, i64, ints]) (by simp only [go_sem, i64, ints]) (by first | exact .inl rfl | exact .inr rfl) ?_
      (try simp only [go_sem])
      (try simp (disch := omega) only [wrapI])
      repeat first | intro _ | refine ⟨(by omega), ?_⟩ | refine ⟨⟨by omega, by omega⟩, ?_⟩
      refine hK _ ?_
      clear hK K
      refine awp_ret ?_
      simp only [go_sem]
      rw [h3] at h2
      simp [sheetB, h1, h2, h3, hlg, h4]
    · have e2 : (max x.ho x.aw = g.lg) = False := by simp [h4]
      have e3 : (max x.ho x.aw ≠ g.lg) = True := by simp [h4]
      simp only [e2, e3, go_sem]
      repeat first | intro _ | refine ⟨(by omega), ?_⟩ | refine ⟨⟨by omega, by omega⟩, ?_⟩
      refine hK _ ?_
      clear hK K
      refine awp_ret ?_
      simp only [go_sem]
      simp [sheetB, h1, h2, h3, hlg, h4]
  · have e1 : (x.wk != 0) = true := by simp [h3]
    rw [e1]
    repeat refine awp_seq ?_
    refine awp_cond rfl (fun hc => ?_) (fun hc => ?_) <;> (try simp only [go_sem] at hc)
    repeat refine awp_seq ?_
    refine awp_reg (by kernel_rfl) fun K hK => ?_
    simp only [go_sem]
    (try simp (disch := omega) only [wrapI])
    by_cases h4 : x.ho = 0
    · have e2 : (x.ho = 0) = True := by simp [h4]
      have e3 : (x.ho ≠ 0) = False := by simp [h4]
      simp only [e2, e3, go_sem]
      repeat first | intro _ | refine ⟨(by omega), ?_⟩ | refine ⟨⟨by omega, by omega⟩, ?_⟩
      refine hK _ ?_
      clear hK K
      refine awp_ret ?_
      simp only [go_sem]
      simp [sheetB, h1, h2, h3, h4]
      rfl
    · have e2 : (x.ho = 0) = False := by simp [h4]
      have e3 : (x.ho ≠ 0) = True := by simp [h4]
      simp only [e2, e3, go_sem]
      repeat first | intro _ | refine ⟨(by omega), ?_⟩ | refine ⟨⟨by omega, by omega⟩, ?_⟩
      refine hK _ ?_
      clear hK K
      refine awp_ret ?_
      simp only [go_sem]
      simp [sheetB, h1, h2, h3, h4]
theorem refSheet_ok (r : Rules) (x : Sheet) (hr : rulesB r = true) : ACalls Try.prog 65 [.ag (rulesC r), .ag (sheetC x)] (.bo (sheetB r x)) := by
  obtain ⟨_, ⟨f3, f4⟩, _, f7, _⟩ := rulesB_facts hr
  refine acalls_st (rs := [.bo (sheetB r x)]) [.tmp 4] Try.func65 rfl (by kernel_rfl) Try.ntmps65 rfl (by simp) rfl fun C vs => ?_
  repeat refine awp_seq ?_
  refine awp_reg (by kernel_rfl) fun K hK => ?_
  simp only [go_sem]
  (try simp (disch := omega) only [wrapI])
  repeat first | intro _ | refine ⟨(by omega), ?_⟩ | refine ⟨⟨by omega, by omega⟩, ?_⟩
  refine hK _ ?_
  clear hK K
  repeat refine awp_seq ?_
  refine awp_reg (by kernel_rfl) fun K hK => ?_
  simp only [go_sem]
  (try simp (disch := omega) only [wrapI])
  intro _
  refine xcall_eq (in1_ok x.gm 0 ((r.gs.length : Int) - 1)) rfl (by simp only [go_sem, i64, ints]) (by simp only [go_sem, i64, ints]) (by first | exact .inl rfl | exact .inr rfl) ?_
  (try simp only [go_sem])
  (try simp (disch := omega) only [wrapI])
  cases h1 : withinL 0 ((r.gs.length : Int) - 1) [x.gm]
  · try simp only [go_sem]
    repeat first | intro _ | refine ⟨(by omega), ?_⟩ | refine ⟨⟨by omega, by omega⟩, ?_⟩
    refine hK _ ?_
    clear hK K
    repeat refine awp_seq ?_
    refine awp_cond rfl (fun hc => ?_) (fun hc => ?_) <;> (try simp only [go_sem] at hc)
    repeat refine awp_seq ?_
    refine awp_reg (by kernel_rfl) fun K hK => ?_
    simp only [go_sem]
    (try simp (disch := omega) only [wrapI])
    repeat first | intro _ | refine ⟨(by omega), ?_⟩ | refine ⟨⟨by omega, by omega⟩, ?_⟩
    refine hK _ ?_
    clear hK K
    refine awp_ret ?_
    simp only [go_sem]
    simp [sheetB, h1]
  try simp only [go_sem]
  refine xcall_eq (in1_ok x.wk 0 2) rfl (by simp only [go_sem, i64, ints]) (by simp only [go_sem, i64, ints]) (by first | exact .inl rfl | exact .inr rfl) ?_
  (try simp only [go_sem])
  (try simp (disch := omega) only [wrapI])
  cases h2 : withinL 0 2 [x.wk]
  · try simp only [go_sem]
    repeat first | intro _ | refine ⟨(by omega), ?_⟩ | refine ⟨⟨by omega, by omega⟩, ?_⟩
    refine hK _ ?_
    clear hK K
    repeat refine awp_seq ?_
    refine awp_cond rfl (fun hc => ?_) (fun hc => ?_) <;> (try simp only [go_sem] at hc)
    repeat refine awp_seq ?_
    refine awp_reg (by kernel_rfl) fun K hK => ?_
    simp only [go_sem]
    (try simp (disch := omega) only [wrapI])
    repeat first | intro _ | refine ⟨(by omega), ?_⟩ | refine ⟨⟨by omega, by omega⟩, ?_⟩
    refine hK _ ?_
    clear hK K
    refine awp_ret ?_
    simp only [go_sem]
    simp [sheetB, h1, h2]
  try simp only [go_sem]
  repeat first | intro _ | refine ⟨(by omega), ?_⟩ | refine ⟨⟨by omega, by omega⟩, ?_⟩
  refine hK _ ?_
  clear hK K
  repeat refine awp_seq ?_
  refine awp_cond rfl (fun hc => ?_) (fun hc => ?_) <;> (try simp only [go_sem] at hc)
  refine awp_skip ?_
  try simp only [go_sem]
  have g1 := withinL_one h1
  have g2 := withinL_one h2
  obtain ⟨i, hi⟩ := Int.eq_ofNat_of_zero_le g1.1
  obtain ⟨g, hg⟩ := opt_of_lt (l := r.gs) (i := i) (by omega)
  obtain ⟨_, ⟨g5, g6⟩, _⟩ := f7 g (mem_of_opt hg)
  have hlg : legsOf r x.gm = g.lg := by rw [legsOf, hi, Int.toNat_natCast, hg]
  have hti : x.gm.toNat = i := by rw [hi, Int.toNat_natCast]
  have hz0 : (0 : Int) ≤ x.gm := by omega
  have hz1 : x.gm < r.gs.length := by omega
  repeat refine awp_seq ?_
  refine awp_reg (by kernel_rfl) fun K hK => ?_
  simp only [go_sem, hti, hg, hz0, hz1]
  (try simp (disch := omega) only [wrapI])
  repeat first | intro _ | refine ⟨(by omega), ?_⟩ | refine ⟨⟨by omega, by omega⟩, ?_⟩
  refine hK _ ?_
  clear hK K
  repeat refine awp_seq ?_
  refine awp_reg (by kernel_rfl) fun K hK => ?_
  simp only [go_sem]
  (try simp (disch := omega) only [wrapI])
  repeat first | intro _ | refine ⟨(by omega), ?_⟩ | refine ⟨⟨by omega, by omega⟩, ?_⟩
  refine hK _ ?_
  clear hK K
  by_cases h3 : x.wk = 0
  · have e1 : decide (0 < x.wk) = false := by simp [h3]
    rw [e1]
    repeat refine awp_seq ?_
    refine awp_cond rfl (fun hc => ?_) (fun hc => ?_) <;> (try simp only [go_sem] at hc)
    refine awp_skip ?_
    try simp only [go_sem]
    have hsb : sheetB r x = (decide (x.ho = g.lg) && withinL 0 (g.lg - 1) [x.aw] || decide (x.aw = g.lg) && withinL 0 (g.lg - 1) [x.ho]) := by
      simp only [sheetB, h1, h2, h3, hlg, Bool.true_and, if_true]
      rw [Bool.eq_iff_iff]
      simp only [Bool.and_eq_true, Bool.or_eq_true, decide_eq_true_eq, withinL, List.all_cons, List.all_nil, Bool.and_true]
      omega
    rw [hsb]
    repeat refine awp_seq ?_
    refine awp_reg (by kernel_rfl) fun K hK => ?_
    simp only [go_sem]
    (try simp (disch := omega) only [wrapI])
    by_cases h4 : x.ho = g.lg
    · have e2 : (x.ho = g.lg) = True := by simp [h4]
      have e3 : (x.ho ≠ g.lg) = False := by simp [h4]
      simp only [e2, e3, go_sem]
      refine xcall_eq (in1_ok x.aw 0 (g.lg - 1)) rfl (by simp only [go_sem, i64, ints]) (by simp only [go_sem, i64, ints]) (by first | exact .inl rfl | exact .inr rfl) ?_
      (try simp only [go_sem])
      (try simp (disch := omega) only [wrapI])
      cases h5 : withinL 0 (g.lg - 1) [x.aw]
      · try simp only [go_sem]
        by_cases h6 : x.aw = g.lg
        · have e4 : (x.aw = g.lg) = True := by simp [h6]
          have e5 : (x.aw ≠ g.lg) = False := by simp [h6]
          simp only [e4, e5, go_sem]
          refine xcall_eq (in1_ok x.ho 0 (g.lg - 1)) rfl (by simp only [go_sem, i64, ints]) (by simp only [go_sem, i64, ints]) (by first | exact .inl rfl | exact .inr rfl) ?_
          (try simp only [go_sem])
          (try simp (disch := omega) only [wrapI])
          repeat first | intro _ | refine ⟨(by omega), ?_⟩ | refine ⟨⟨by omega, by omega⟩, ?_⟩
          refine hK _ ?_
          clear hK K
          refine awp_ret ?_
          simp only [go_sem]
          simp [h4, h5, h6]
        · have e4 : (x.aw = g.lg) = False := by simp [h6]
          have e5 : (x.aw ≠ g.lg) = True := by simp [h6]
          simp only [e4, e5, go_sem]
          repeat first | intro _ | refine ⟨(by omega), ?_⟩ | refine ⟨⟨by omega, by omega⟩, ?_⟩
          refine hK _ ?_
          clear hK K
          refine awp_ret ?_
          simp only [go_sem]
          simp [h4, h5, h6]
      · try simp only [go_sem]
        repeat first | intro _ | refine ⟨(by omega), ?_⟩ | refine ⟨⟨by omega, by omega⟩, ?_⟩
        refine hK _ ?_
        clear hK K
        refine awp_ret ?_
        simp only [go_sem]
        simp [h4, h5]
    · have e2 : (x.ho = g.lg) = False := by simp [h4]
      have e3 : (x.ho ≠ g.lg) = True := by simp [h4]
      simp only [e2, e3, go_sem]
      by_cases h6 : x.aw = g.lg
      · have e4 : (x.aw = g.lg) = True := by simp [h6]
        have e5 : (x.aw ≠ g.lg) = False := by simp [h6]
        simp only [e4, e5, go_sem]
        refine xcall_eq (in1_ok x.ho 0 (g.lg - 1)) rfl (by simp only [go_sem, i64, ints]) (by simp only [go_sem, i64, ints]) (by first | exact .inl rfl | exact .inr rfl) ?_
        (try simp only [go_sem])
        (try simp (disch := omega) only [wrapI])
        repeat first | intro _ | refine ⟨(by omega), ?_⟩ | refine ⟨⟨by omega, by omega⟩, ?_⟩
        refine hK _ ?_
        clear hK K
        refine awp_ret ?_
        simp only [go_sem]
        simp [h4, h6]
      · have e4 : (x.aw = g.lg) = False := by simp [h6]
        have e5 : (x.aw ≠ g.lg) = True := by simp [h6]
        simp only [e4, e5, go_sem]
        repeat first | intro _ | refine ⟨(by omega), ?_⟩ | refine ⟨⟨by omega, by omega⟩, ?_⟩
        refine hK _ ?_
        clear hK K
        refine awp_ret ?_
        simp only [go_sem]
        simp [h4, h6]
  · have e1 : decide (0 < x.wk) = true := by simp; omega
    rw [e1]
    repeat refine awp_seq ?_
    refine awp_cond rfl (fun hc => ?_) (fun hc => ?_) <;> (try simp only [go_sem] at hc)
    repeat refine awp_seq ?_
    refine awp_reg (by kernel_rfl) fun K hK => ?_
    simp only [go_sem]
    (try simp (disch := omega) only [wrapI])
    by_cases h4 : x.ho = 0
    · have e2 : (x.ho = 0) = True := by simp [h4]
      have e3 : (x.ho ≠ 0) = False := by simp [h4]
      simp only [e2, e3, go_sem]
      repeat first | intro _ | refine ⟨(by omega), ?_⟩ | refine ⟨⟨by omega, by omega⟩, ?_⟩
      refine hK _ ?_
      clear hK K
      refine awp_ret ?_
      simp only [go_sem]
      simp [sheetB, h1, h2, h3, h4]
      rfl
    · have e2 : (x.ho = 0) = False := by simp [h4]
      have e3 : (x.ho ≠ 0) = True := by simp [h4]
      simp only [e2, e3, go_sem]
      repeat first | intro _ | refine ⟨(by omega), ?_⟩ | refine ⟨⟨by omega, by omega⟩, ?_⟩
      refine hK _ ?_
      clear hK K
      refine awp_ret ?_
      simp only [go_sem]
      simp [sheetB, h1, h2, h3, h4]
/-! ### Results -/
structure Res where
  p0 : Int
  p1 : Int
  g0 : Int
  g1 : Int
  l0 : Int
  l1 : Int
  op : List Int
  w : Int
abbrev resC (t : Res) : List RV := [i64 t.p0, i64 t.p1, i64 t.g0, i64 t.g1, i64 t.l0, i64 t.l1, ints t.op, i64 t.w]
def zeroR : Res := ⟨0, 0, 0, 0, 0, 0, [], 0⟩
theorem refWinner_ok (t : Res) (hp : -100000 ≤ t.p0 ∧ t.p0 ≤ 100000) (hp' : -100000 ≤ t.p1 ∧ t.p1 ≤ 100000) : ACalls Try.prog 67 [.ag (resC t)] (i64 (leadW (t.p0 - t.p1) (t.l0 - t.l1))) := by
  refine acalls_st (rs := [i64 (leadW (t.p0 - t.p1) (t.l0 - t.l1))]) [.tmp 2] Try.func67 rfl (by kernel_rfl) Try.ntmps67 rfl (by simp) rfl fun C vs => ?_
  repeat refine awp_seq ?_
  refine awp_reg (by kernel_rfl) fun K hK => ?_
  simp only [go_sem]
  (try simp (disch := omega) only [wrapI])
  repeat first | intro _ | refine ⟨(by omega), ?_⟩ | refine ⟨⟨by omega, by omega⟩, ?_⟩
  refine hK _ ?_
  clear hK K
  repeat refine awp_seq ?_
  refine awp_block ?_
  repeat refine awp_seq ?_
  refine awp_reg (by kernel_rfl) fun K hK => ?_
  simp only [go_sem]
  (try simp (disch := omega) only [wrapI])
  by_cases h1 : t.p1 < t.p0
  · have e1 : (t.p1 < t.p0) = True := by simp [h1]
    simp only [e1, go_sem]
    repeat first | intro _ | refine ⟨(by omega), ?_⟩ | refine ⟨⟨by omega, by omega⟩, ?_⟩
    refine hK _ ?_
    clear hK K
    repeat refine awp_seq ?_
    refine awp_cond rfl (fun hc => ?_) (fun hc => ?_) <;> (try simp only [go_sem] at hc)
    repeat refine awp_seq ?_
    refine awp_reg (by kernel_rfl) fun K hK => ?_
    simp only [go_sem]
    (try simp (disch := omega) only [wrapI])
    repeat first | intro _ | refine ⟨(by omega), ?_⟩ | refine ⟨⟨by omega, by omega⟩, ?_⟩
    refine hK _ ?_
    clear hK K
    refine awp_ret ?_
    simp only [go_sem]
    simp [leadW]; omega
  have e1 : (t.p1 < t.p0) = False := by simp [h1]
  simp only [e1, go_sem]
  by_cases h2 : t.p0 = t.p1
  · have e2 : (t.p0 = t.p1) = True := by simp [h2]
    have e3 : (t.p0 ≠ t.p1) = False := by simp [h2]
    simp only [e2, e3, go_sem]
    repeat first | intro _ | refine ⟨(by omega), ?_⟩ | refine ⟨⟨by omega, by omega⟩, ?_⟩
    refine hK _ ?_
    clear hK K
    by_cases h3 : t.l1 < t.l0
    · have e4 : decide (t.l1 < t.l0) = true := by simp [h3]
      rw [e4]
      repeat refine awp_seq ?_
      refine awp_cond rfl (fun hc => ?_) (fun hc => ?_) <;> (try simp only [go_sem] at hc)
      repeat refine awp_seq ?_
      refine awp_reg (by kernel_rfl) fun K hK => ?_
      simp only [go_sem]
      (try simp (disch := omega) only [wrapI])
      repeat first | intro _ | refine ⟨(by omega), ?_⟩ | refine ⟨⟨by omega, by omega⟩, ?_⟩
      refine hK _ ?_
      clear hK K
      refine awp_ret ?_
      simp only [go_sem]
      simp only [leadW]; (repeat' split) <;> omega
    have e4 : decide (t.l1 < t.l0) = false := by simp [h3]
    rw [e4]
    repeat refine awp_seq ?_
    refine awp_cond rfl (fun hc => ?_) (fun hc => ?_) <;> (try simp only [go_sem] at hc)
    repeat refine awp_seq ?_
    refine awp_reg (by kernel_rfl) fun K hK => ?_
    simp only [go_sem]
    (try simp (disch := omega) only [wrapI])
    have eB : (t.p0 == t.p1 && (t.p1 == t.p0 && true)) = true := by simp [h2]
    simp only [eB, go_sem]
    repeat first | intro _ | refine ⟨(by omega), ?_⟩ | refine ⟨⟨by omega, by omega⟩, ?_⟩
    refine hK _ ?_
    clear hK K
    by_cases h6 : t.l0 = t.l1
    · have e6 : (t.l0 == t.l1) = true := by simp [h6]
      rw [e6]
      repeat refine awp_seq ?_
      refine awp_cond rfl (fun hc => ?_) (fun hc => ?_) <;> (try simp only [go_sem] at hc)
      repeat refine awp_seq ?_
      refine awp_reg (by kernel_rfl) fun K hK => ?_
      simp only [go_sem]
      (try simp (disch := omega) only [wrapI])
      repeat first | intro _ | refine ⟨(by omega), ?_⟩ | refine ⟨⟨by omega, by omega⟩, ?_⟩
      refine hK _ ?_
      clear hK K
      refine awp_ret ?_
      simp only [go_sem]
      simp only [leadW]; (repeat' split) <;> omega
    · have e6 : (t.l0 == t.l1) = false := by simp [h6]
      rw [e6]
      repeat refine awp_seq ?_
      refine awp_cond rfl (fun hc => ?_) (fun hc => ?_) <;> (try simp only [go_sem] at hc)
      refine awp_skip ?_
      try simp only [go_sem]
      repeat refine awp_seq ?_
      refine awp_reg (by kernel_rfl) fun K hK => ?_
      simp only [go_sem]
      (try simp (disch := omega) only [wrapI])
      repeat first | intro _ | refine ⟨(by omega), ?_⟩ | refine ⟨⟨by omega, by omega⟩, ?_⟩
      refine hK _ ?_
      clear hK K
      refine awp_ret ?_
      simp only [go_sem]
      simp only [leadW]; (repeat' split) <;> omega
  · have e2 : (t.p0 = t.p1) = False := by simp [h2]
    have e3 : (t.p0 ≠ t.p1) = True := by simp [h2]
    simp only [e2, e3, go_sem]
    repeat first | intro _ | refine ⟨(by omega), ?_⟩ | refine ⟨⟨by omega, by omega⟩, ?_⟩
    refine hK _ ?_
    clear hK K
    repeat refine awp_seq ?_
    refine awp_cond rfl (fun hc => ?_) (fun hc => ?_) <;> (try simp only [go_sem] at hc)
    repeat refine awp_seq ?_
    refine awp_reg (by kernel_rfl) fun K hK => ?_
    simp only [go_sem]
    (try simp (disch := omega) only [wrapI])
    have eB : (t.p0 == t.p1 && (t.p1 == t.p0 && true)) = false := by simp [h2]
    simp only [eB, go_sem]
    repeat first | intro _ | refine ⟨(by omega), ?_⟩ | refine ⟨⟨by omega, by omega⟩, ?_⟩
    refine hK _ ?_
    clear hK K
    repeat refine awp_seq ?_
    refine awp_cond rfl (fun hc => ?_) (fun hc => ?_) <;> (try simp only [go_sem] at hc)
    refine awp_skip ?_
    try simp only [go_sem]
    repeat refine awp_seq ?_
    refine awp_reg (by kernel_rfl) fun K hK => ?_
    simp only [go_sem]
    (try simp (disch := omega) only [wrapI])
    repeat first | intro _ | refine ⟨(by omega), ?_⟩ | refine ⟨⟨by omega, by omega⟩, ?_⟩
    refine hK _ ?_
    clear hK K
    refine awp_ret ?_
    simp only [go_sem]
    simp only [leadW]; (repeat' split) <;> omega
/-- A game counted with its legs for both sides. -/
def addL (g : Game) (h a : Int) (t : Res) : Res :=
  ⟨if a > h then t.p0 else t.p0 + g.pt, if a > h then t.p1 + g.pt else t.p1, if a > h then t.g0 else t.g0 + 1, if a > h then t.g1 + 1 else t.g1, t.l0 + h, t.l1 + a, t.op, t.w⟩
def smallR (t : Res) : Prop := (0 ≤ t.p0 ∧ t.p0 ≤ 100000) ∧ (0 ≤ t.p1 ∧ t.p1 ≤ 100000) ∧ (0 ≤ t.g0 ∧ t.g0 ≤ 100000) ∧ (0 ≤ t.g1 ∧ t.g1 ≤ 100000) ∧ (0 ≤ t.l0 ∧ t.l0 ≤ 100000) ∧ (0 ≤ t.l1 ∧ t.l1 ≤ 100000)
theorem refAdd_ok (r : Rules) (t : Res) (i : Nat) (g : Game) (h a : Int) (hg : r.gs[i]? = some g) (hpt : 0 ≤ g.pt ∧ g.pt ≤ 99) (ht : smallR t) (hh : 0 ≤ h ∧ h ≤ 15) (ha : 0 ≤ a ∧ a ≤ 15) :
    ACalls Try.prog 66 [.ag (rulesC r), .ag (resC t), i64 i, i64 h, i64 a] (.ag (resC (addL g h a t))) := by
  obtain ⟨q1, q2, q3, q4, q5, q6⟩ := ht
  have hil := (List.getElem?_eq_some_iff.1 hg).1
  refine acalls_st (rs := [.ag (resC (addL g h a t))]) [.cell 10 64] Try.func66 rfl (by kernel_rfl) Try.ntmps66 rfl (by simp) rfl fun C vs => ?_
  repeat refine awp_seq ?_
  refine awp_reg (by kernel_rfl) fun K hK => ?_
  simp only [go_sem]
  (try simp (disch := omega) only [wrapI])
  repeat first | intro _ | refine ⟨(by omega), ?_⟩ | refine ⟨⟨by omega, by omega⟩, ?_⟩
  refine hK _ ?_
  clear hK K
  repeat refine awp_seq ?_
  refine awp_reg (by kernel_rfl) fun K hK => ?_
  simp only [go_sem]
  (try simp (disch := omega) only [wrapI])
  repeat first | intro _ | refine ⟨(by omega), ?_⟩ | refine ⟨⟨by omega, by omega⟩, ?_⟩
  refine hK _ ?_
  clear hK K
  repeat refine awp_seq ?_
  refine awp_reg (by kernel_rfl) fun K hK => ?_
  simp only [go_sem]
  (try simp (disch := omega) only [wrapI])
  repeat first | intro _ | refine ⟨(by omega), ?_⟩ | refine ⟨⟨by omega, by omega⟩, ?_⟩
  refine hK _ ?_
  clear hK K
  by_cases hs : h < a
  · have e1 : decide (h < a) = true := by simp [hs]
    rw [e1]
    repeat refine awp_seq ?_
    refine awp_cond rfl (fun hc => ?_) (fun hc => ?_) <;> (try simp only [go_sem] at hc)
    repeat refine awp_seq ?_
    refine awp_reg (by kernel_rfl) fun K hK => ?_
    simp only [go_sem]
    (try simp (disch := omega) only [wrapI])
    repeat first | intro _ | refine ⟨(by omega), ?_⟩ | refine ⟨⟨by omega, by omega⟩, ?_⟩
    refine hK _ ?_
    clear hK K
    try simp only [go_sem]
    repeat refine awp_seq ?_
    refine awp_dreg follows (by decide +kernel) (by kernel_rfl) fun K hK => ?_
    simp only [go_sem, hg, hil]
    (try simp (disch := omega) only [wrapI])
    repeat first | intro _ | refine ⟨(by omega), ?_⟩ | refine ⟨⟨by omega, by omega⟩, ?_⟩
    refine hK _ ?_
    clear hK K
    repeat refine awp_seq ?_
    refine awp_reg (by kernel_rfl) fun K hK => ?_
    simp only [go_sem]
    (try simp (disch := omega) only [wrapI])
    repeat first | intro _ | refine ⟨(by omega), ?_⟩ | refine ⟨⟨by omega, by omega⟩, ?_⟩
    refine hK _ ?_
    clear hK K
    repeat refine awp_seq ?_
    refine awp_reg (by kernel_rfl) fun K hK => ?_
    simp only [go_sem]
    (try simp (disch := omega) only [wrapI])
    repeat first | intro _ | refine ⟨(by omega), ?_⟩ | refine ⟨⟨by omega, by omega⟩, ?_⟩
    refine hK _ ?_
    clear hK K
    repeat refine awp_seq ?_
    refine awp_reg (by kernel_rfl) fun K hK => ?_
    simp only [go_sem]
    (try simp (disch := omega) only [wrapI])
    repeat first | intro _ | refine ⟨(by omega), ?_⟩ | refine ⟨⟨by omega, by omega⟩, ?_⟩
    refine hK _ ?_
    clear hK K
    refine awp_ret ?_
    simp only [go_sem]
    simp [addL, hs]
  · have e1 : decide (h < a) = false := by simp [hs]
    rw [e1]
    repeat refine awp_seq ?_
    refine awp_cond rfl (fun hc => ?_) (fun hc => ?_) <;> (try simp only [go_sem] at hc)
    refine awp_skip ?_
    try simp only [go_sem]
    repeat refine awp_seq ?_
    refine awp_dreg follows (by decide +kernel) (by kernel_rfl) fun K hK => ?_
    simp only [go_sem, hg, hil]
    (try simp (disch := omega) only [wrapI])
    repeat first | intro _ | refine ⟨(by omega), ?_⟩ | refine ⟨⟨by omega, by omega⟩, ?_⟩
    refine hK _ ?_
    clear hK K
    repeat refine awp_seq ?_
    refine awp_reg (by kernel_rfl) fun K hK => ?_
    simp only [go_sem]
    (try simp (disch := omega) only [wrapI])
    repeat first | intro _ | refine ⟨(by omega), ?_⟩ | refine ⟨⟨by omega, by omega⟩, ?_⟩
    refine hK _ ?_
    clear hK K
    repeat refine awp_seq ?_
    refine awp_reg (by kernel_rfl) fun K hK => ?_
    simp only [go_sem]
    (try simp (disch := omega) only [wrapI])
    repeat first | intro _ | refine ⟨(by omega), ?_⟩ | refine ⟨⟨by omega, by omega⟩, ?_⟩
    refine hK _ ?_
    clear hK K
    repeat refine awp_seq ?_
    refine awp_reg (by kernel_rfl) fun K hK => ?_
    simp only [go_sem]
    (try simp (disch := omega) only [wrapI])
    repeat first | intro _ | refine ⟨(by omega), ?_⟩ | refine ⟨⟨by omega, by omega⟩, ?_⟩
    refine hK _ ?_
    clear hK K
    refine awp_ret ?_
    simp only [go_sem]
    simp [addL, hs]
theorem same_ok (a : Res) : ACalls Try.prog 36 [.ag (resC a), .ag (resC a)] (.bo true) := by
  have h := refInts_ok a.op a.op
  simp only [decide_true] at h
  refine acalls_st (rs := [.bo true]) [.tmp 4] Try.func36 rfl (by kernel_rfl) Try.ntmps36 rfl (by simp) rfl fun C vs => ?_
  repeat refine awp_seq ?_
  refine awp_reg (by kernel_rfl) fun K hK => ?_
  simp only [go_sem]
  (try simp (disch := omega) only [wrapI])
  repeat first | intro _ | refine ⟨(by omega), ?_⟩ | refine ⟨⟨by omega, by omega⟩, ?_⟩
  refine hK _ ?_
  clear hK K
  repeat refine awp_seq ?_
  refine awp_reg (by kernel_rfl) fun K hK => ?_
  simp only [go_sem, beq_self_eq_true, Bool.and_self]
  (try simp (disch := omega) only [wrapI])
  refine xcall_eq (h) rfl (by simp only [go_sem, i64, ints]) (by simp only [go_sem, i64, ints]) (by first | exact .inl rfl | exact .inr rfl) ?_
  (try simp only [go_sem])
  (try simp (disch := omega) only [wrapI])
  repeat first | intro _ | refine ⟨(by omega), ?_⟩ | refine ⟨⟨by omega, by omega⟩, ?_⟩
  refine hK _ ?_
  clear hK K
  refine awp_ret ?_
  simp only [go_sem]
end Go.Proofs.Ytnklbfmdojpfkaa

/- What a sheet counts, and what the open games can bring. -/
namespace Go.Proofs.Ytnklbfmdojpfkaa
open Go Go.Oc
set_option linter.unusedSimpArgs false
set_option linter.unusedVariables false
set_option maxRecDepth 8000
def scoreL (r : Rules) (x : Sheet) : Int × Int := if x.wk = 0 then (x.ho, x.aw) else if x.wk = 1 then (legsOf r x.gm, 0) else (0, legsOf r x.gm)
abbrev nightC (r : Rules) (t : Res) (oc mc : RV) : List RV := [i64 r.squad, games r.gs, i64 r.most, i64 r.bonus, i64 t.p0, i64 t.p1, i64 t.g0, i64 t.g1, i64 t.l0, i64 t.l1, oc, i64 t.w, mc]
theorem sheet_game {r : Rules} {x : Sheet} (hr : rulesB r = true) (h : sheetB r x = true) : ∃ i g, x.gm = ((i : Nat) : Int) ∧ i < r.gs.length ∧ r.gs[i]? = some g ∧ legsOf r x.gm = g.lg ∧ (1 ≤ g.lg ∧ g.lg ≤ 15) ∧ (0 ≤ g.pt ∧ g.pt ≤ 99) ∧ (x.wk = 0 ∨ x.wk = 1 ∨ x.wk = 2) ∧ (0 ≤ (scoreL r x).1 ∧ (scoreL r x).1 ≤ 15 ∧ 0 ≤ (scoreL r x).2 ∧ (scoreL r x).2 ≤ 15) := by
  obtain ⟨_, ⟨f3, f4⟩, _, f7, _⟩ := rulesB_facts hr
  simp only [sheetB, Bool.and_eq_true] at h
  obtain ⟨⟨h1, h2⟩, h3⟩ := h
  have g1 := withinL_one h1
  have g2 := withinL_one h2
  obtain ⟨i, hi⟩ := Int.eq_ofNat_of_zero_le g1.1
  obtain ⟨g, hg⟩ := opt_of_lt (l := r.gs) (i := i) (by omega)
  obtain ⟨_, g5, g6⟩ := f7 g (mem_of_opt hg)
  have hlg : legsOf r x.gm = g.lg := by rw [legsOf, hi, Int.toNat_natCast, hg]
  refine ⟨i, g, hi, by omega, hg, hlg, g5, g6, by omega, ?_⟩
  rw [hlg] at h3
  unfold scoreL
  rw [hlg]
  split
  · rename_i h0
    rw [if_pos h0] at h3
    simp only [Bool.and_eq_true, decide_eq_true_eq] at h3
    have := withinL_one h3.2
    simp only
    omega
  · split <;> (simp only; omega)
theorem scores_ok (r : Rules) (t : Res) (oc mc : RV) (x : Sheet) (hr : rulesB r = true) (hx : sheetB r x = true) : ACalls Try.prog 76 [.rp (nightC r t oc mc), .ag (sheetC x)] (.ag [i64 (scoreL r x).1, i64 (scoreL r x).2]) := by
  obtain ⟨i, g, hi, hil, hg, hlg, g5, g6, hwk, _⟩ := sheet_game hr hx
  have hz0 : (0 : Int) ≤ x.gm := by omega
  have hz1 : x.gm < r.gs.length := by omega
  have hti : x.gm.toNat = i := by rw [hi, Int.toNat_natCast]
  refine acalls_st (rs := [.ag [i64 (scoreL r x).1, i64 (scoreL r x).2]]) [.cell 4 56] Try.func76 rfl (by kernel_rfl) Try.ntmps76 rfl (by simp) rfl fun C vs => ?_
  repeat refine awp_seq ?_
  refine awp_reg (by kernel_rfl) fun K hK => ?_
  simp only [go_sem]
  (try simp (disch := omega) only [wrapI])
  repeat first | intro _ | refine ⟨(by omega), ?_⟩ | refine ⟨⟨by omega, by omega⟩, ?_⟩
  refine hK _ ?_
  clear hK K
  repeat refine awp_seq ?_
  refine awp_dreg follows (by decide +kernel) (by kernel_rfl) fun K hK => ?_
  simp only [go_sem, hti, hg, hz0, hz1]
  (try simp (disch := omega) only [wrapI])
  repeat first | intro _ | refine ⟨(by omega), ?_⟩ | refine ⟨⟨by omega, by omega⟩, ?_⟩
  refine hK _ ?_
  clear hK K
  repeat refine awp_seq ?_
  refine awp_reg (by kernel_rfl) fun K hK => ?_
  simp only [go_sem]
  (try simp (disch := omega) only [wrapI])
  rcases hwk with h | h | h
  · simp only [h, go_sem]
    refine ⟨by decide, ?_⟩
    repeat first | intro _ | refine ⟨(by omega), ?_⟩ | refine ⟨⟨by omega, by omega⟩, ?_⟩
    refine hK _ ?_
    clear hK K
    refine awp_ret ?_
    simp only [go_sem]
    simp [scoreL, h]
  · simp only [h, go_sem]
    refine ⟨by decide, ?_⟩
    repeat first | intro _ | refine ⟨(by omega), ?_⟩ | refine ⟨⟨by omega, by omega⟩, ?_⟩
    refine hK _ ?_
    clear hK K
    refine awp_ret ?_
    simp only [go_sem]
    simp [scoreL, h, hlg]
  · simp only [h, go_sem]
    refine ⟨by decide, ?_⟩
    repeat first | intro _ | refine ⟨(by omega), ?_⟩ | refine ⟨⟨by omega, by omega⟩, ?_⟩
    refine hK _ ?_
    clear hK K
    refine awp_ret ?_
    simp only [go_sem]
    simp [scoreL, h, hlg]
/-- What the open games bring. -/
def openP (r : Rules) (op : List Int) : Int := (op.map fun i => match r.gs[i.toNat]? with | some g => g.pt | none => 0).sum
def openG (r : Rules) (op : List Int) : Int := (op.map fun i => legsOf r i).sum
theorem open_bounds {r : Rules} (hr : rulesB r = true) (q : List Int) : (0 ≤ openP r q ∧ openP r q ≤ 99 * q.length) ∧ 0 ≤ openG r q ∧ openG r q ≤ 15 * q.length := by
  obtain ⟨_, _, _, f7, _⟩ := rulesB_facts hr
  have h1 := sum_le 99 (q.map fun i => match r.gs[i.toNat]? with | some g => g.pt | none => 0) (fun y hy => by
    obtain ⟨i, _, rfl⟩ := List.mem_map.1 hy
    cases h : r.gs[i.toNat]? with
    | none => simp
    | some g => have := (f7 g (mem_of_opt h)).2.2; simpa using this)
  have h2 := sum_le 15 (q.map fun i => legsOf r i) (fun y hy => by
    obtain ⟨i, _, rfl⟩ := List.mem_map.1 hy
    unfold legsOf
    cases h : r.gs[i.toNat]? with
    | none => simp
    | some g => have := (f7 g (mem_of_opt h)).2.1; simp only; omega)
  rw [List.length_map] at h1 h2
  exact ⟨h1, h2⟩
theorem openP_snoc {r : Rules} {q : List Int} {i : Nat} {g : Game} (hg : r.gs[i]? = some g) : openP r (q ++ [(i : Int)]) = openP r q + g.pt ∧ openG r (q ++ [(i : Int)]) = openG r q + g.lg := by
  unfold openP openG legsOf
  rw [List.map_append, List.map_append, List.sum_append, List.sum_append]
  simp [hg]
theorem ends_ok (r : Rules) (t : Res) (oc mc : RV) (hr : rulesB r = true) (ht : smallR t) (hoc : oc = ints t.op ∨ (oc = .ns ∧ t.op = [])) (hop : ∀ i ∈ t.op, 0 ≤ i ∧ i < r.gs.length) (hol : t.op.length ≤ 25) :
    ACalls Try.prog 74 [.rp (nightC r t oc mc)] (.tu [.ag [i64 (t.p0 - t.p1 + openP r t.op), i64 (t.l0 - t.l1 + openG r t.op)], .ag [i64 (t.p0 - t.p1 - openP r t.op), i64 (t.l0 - t.l1 - openG r t.op)]]) := by
  obtain ⟨q1, q2, q3, q4, q5, q6⟩ := ht
  obtain ⟨_, ⟨f3, f4⟩, _, f7, _⟩ := rulesB_facts hr
  refine acalls_st (rs := [.ag [i64 (t.p0 - t.p1 + openP r t.op), i64 (t.l0 - t.l1 + openG r t.op)], .ag [i64 (t.p0 - t.p1 - openP r t.op), i64 (t.l0 - t.l1 - openG r t.op)]]) [.cell 2 138, .cell 3 138] Try.func74 rfl (by kernel_rfl) Try.ntmps74 rfl (by simp) rfl fun C vs => ?_
  repeat refine awp_seq ?_
  refine awp_reg (by kernel_rfl) fun K hK => ?_
  simp only [go_sem]
  (try simp (disch := omega) only [wrapI])
  repeat first | intro _ | refine ⟨(by omega), ?_⟩ | refine ⟨⟨by omega, by omega⟩, ?_⟩
  refine hK _ ?_
  clear hK K
  repeat refine awp_seq ?_
  refine awp_dreg follows (by decide +kernel) (by kernel_rfl) fun K hK => ?_
  simp only [go_sem]
  (try simp (disch := omega) only [wrapI])
  repeat first | intro _ | refine ⟨(by omega), ?_⟩ | refine ⟨⟨by omega, by omega⟩, ?_⟩
  refine hK _ ?_
  clear hK K
  repeat refine awp_seq ?_
  refine awp_reg (by kernel_rfl) fun K hK => ?_
  simp only [go_sem]
  (try simp (disch := omega) only [wrapI])
  repeat first | intro _ | refine ⟨(by omega), ?_⟩ | refine ⟨⟨by omega, by omega⟩, ?_⟩
  refine hK _ ?_
  clear hK K
  rcases hoc with rfl | ⟨rfl, he⟩
  · repeat refine awp_seq ?_
    refine awp_reg (by kernel_rfl) fun K hK => ?_
    simp only [go_sem]
    (try simp (disch := omega) only [wrapI])
    intro _
    repeat first | intro _ | refine ⟨(by omega), ?_⟩ | refine ⟨⟨by omega, by omega⟩, ?_⟩
    refine hK _ ?_
    clear hK K
    repeat refine awp_seq ?_
    refine awp_block ?_
    refine awp_upto (n := 81) t.op.length (fun k vs => [(0, .r (.rp (nightC r t (ints t.op) mc))), (2, .pt 2 (vs 2) 0), (3, .pt 3 (vs 3) 0), (39, .r (ints t.op)), (40, .r (i64 t.op.length)), (41, .r (i64 k))])
      (fun k => [(2, .box [.r (i64 (t.p0 - t.p1 + openP r (t.op.take k))), .r (i64 (t.l0 - t.l1 + openG r (t.op.take k)))]), (3, .box [.r (i64 (t.p0 - t.p1 - openP r (t.op.take k))), .r (i64 (t.l0 - t.l1 - openG r (t.op.take k)))])])
      (fun _ => True) 0 (fit_of [] ?_ ?_) (Nat.zero_le _) trivial ?_
    · try simp only [go_sem]
    · try simp only [go_sem]
      simp [openP, openG]
    · intro k vs hk _
      have hb := open_bounds hr (t.op.take k)
      simp only [List.length_take] at hb
      repeat refine awp_seq ?_
      refine awp_reg (by kernel_rfl) fun K hK => ?_
      simp only [go_sem]
      (try simp (disch := omega) only [wrapI])
      repeat first | intro _ | refine ⟨(by omega), ?_⟩ | refine ⟨⟨by omega, by omega⟩, ?_⟩
      refine hK _ ?_
      clear hK K
      repeat refine awp_seq ?_
      refine awp_cond rfl (fun hc => ?_) (fun hc => ?_) <;> (try simp only [go_sem] at hc)
      · have hck := hc
        obtain ⟨x, hx⟩ := opt_of_lt hck
        have hxo := hop x (mem_of_opt hx)
        obtain ⟨i, hi⟩ := Int.eq_ofNat_of_zero_le hxo.1
        subst hi
        have hil : i < r.gs.length := by omega
        obtain ⟨g, hg⟩ := opt_of_lt hil
        obtain ⟨_, g5, g6⟩ := f7 g (mem_of_opt hg)
        have hsn := openP_snoc (q := t.op.take k) hg
        refine awp_skip ?_
        repeat refine awp_seq ?_
        refine awp_block ?_
        repeat refine awp_seq ?_
        refine awp_reg (by kernel_rfl) fun K hK => ?_
        simp only [go_sem, hx, hck]
        (try simp (disch := omega) only [wrapI])
        repeat first | intro _ | refine ⟨(by omega), ?_⟩ | refine ⟨⟨by omega, by omega⟩, ?_⟩
        refine hK _ ?_
        clear hK K
        repeat refine awp_seq ?_
        refine awp_reg (by kernel_rfl) fun K hK => ?_
        simp only [go_sem, hg, hil]
        (try simp (disch := omega) only [wrapI])
        repeat first | intro _ | refine ⟨(by omega), ?_⟩ | refine ⟨⟨by omega, by omega⟩, ?_⟩
        refine hK _ ?_
        clear hK K
        repeat refine awp_seq ?_
        refine awp_dreg2 [(2, some 2), (6, some 6)] follows (by decide +kernel) (by kernel_rfl) (by simp only [keysOk, List.mem_cons, List.not_mem_nil, forall_eq_or_imp, Oc.keyOf, go_sem]; simp) fun K hK => ?_
        simp only [go_sem]
        (try simp (disch := omega) only [wrapI])
        repeat first | intro _ | refine ⟨(by omega), ?_⟩ | refine ⟨⟨by omega, by omega⟩, ?_⟩
        refine hK _ ?_
        clear hK K
        repeat refine awp_seq ?_
        refine awp_dreg2 [(3, some 3), (6, some 6)] follows (by decide +kernel) (by kernel_rfl) (by simp only [keysOk, List.mem_cons, List.not_mem_nil, forall_eq_or_imp, Oc.keyOf, go_sem]; simp) fun K hK => ?_
        simp only [go_sem]
        (try simp (disch := omega) only [wrapI])
        repeat first | intro _ | refine ⟨(by omega), ?_⟩ | refine ⟨⟨by omega, by omega⟩, ?_⟩
        refine hK _ ?_
        clear hK K
        try simp only [go_sem]
        repeat refine awp_seq ?_
        refine awp_reg (by kernel_rfl) fun K hK => ?_
        simp only [go_sem]
        (try simp (disch := omega) only [wrapI])
        repeat first | intro _ | refine ⟨(by omega), ?_⟩ | refine ⟨⟨by omega, by omega⟩, ?_⟩
        refine hK _ ?_
        clear hK K
        try simp only [go_sem]
        refine ⟨hck, fit_of [6] ?_ ?_⟩
        · try simp only [go_sem]
        · try simp only [go_sem]
          rw [take_of_opt hx, hsn.1, hsn.2]
          simp only [Int.add_assoc, Int.sub_sub]
      · have : k = t.op.length := by omega
        subst this
        rw [List.take_length]
        refine awp_exit ?_
        simp only [go_sem]
        repeat refine awp_seq ?_
        refine awp_dreg2 [(2, some 2), (3, some 3)] follows (by decide +kernel) (by kernel_rfl) (by simp only [keysOk, List.mem_cons, List.not_mem_nil, forall_eq_or_imp, Oc.keyOf, go_sem]; simp) fun K hK => ?_
        simp only [go_sem]
        (try simp (disch := omega) only [wrapI])
        repeat first | intro _ | refine ⟨(by omega), ?_⟩ | refine ⟨⟨by omega, by omega⟩, ?_⟩
        refine hK _ ?_
        clear hK K
        refine awp_ret ?_
        simp only [go_sem]
  · repeat refine awp_seq ?_
    refine awp_reg (by kernel_rfl) fun K hK => ?_
    simp only [go_sem]
    (try simp (disch := omega) only [wrapI])
    repeat first | intro _ | refine ⟨(by omega), ?_⟩ | refine ⟨⟨by omega, by omega⟩, ?_⟩
    refine hK _ ?_
    clear hK K
    repeat refine awp_seq ?_
    refine awp_block ?_
    refine awp_upto (n := 81) 0 (fun k vs => [(0, .r (.rp (nightC r t .ns mc))), (2, .pt 2 (vs 2) 0), (3, .pt 3 (vs 3) 0), (40, .r (i64 0)), (41, .r (i64 0))])
      (fun k => [(2, .box [.r (i64 (t.p0 - t.p1)), .r (i64 (t.l0 - t.l1))]), (3, .box [.r (i64 (t.p0 - t.p1)), .r (i64 (t.l0 - t.l1))])])
      (fun _ => True) 0 (fit_of [] ?_ ?_) (Nat.zero_le _) trivial ?_
    · try simp only [go_sem]
    · try simp only [go_sem]
    · intro k vs hk _
      repeat refine awp_seq ?_
      refine awp_reg (by kernel_rfl) fun K hK => ?_
      simp only [go_sem]
      (try simp (disch := omega) only [wrapI])
      repeat first | intro _ | refine ⟨(by omega), ?_⟩ | refine ⟨⟨by omega, by omega⟩, ?_⟩
      refine hK _ ?_
      clear hK K
      repeat refine awp_seq ?_
      refine awp_cond rfl (fun hc => ?_) (fun hc => ?_) <;> (try simp only [go_sem] at hc)
      refine awp_exit ?_
      simp only [go_sem]
      repeat refine awp_seq ?_
      refine awp_dreg2 [(2, some 2), (3, some 3)] follows (by decide +kernel) (by kernel_rfl) (by simp only [keysOk, List.mem_cons, List.not_mem_nil, forall_eq_or_imp, Oc.keyOf, go_sem]; simp) fun K hK => ?_
      simp only [go_sem]
      (try simp (disch := omega) only [wrapI])
      repeat first | intro _ | refine ⟨(by omega), ?_⟩ | refine ⟨⟨by omega, by omega⟩, ?_⟩
      refine hK _ ?_
      clear hK K
      refine awp_ret ?_
      simp only [go_sem]
      rw [he]
      simp [openP, openG]
abbrev nightB (r : Rules) (t : Res) (oc : AV) : List AV := [.r (i64 r.squad), .r (games r.gs), .r (i64 r.most), .r (i64 r.bonus), .r (i64 t.p0), .r (i64 t.p1), .r (i64 t.g0), .r (i64 t.g1), .r (i64 t.l0), .r (i64 t.l1), oc, .r (i64 t.w), .mp 1001 0]
theorem add_ok (r : Rules) (t : Res) (x : Sheet) (M : List (RV × RV)) (i : Nat) (g : Game) (q : List Int) (hr : rulesB r = true) (hx : sheetB r x = true) (hi : x.gm = (i : Int)) (hg : r.gs[i]? = some g) (ht : smallR t) :
    MCalls Try.prog 73 [(1000, .box (nightB r t (.os 1002 0 1 0 q.length))), (1001, .mp M), (1002, .arr 3 1 (q.map fun x => [i64 x]))] [(1000, .box (nightB r (addL g (scoreL r x).1 (scoreL r x).2 t) (.os 1002 0 1 0 q.length))), (1001, .mp M), (1002, .arr 3 1 (q.map fun x => [i64 x]))] [.pt 1000 0 0, .ag [.r (i64 x.gm), .r (i64 x.ho), .r (i64 x.aw), .r (i64 x.wk)]] (.tu []) := by
  obtain ⟨j, g', hj, hjl, hg', hlg, g5, g6, hwk, hsc⟩ := sheet_game hr hx
  obtain rfl : i = j := by omega
  obtain rfl : g = g' := by rw [hg] at hg'; injection hg'
  have hz0 : (0 : Int) ≤ x.gm := by omega
  have hz1 : x.gm < r.gs.length := by omega
  have hti : x.gm.toNat = i := by rw [hi, Int.toNat_natCast]
  obtain ⟨q1, q2, q3, q4, q5, q6⟩ := ht
  refine mcalls_st (n := 69) (rs := []) _ _ [] Try.func73 rfl (by kernel_rfl) Try.ntmps73 rfl (by simp) rfl rfl fun C => ?_
  repeat refine awp_seq ?_
  refine awp_reg (by kernel_rfl) fun K hK => ?_
  simp only [go_sem]
  (try simp (disch := omega) only [wrapI])
  repeat first | intro _ | refine ⟨(by omega), ?_⟩ | refine ⟨⟨by omega, by omega⟩, ?_⟩
  refine hK _ ?_
  clear hK K
  repeat refine awp_seq ?_
  refine awp_reg (by kernel_rfl) fun K hK => ?_
  simp only [go_sem]
  (try simp (disch := omega) only [wrapI])
  refine xcall_eq (scores_ok r t (ints q) .un x hr hx) rfl (by simp only [go_sem, i64, ints]) (by simp only [go_sem, i64, ints]) (by first | exact .inl rfl | exact .inr rfl) ?_
  (try simp only [go_sem])
  (try simp (disch := omega) only [wrapI])
  repeat first | intro _ | refine ⟨(by omega), ?_⟩ | refine ⟨⟨by omega, by omega⟩, ?_⟩
  refine hK _ ?_
  clear hK K
  generalize hq1 : (scoreL r x).1 = h at *
  generalize hq2 : (scoreL r x).2 = a at *
  repeat refine awp_seq ?_
  refine awp_reg (by kernel_rfl) fun K hK => ?_
  simp only [go_sem]
  (try simp (disch := omega) only [wrapI])
  repeat first | intro _ | refine ⟨(by omega), ?_⟩ | refine ⟨⟨by omega, by omega⟩, ?_⟩
  refine hK _ ?_
  clear hK K
  by_cases hs : h < a
  · have e1 : decide (h < a) = true := by simp [hs]
    rw [e1]
    repeat refine awp_seq ?_
    refine awp_cond rfl (fun hc => ?_) (fun hc => ?_) <;> (try simp only [go_sem] at hc)
    repeat refine awp_seq ?_
    refine awp_reg (by kernel_rfl) fun K hK => ?_
    simp only [go_sem]
    (try simp (disch := omega) only [wrapI])
    repeat first | intro _ | refine ⟨(by omega), ?_⟩ | refine ⟨⟨by omega, by omega⟩, ?_⟩
    refine hK _ ?_
    clear hK K
    try simp only [go_sem]
    repeat refine awp_seq ?_
    refine awp_dreg follows (by decide +kernel) (by kernel_rfl) fun K hK => ?_
    simp only [go_sem, hti, hg, hz0, hz1]
    (try simp (disch := omega) only [wrapI])
    repeat first | intro _ | refine ⟨(by omega), ?_⟩ | refine ⟨⟨by omega, by omega⟩, ?_⟩
    refine hK _ ?_
    clear hK K
    repeat refine awp_seq ?_
    refine awp_dreg follows (by decide +kernel) (by kernel_rfl) fun K hK => ?_
    simp only [go_sem]
    (try simp (disch := omega) only [wrapI])
    repeat first | intro _ | refine ⟨(by omega), ?_⟩ | refine ⟨⟨by omega, by omega⟩, ?_⟩
    refine hK _ ?_
    clear hK K
    try simp only [go_sem]
    repeat refine awp_seq ?_
    refine awp_reg (by kernel_rfl) fun K hK => ?_
    simp only [go_sem]
    (try simp (disch := omega) only [wrapI])
    repeat first | intro _ | refine ⟨(by omega), ?_⟩ | refine ⟨⟨by omega, by omega⟩, ?_⟩
    refine hK _ ?_
    clear hK K
    repeat refine awp_seq ?_
    refine awp_block ?_
    refine awp_upto (n := 69) 2 (fun k vs => [(0, .pt 1000 (vs 1000) 0), (4, .pt 4 (vs 4) 0), (50, .r (i64 k))])
      (fun k => [(4, .box [.r (i64 h), .r (i64 a)]), (1000, .box (nightB r ⟨t.p0, t.p1 + g.pt, t.g0, t.g1 + 1, if k = 0 then t.l0 else t.l0 + h, if k ≤ 1 then t.l1 else t.l1 + a, t.op, t.w⟩ (.os 1002 0 1 0 q.length))), (1001, .mp M), (1002, .arr 3 1 (q.map fun x => [i64 x]))])
      (fun _ => True) 0 (fit_of [3] ?_ ?_) (Nat.zero_le _) trivial ?_
    · try simp only [go_sem]
    · try simp only [go_sem]
    · intro k vs hk _
      have h3 : k = 0 ∨ k = 1 ∨ k = 2 := by omega
      rcases h3 with rfl | rfl | rfl
      · repeat refine awp_seq ?_
        refine awp_reg (by kernel_rfl) fun K hK => ?_
        simp only [go_sem]
        (try simp (disch := omega) only [wrapI])
        repeat first | intro _ | refine ⟨(by omega), ?_⟩ | refine ⟨⟨by omega, by omega⟩, ?_⟩
        refine hK _ ?_
        clear hK K
        repeat refine awp_seq ?_
        refine awp_cond rfl (fun hc => ?_) (fun hc => ?_) <;> (try simp only [go_sem] at hc)
        refine awp_skip ?_
        repeat refine awp_seq ?_
        refine awp_block ?_
        repeat refine awp_seq ?_
        refine awp_reg (by kernel_rfl) fun K hK => ?_
        simp only [go_sem]
        (try simp (disch := omega) only [wrapI])
        repeat first | intro _ | refine ⟨(by omega), ?_⟩ | refine ⟨⟨by omega, by omega⟩, ?_⟩
        refine hK _ ?_
        clear hK K
        repeat refine awp_seq ?_
        refine awp_dreg follows (by decide +kernel) (by kernel_rfl) fun K hK => ?_
        simp only [go_sem]
        (try simp (disch := omega) only [wrapI])
        repeat first | intro _ | refine ⟨(by omega), ?_⟩ | refine ⟨⟨by omega, by omega⟩, ?_⟩
        refine hK _ ?_
        clear hK K
        try simp only [go_sem]
        repeat refine awp_seq ?_
        refine awp_reg (by kernel_rfl) fun K hK => ?_
        simp only [go_sem]
        (try simp (disch := omega) only [wrapI])
        repeat first | intro _ | refine ⟨(by omega), ?_⟩ | refine ⟨⟨by omega, by omega⟩, ?_⟩
        refine hK _ ?_
        clear hK K
        try simp only [go_sem]
        refine fit_of [] ?_ ?_
        · try simp only [go_sem]
        · try simp only [go_sem]
      · repeat refine awp_seq ?_
        refine awp_reg (by kernel_rfl) fun K hK => ?_
        simp only [go_sem]
        (try simp (disch := omega) only [wrapI])
        repeat first | intro _ | refine ⟨(by omega), ?_⟩ | refine ⟨⟨by omega, by omega⟩, ?_⟩
        refine hK _ ?_
        clear hK K
        repeat refine awp_seq ?_
        refine awp_cond rfl (fun hc => ?_) (fun hc => ?_) <;> (try simp only [go_sem] at hc)
        refine awp_skip ?_
        repeat refine awp_seq ?_
        refine awp_block ?_
        repeat refine awp_seq ?_
        refine awp_reg (by kernel_rfl) fun K hK => ?_
        simp only [go_sem]
        (try simp (disch := omega) only [wrapI])
        repeat first | intro _ | refine ⟨(by omega), ?_⟩ | refine ⟨⟨by omega, by omega⟩, ?_⟩
        refine hK _ ?_
        clear hK K
        repeat refine awp_seq ?_
        refine awp_dreg follows (by decide +kernel) (by kernel_rfl) fun K hK => ?_
        simp only [go_sem]
        (try simp (disch := omega) only [wrapI])
        repeat first | intro _ | refine ⟨(by omega), ?_⟩ | refine ⟨⟨by omega, by omega⟩, ?_⟩
        refine hK _ ?_
        clear hK K
        try simp only [go_sem]
        repeat refine awp_seq ?_
        refine awp_reg (by kernel_rfl) fun K hK => ?_
        simp only [go_sem]
        (try simp (disch := omega) only [wrapI])
        repeat first | intro _ | refine ⟨(by omega), ?_⟩ | refine ⟨⟨by omega, by omega⟩, ?_⟩
        refine hK _ ?_
        clear hK K
        try simp only [go_sem]
        refine fit_of [] ?_ ?_
        · try simp only [go_sem]
        · try simp only [go_sem]
      · repeat refine awp_seq ?_
        refine awp_reg (by kernel_rfl) fun K hK => ?_
        simp only [go_sem]
        (try simp (disch := omega) only [wrapI])
        repeat first | intro _ | refine ⟨(by omega), ?_⟩ | refine ⟨⟨by omega, by omega⟩, ?_⟩
        refine hK _ ?_
        clear hK K
        repeat refine awp_seq ?_
        refine awp_cond rfl (fun hc => ?_) (fun hc => ?_) <;> (try simp only [go_sem] at hc)
        refine awp_exit ?_
        simp only [go_sem]
        simp [addL, hs]
  · have e1 : decide (h < a) = false := by simp [hs]
    rw [e1]
    repeat refine awp_seq ?_
    refine awp_cond rfl (fun hc => ?_) (fun hc => ?_) <;> (try simp only [go_sem] at hc)
    refine awp_skip ?_
    try simp only [go_sem]
    repeat refine awp_seq ?_
    refine awp_dreg follows (by decide +kernel) (by kernel_rfl) fun K hK => ?_
    simp only [go_sem, hti, hg, hz0, hz1]
    (try simp (disch := omega) only [wrapI])
    repeat first | intro _ | refine ⟨(by omega), ?_⟩ | refine ⟨⟨by omega, by omega⟩, ?_⟩
    refine hK _ ?_
    clear hK K
    repeat refine awp_seq ?_
    refine awp_dreg follows (by decide +kernel) (by kernel_rfl) fun K hK => ?_
    simp only [go_sem]
    (try simp (disch := omega) only [wrapI])
    repeat first | intro _ | refine ⟨(by omega), ?_⟩ | refine ⟨⟨by omega, by omega⟩, ?_⟩
    refine hK _ ?_
    clear hK K
    try simp only [go_sem]
    repeat refine awp_seq ?_
    refine awp_reg (by kernel_rfl) fun K hK => ?_
    simp only [go_sem]
    (try simp (disch := omega) only [wrapI])
    repeat first | intro _ | refine ⟨(by omega), ?_⟩ | refine ⟨⟨by omega, by omega⟩, ?_⟩
    refine hK _ ?_
    clear hK K
    repeat refine awp_seq ?_
    refine awp_block ?_
    refine awp_upto (n := 69) 2 (fun k vs => [(0, .pt 1000 (vs 1000) 0), (4, .pt 4 (vs 4) 0), (50, .r (i64 k))])
      (fun k => [(4, .box [.r (i64 h), .r (i64 a)]), (1000, .box (nightB r ⟨t.p0 + g.pt, t.p1, t.g0 + 1, t.g1, if k = 0 then t.l0 else t.l0 + h, if k ≤ 1 then t.l1 else t.l1 + a, t.op, t.w⟩ (.os 1002 0 1 0 q.length))), (1001, .mp M), (1002, .arr 3 1 (q.map fun x => [i64 x]))])
      (fun _ => True) 0 (fit_of [3] ?_ ?_) (Nat.zero_le _) trivial ?_
    · try simp only [go_sem]
    · try simp only [go_sem]
    · intro k vs hk _
      have h3 : k = 0 ∨ k = 1 ∨ k = 2 := by omega
      rcases h3 with rfl | rfl | rfl
      · repeat refine awp_seq ?_
        refine awp_reg (by kernel_rfl) fun K hK => ?_
        simp only [go_sem]
        (try simp (disch := omega) only [wrapI])
        repeat first | intro _ | refine ⟨(by omega), ?_⟩ | refine ⟨⟨by omega, by omega⟩, ?_⟩
        refine hK _ ?_
        clear hK K
        repeat refine awp_seq ?_
        refine awp_cond rfl (fun hc => ?_) (fun hc => ?_) <;> (try simp only [go_sem] at hc)
        refine awp_skip ?_
        repeat refine awp_seq ?_
        refine awp_block ?_
        repeat refine awp_seq ?_
        refine awp_reg (by kernel_rfl) fun K hK => ?_
        simp only [go_sem]
        (try simp (disch := omega) only [wrapI])
        repeat first | intro _ | refine ⟨(by omega), ?_⟩ | refine ⟨⟨by omega, by omega⟩, ?_⟩
        refine hK _ ?_
        clear hK K
        repeat refine awp_seq ?_
        refine awp_dreg follows (by decide +kernel) (by kernel_rfl) fun K hK => ?_
        simp only [go_sem]
        (try simp (disch := omega) only [wrapI])
        repeat first | intro _ | refine ⟨(by omega), ?_⟩ | refine ⟨⟨by omega, by omega⟩, ?_⟩
        refine hK _ ?_
        clear hK K
        try simp only [go_sem]
        repeat refine awp_seq ?_
        refine awp_reg (by kernel_rfl) fun K hK => ?_
        simp only [go_sem]
        (try simp (disch := omega) only [wrapI])
        repeat first | intro _ | refine ⟨(by omega), ?_⟩ | refine ⟨⟨by omega, by omega⟩, ?_⟩
        refine hK _ ?_
        clear hK K
        try simp only [go_sem]
        refine fit_of [] ?_ ?_
        · try simp only [go_sem]
        · try simp only [go_sem]
      · repeat refine awp_seq ?_
        refine awp_reg (by kernel_rfl) fun K hK => ?_
        simp only [go_sem]
        (try simp (disch := omega) only [wrapI])
        repeat first | intro _ | refine ⟨(by omega), ?_⟩ | refine ⟨⟨by omega, by omega⟩, ?_⟩
        refine hK _ ?_
        clear hK K
        repeat refine awp_seq ?_
        refine awp_cond rfl (fun hc => ?_) (fun hc => ?_) <;> (try simp only [go_sem] at hc)
        refine awp_skip ?_
        repeat refine awp_seq ?_
        refine awp_block ?_
        repeat refine awp_seq ?_
        refine awp_reg (by kernel_rfl) fun K hK => ?_
        simp only [go_sem]
        (try simp (disch := omega) only [wrapI])
        repeat first | intro _ | refine ⟨(by omega), ?_⟩ | refine ⟨⟨by omega, by omega⟩, ?_⟩
        refine hK _ ?_
        clear hK K
        repeat refine awp_seq ?_
        refine awp_dreg follows (by decide +kernel) (by kernel_rfl) fun K hK => ?_
        simp only [go_sem]
        (try simp (disch := omega) only [wrapI])
        repeat first | intro _ | refine ⟨(by omega), ?_⟩ | refine ⟨⟨by omega, by omega⟩, ?_⟩
        refine hK _ ?_
        clear hK K
        try simp only [go_sem]
        repeat refine awp_seq ?_
        refine awp_reg (by kernel_rfl) fun K hK => ?_
        simp only [go_sem]
        (try simp (disch := omega) only [wrapI])
        repeat first | intro _ | refine ⟨(by omega), ?_⟩ | refine ⟨⟨by omega, by omega⟩, ?_⟩
        refine hK _ ?_
        clear hK K
        try simp only [go_sem]
        refine fit_of [] ?_ ?_
        · try simp only [go_sem]
        · try simp only [go_sem]
      · repeat refine awp_seq ?_
        refine awp_reg (by kernel_rfl) fun K hK => ?_
        simp only [go_sem]
        (try simp (disch := omega) only [wrapI])
        repeat first | intro _ | refine ⟨(by omega), ?_⟩ | refine ⟨⟨by omega, by omega⟩, ?_⟩
        refine hK _ ?_
        clear hK K
        repeat refine awp_seq ?_
        refine awp_cond rfl (fun hc => ?_) (fun hc => ?_) <;> (try simp only [go_sem] at hc)
        refine awp_exit ?_
        simp only [go_sem]
        simp [addL, hs]
end Go.Proofs.Ytnklbfmdojpfkaa

/- A slice of one's own in a variable's cell becomes plain data; the nil slice there a slice without elements. -/
namespace Go.Oc
open Go Go.RowKit
set_option linter.unusedVariables false
theorem relV_set {w : World} {p : Plan} {ver : Nat → Nat} {y : AV} : ∀ {xs : List AV} {vs : List Value} {i : Nat}, AV.relV w p ver xs vs → (∀ u, vs[i]? = some u → y.rel w p ver u) → AV.relV w p ver (xs.set i y) vs
  | [], vs, i, h, _ => by simpa using h
  | x :: xs, vs, 0, h, hy => by
    simp only [AV.relV] at h
    obtain ⟨u, us, rfl, h1, h2⟩ := h
    simp only [List.set_cons_zero, AV.relV]
    exact ⟨u, us, rfl, hy u rfl, h2⟩
  | x :: xs, vs, i + 1, h, hy => by
    simp only [AV.relV] at h
    obtain ⟨u, us, rfl, h1, h2⟩ := h
    simp only [List.set_cons_succ, AV.relV]
    exact ⟨u, us, rfl, h1, relV_set h2 fun v hv => hy v (by simpa using hv)⟩
theorem SR.cell {C : Ctx} {p : Plan} {a : Act} {w : World} {s : AS} (hp : SR C p s a w) (kb i : Nat) {cells : List AV} {x y : AV} (hbox : (s.rows kb).c = .box cells) (hi : cells[i]? = some x)
    (hy : ∀ {u : Value}, x.rel w p s.ver u → y.rel w p s.ver u) : SR C p { s with rows := upd s.rows kb ⟨(s.rows kb).ver, .box (cells.set i y)⟩ } a w := by
  have hr := hp.rw kb
  rw [hbox] at hr
  simp only [rowRel] at hr
  obtain ⟨b, cs, t, h1, h2, h3, h4⟩ := hr
  refine hp.setRow (w' := w) kb _ (by rw [hbox]; rfl) (fun _ _ _ _ h => by cases h) h1 rfl rfl rfl rfl (fun _ _ => rfl) fun _ => ?_
  simp only [rowRel]
  refine ⟨b, cs, t, h1, h2, relV_set h3 (fun u hu => ?_), h4⟩
  obtain ⟨u', hu', hx⟩ := AV.relV_get h3 hi
  rw [hu] at hu'
  injection hu' with e
  subst e
  exact hy hx
theorem sub_cell (s : AS) (kb i : Nat) {cells : List AV} {x y : AV} (hbox : (s.rows kb).c = .box cells) (hi : cells[i]? = some x)
    (hy : ∀ {C : Ctx} {p : Plan} {a : Act} {w : World} {u : Value}, SR C p s a w → x.rel w p s.ver u → y.rel w p s.ver u) :
    Sub s { s with rows := upd s.rows kb ⟨(s.rows kb).ver, .box (cells.set i y)⟩ } := fun C a w ⟨p, hp⟩ => ⟨p, hp.cell kb i hbox hi (hy hp)⟩
theorem sub_freezeB (s : AS) (kb i k v sz off m : Nat) {cells : List AV} (hk0 : k < 1000) (hne : kb ≠ k) (hbox : (s.rows kb).c = .box cells) (hi : cells[i]? = some (.os k v sz off m)) (hv : v = s.ver k)
    (hc : match (s.rows k).c with | .arr _ sz' es => sz = sz' ∧ off + m ≤ es.length | _ => False) :
    Sub s { s with rows := upd (upd s.rows k ⟨(s.rows k).ver + 1, .dead⟩) kb ⟨(s.rows kb).ver, .box (cells.set i (.r (match (s.rows k).c with | .arr _ _ es => RV.sl sz ((es.drop off).take m) | _ => .un)))⟩ } := fun C a w ⟨p, hp⟩ => by
  have h1 := hp.reRow (w' := w) k hk0 .dead rfl none 1 (by simp [maxLen]) rfl rfl rfl (Nat.le_refl _) (fun _ _ _ => rfl) (fun _ h => by cases h) (fun p' ver' _ hβ hγ _ => by simp only [rowRel]; exact ⟨hβ, hγ⟩)
  have hr := hp.rw kb
  rw [hbox] at hr
  simp only [rowRel] at hr
  obtain ⟨b, cs, t, g1, g2, g3, g4⟩ := hr
  obtain ⟨u, hu, hval⟩ := AV.relV_get g3 hi
  have put : ∀ {p2 : Plan}, SR C p2 { s with rows := upd s.rows k ⟨(s.rows k).ver + 1, .dead⟩ } a w → p2.β kb = p.β kb → (∀ b, p.R b → p2.R b) → (∀ b, p.β k = some b → p2.R b) →
      SRel C { s with rows := upd (upd s.rows k ⟨(s.rows k).ver + 1, .dead⟩) kb ⟨(s.rows kb).ver, .box (cells.set i (.r (match (s.rows k).c with | .arr _ _ es => RV.sl sz ((es.drop off).take m) | _ => .un)))⟩ } a w := fun {p2} h2 hβ2 hR hR2 => by
    have hr2 := h2.rw kb
    rw [show (upd s.rows k ⟨(s.rows k).ver + 1, .dead⟩ kb).c = .box cells by rw [upd_other _ _ hne]; exact hbox] at hr2
    simp only [rowRel] at hr2
    obtain ⟨b', cs', t', f1, f2, f3, f4⟩ := hr2
    have eb : b' = b := by rw [hβ2, g1] at f1; injection f1 with e; exact e.symm
    subst eb
    rw [g2] at f2
    injection f2 with e
    injection e with e1 e2 e3
    subst e1
    have := h2.setRow (w' := w) kb (.box (cells.set i (.r (match (s.rows k).c with | .arr _ _ es => RV.sl sz ((es.drop off).take m) | _ => .un))))
      (by rw [show (upd s.rows k ⟨(s.rows k).ver + 1, .dead⟩ kb).c = .box cells by rw [upd_other _ _ hne]; exact hbox]; rfl) (fun _ _ _ _ h => by cases h) f1 rfl rfl rfl rfl (fun _ _ => rfl) (fun _ => by
        simp only [rowRel]
        refine ⟨b', cs, t', f1, by rw [g2, e2], relV_set f3 (fun u' hu' => ?_), f4⟩
        rw [hu] at hu'
        injection hu' with e
        subst e
        simp only [AV.rel]
        exact snap_os hp hv hc hval hR hR2)
    rw [show (upd s.rows k ⟨(s.rows k).ver + 1, .dead⟩ kb).ver = (s.rows kb).ver by rw [upd_other _ _ hne]] at this
    exact ⟨p2, this⟩
  cases hβ : p.β k with
  | none => exact put h1 (upd_other _ _ hne) (fun _ h => h) (fun b hb => by rw [hβ] at hb; cases hb)
  | some b =>
    obtain ⟨g1, _, g2⟩ := hp.bl k b hβ
    have h2 := h1.publish (b := b) g1 (g2.resolve_right (fun h => by omega)) (fun j hj => by
      have hj' : upd p.β k none j = some b := hj
      by_cases e : j = k
      · subst e; rw [upd_same] at hj'; cases hj'
      · rw [upd_other _ _ e] at hj'; exact e (hp.ij j k b hj' hβ))
    exact put h2 (upd_other _ _ hne) (fun _ h => .inl h) (fun b' hb' => by rw [hβ] at hb'; injection hb' with e; exact .inr e.symm)
section
variable {n : Nat} {l : List (Nat × AV)} {vs : Nat → Nat} {cs : List (Nat × RowC)}
theorem sub_frzB (kb i k : Nat) {cells : List AV} {sz off m ty : Nat} {es : List (List RV)} (hk0 : k < 1000) (hne : kb ≠ k) (hb : lookc cs kb = .box cells) (hi : cells[i]? = some (.os k (vs k) sz off m)) (hc : lookc cs k = .arr ty sz es) (hle : off + m ≤ es.length) :
    Sub (st n l vs cs) (st n l (upd vs k (vs k + 1)) (insc (delc cs k) kb (.box (cells.set i (.r (.sl sz ((es.drop off).take m))))))) := by
  have := sub_freezeB (st n l vs cs) kb i k (vs k) sz off m hk0 hne hb hi rfl (by show match lookc cs k with | .arr _ sz' es => sz = sz' ∧ off + m ≤ es.length | _ => False; rw [hc]; exact ⟨rfl, hle⟩)
  have e : ({ st n l vs cs with rows := upd (upd (st n l vs cs).rows k ⟨((st n l vs cs).rows k).ver + 1, .dead⟩) kb ⟨((st n l vs cs).rows kb).ver, .box (cells.set i (.r (match ((st n l vs cs).rows k).c with | .arr _ _ es => RV.sl sz ((es.drop off).take m) | _ => .un)))⟩ } : AS)
      = st n l (upd vs k (vs k + 1)) (insc (delc cs k) kb (.box (cells.set i (.r (.sl sz ((es.drop off).take m)))))) := by
    simp only [st, AS.mk.injEq, true_and]
    funext j
    rw [lookc_insc, lookc_delc, hc]
    unfold upd
    split
    · rename_i e; subst e; rw [if_neg hne]
    · split <;> rfl
  rwa [e] at this
theorem sub_nsB (kb i sz : Nat) {cells : List AV} (hb : lookc cs kb = .box cells) (hi : cells[i]? = some (.r .ns)) :
    Sub (st n l vs cs) (st n l vs (insc cs kb (.box (cells.set i (.r (.sl sz [])))))) := by
  have := sub_cell (y := .r (.sl sz [])) (st n l vs cs) kb i hb hi (fun _ h => by
    simp only [AV.rel] at h ⊢
    exact le_sl (.inr ⟨rfl, rfl⟩) h)
  have e : ({ st n l vs cs with rows := upd (st n l vs cs).rows kb ⟨((st n l vs cs).rows kb).ver, .box (cells.set i (.r (.sl sz [])))⟩ } : AS) = st n l vs (insc cs kb (.box (cells.set i (.r (.sl sz []))))) := by
    simp only [st, AS.mk.injEq, true_and]
    funext j
    rw [lookc_insc]
    unfold upd
    split
    · rename_i e; subst e; rfl
    · rfl
  rwa [e] at this
/-! ### Loops of functions that are lent rows: their versions stay 0 -/
def Lent (vs : Nat → Nat) : Prop := ∀ k, 1000 ≤ k → vs k = 0
theorem lent_zero : Lent (fun _ => 0) := fun _ _ => rfl
theorem lent_upd {vs : Nat → Nat} {k m : Nat} (hk : k < 1000) (h : Lent vs) : Lent (upd vs k m) := fun j hj => by
  rw [upd_other _ _ (by omega)]; exact h j hj
theorem lent_kill : ∀ {ks : List Nat} {vs : Nat → Nat}, small ks = true → Lent vs → Lent (killV vs ks)
  | [], _, _, h => h
  | k :: ks, vs, hs, h => by
    simp only [small, Bool.and_eq_true, decide_eq_true_eq] at hs
    show Lent (killV (upd vs k (vs k + 1)) ks)
    exact lent_kill hs.2 (lent_upd hs.1 h)
def Fit0 (n : Nat) (F : (Nat → Nat) → List (Nat × AV)) (R : List (Nat × RowC)) (s : AS) : Prop := ∃ vs, Lent vs ∧ Sub s (st n (F vs) vs R)
theorem fit0_of (ks : List Nat) (h0 : Lent vs) {F : (Nat → Nat) → List (Nat × AV)} {R : List (Nat × RowC)} (h1 : allEq l (F (killV vs ks))) (h2 : killC cs ks = R) (h3 : small ks = true := by rfl) : Fit0 n F R (st n l vs cs) := by
  refine ⟨killV vs ks, lent_kill h3 h0, (sub_kills ks vs cs h3).trans ?_⟩
  subst h2
  exact sub_look _ (allEq_mem h1)
theorem fit0_sub {F : (Nat → Nat) → List (Nat × AV)} {R : List (Nat × RowC)} {s s' : AS} (h : Sub s s') (hf : Fit0 n F R s') : Fit0 n F R s := by
  obtain ⟨vs, h0, hf⟩ := hf
  exact ⟨vs, h0, h.trans hf⟩
theorem awp_upto0 {P : Program} {C : Ctx} {c : Code} {Q : Exit → AS → Prop} {s : AS} (N : Nat) (F : Nat → (Nat → Nat) → List (Nat × AV)) (R : Nat → List (Nat × RowC)) (I : Nat → Prop) (i0 : Nat)
    (h0 : Fit0 n (F i0) (R i0) s) (hi : i0 ≤ N) (hI : I i0)
    (round : ∀ i vs, Lent vs → i ≤ N → I i → awp P C c (andThen (fun s' => i < N ∧ I (i + 1) ∧ Fit0 n (F (i + 1)) (R (i + 1)) s') Q) (st n (F i vs) vs (R i))) : awp P C (.loop c) Q s := by
  refine awp_loop (fun k s => ∃ i, (i ≤ N ∧ I i) ∧ N - i = k ∧ Fit0 n (F i) (R i) s) (N - i0) ⟨i0, ⟨hi, hI⟩, rfl, h0⟩ ?_
  rintro k s ⟨i, ⟨hi, hI⟩, rfl, vs, hv, hs⟩
  refine awp_sub hs (awp_mono ?_ (round i vs hv hi hI))
  intro e s' hq
  cases e with
  | normal =>
    obtain ⟨h1, h2, h3⟩ := hq
    exact ⟨N - (i + 1), by omega, i + 1, ⟨h1, h2⟩, rfl, h3⟩
  | _ => exact hq
end
end Go.Oc

/- Functions that write, and return a struct with slices that were lent; the nil slice in a variable's cell gets a row of its own. -/
namespace Go.Oc
open Go Go.RowKit
set_option linter.unusedVariables false
theorem sub_adoptB (s : AS) (kb i k e sz : Nat) {cells : List AV} (hk0 : k < 1000) (hne : kb ≠ k) (hbox : (s.rows kb).c = .box cells) (hi : cells[i]? = some (.r .ns)) :
    Sub s { s with rows := upd (upd s.rows k ⟨(s.rows k).ver + 1, .arr e sz []⟩) kb ⟨(s.rows kb).ver, .box (cells.set i (.os k ((s.rows k).ver + 1) sz 0 0))⟩ } := fun C a w ⟨p, hp⟩ => by
  have h1 := hp.reRow (w' := w) k hk0 (.arr e sz []) rfl none 0 (Nat.zero_le _) rfl rfl rfl (Nat.le_refl _) (fun _ _ _ => rfl) (fun _ h => by cases h) (fun p' ver' _ hβ hγ _ => by simp [rowRel, hβ, hγ])
  have := h1.cell (x := .r .ns) (y := .os k ((s.rows k).ver + 1) sz 0 0) kb i (cells := cells) (by show (upd s.rows k ⟨(s.rows k).ver + 1, .arr e sz []⟩ kb).c = _; rw [upd_other _ _ hne]; exact hbox) hi (fun {u} hx => by
    simp only [AV.rel, RV.rel] at hx
    obtain ⟨A, hA⟩ := hx
    simp only [AV.rel, AS.ver, upd_same]
    exact ⟨Nat.le_refl _, fun _ => .inl ⟨trivial, trivial, trivial, trivial, A, hA⟩⟩)
  rw [show (upd s.rows k ⟨(s.rows k).ver + 1, .arr e sz []⟩ kb).ver = (s.rows kb).ver by rw [upd_other _ _ hne]] at this
  exact ⟨_, this⟩
section
variable {n : Nat} {l : List (Nat × AV)} {vs : Nat → Nat} {cs : List (Nat × RowC)}
theorem sub_ownB (kb i k e sz : Nat) {cells : List AV} (hk0 : k < 1000) (hne : kb ≠ k) (hb : lookc cs kb = .box cells) (hi : cells[i]? = some (.r .ns)) :
    Sub (st n l vs cs) (st n l (upd vs k (vs k + 1)) (insc (insc cs k (.arr e sz [])) kb (.box (cells.set i (.os k (vs k + 1) sz 0 0))))) := by
  have := sub_adoptB (st n l vs cs) kb i k e sz hk0 hne hb hi
  have e : ({ st n l vs cs with rows := upd (upd (st n l vs cs).rows k ⟨((st n l vs cs).rows k).ver + 1, .arr e sz []⟩) kb ⟨((st n l vs cs).rows kb).ver, .box (cells.set i (.os k (((st n l vs cs).rows k).ver + 1) sz 0 0))⟩ } : AS)
      = st n l (upd vs k (vs k + 1)) (insc (insc cs k (.arr e sz [])) kb (.box (cells.set i (.os k (vs k + 1) sz 0 0)))) := by
    simp only [st, AS.mk.injEq, true_and]
    funext j
    rw [lookc_insc, lookc_insc]
    unfold upd
    split
    · rename_i e; subst e; rw [if_neg hne]
    · split <;> rfl
  rwa [e] at this
/-! ### Loops of functions that are lent rows, where the rows tell of versions -/
def FitW (n : Nat) (F : (Nat → Nat) → List (Nat × AV)) (R : (Nat → Nat) → List (Nat × RowC)) (s : AS) : Prop := ∃ vs, Lent vs ∧ Sub s (st n (F vs) vs (R vs))
theorem fitW_of (ks : List Nat) (h0 : Lent vs) {F : (Nat → Nat) → List (Nat × AV)} {R : (Nat → Nat) → List (Nat × RowC)} (h1 : allEq l (F (killV vs ks))) (h2 : killC cs ks = R (killV vs ks)) (h3 : small ks = true := by rfl) : FitW n F R (st n l vs cs) := by
  refine ⟨killV vs ks, lent_kill h3 h0, (sub_kills ks vs cs h3).trans ?_⟩
  rw [← h2]
  exact sub_look _ (allEq_mem h1)
theorem awp_uptoW {P : Program} {C : Ctx} {c : Code} {Q : Exit → AS → Prop} {s : AS} (N : Nat) (F : Nat → (Nat → Nat) → List (Nat × AV)) (R : Nat → (Nat → Nat) → List (Nat × RowC)) (I : Nat → Prop) (i0 : Nat)
    (h0 : FitW n (F i0) (R i0) s) (hi : i0 ≤ N) (hI : I i0)
    (round : ∀ i vs, Lent vs → i ≤ N → I i → awp P C c (andThen (fun s' => i < N ∧ I (i + 1) ∧ FitW n (F (i + 1)) (R (i + 1)) s') Q) (st n (F i vs) vs (R i vs))) : awp P C (.loop c) Q s := by
  refine awp_loop (fun k s => ∃ i, (i ≤ N ∧ I i) ∧ N - i = k ∧ FitW n (F i) (R i) s) (N - i0) ⟨i0, ⟨hi, hI⟩, rfl, h0⟩ ?_
  rintro k s ⟨i, ⟨hi, hI⟩, rfl, vs, hv, hs⟩
  refine awp_sub hs (awp_mono ?_ (round i vs hv hi hI))
  intro e s' hq
  cases e with
  | normal =>
    obtain ⟨h1, h2, h3⟩ := hq
    exact ⟨N - (i + 1), by omega, i + 1, ⟨h1, h2⟩, rfl, h3⟩
  | _ => exact hq
end
/-! ### A struct as the result -/
def agIs (ks : List (Nat × RowC)) (rows : Nat → Row) : AV → List AV → Prop
  | .ag cs, cs0 => frzPL ks rows cs ∧ frzL ks rows cs = cs0
  | _, _ => False
theorem agIs_ag {ks : List (Nat × RowC)} {rows : Nat → Row} {cs cs0 : List AV} : agIs ks rows (.ag cs) cs0 = (frzPL ks rows cs ∧ frzL ks rows cs = cs0) := rfl
def mpostG (P : Program) (rv : ResultVar) (cs0 : List AV) (L L' : List (Nat × RowC)) : Exit → AS → Prop
  | .normal, s => resC (resA P s rv) (fun x => agIs L s.rows x cs0) ∧ mfin L s.rows L L'
  | .ret, s => resC (resA P s rv) (fun x => agIs L s.rows x cs0) ∧ mfin L s.rows L L'
  | _, _ => False
theorem mpostG_normal {P : Program} {s : AS} {rv : ResultVar} {cs0 : List AV} {L L' : List (Nat × RowC)} : mpostG P rv cs0 L L' .normal s = (resC (resA P s rv) (fun x => agIs L s.rows x cs0) ∧ mfin L s.rows L L') := rfl
theorem mpostG_ret {P : Program} {s : AS} {rv : ResultVar} {cs0 : List AV} {L L' : List (Nat × RowC)} : mpostG P rv cs0 L L' .ret s = (resC (resA P s rv) (fun x => agIs L s.rows x cs0) ∧ mfin L s.rows L L') := rfl
section
variable {P : Program} {C : Ctx} {p p0 : Plan} {s : AS} {a : Act} {w : World}
theorem run_resG (h : SR C p s a w) {L : List (Nat × RowC)} (hpin : ∀ k, keyIn L k = true → p.β k = p0.β k ∧ p.γ k = p0.γ k ∧ s.ver k = 0) {R' : Nat → Prop} (hR : ∀ b, p.R b → R' b) (hR2 : ∀ j b, j < 1000 → p.β j = some b → R' b)
    {fn : Func} {rv : ResultVar} {cs0 : List AV} (hres : fn.results.toList = [rv]) (hm : resC (resA P s rv) (fun x => agIs L s.rows x cs0)) : ∃ v, (results fn a.tmps).run P w = .ok v w ∧ (AV.ag cs0).rel w { p0 with R := R' } (fun _ => 0) v := by
  obtain ⟨hp, hq⟩ := hm
  obtain ⟨u, hu, hrel⟩ := run_result h rv hp
  cases hav : (resA P s rv).y.av with
  | ag cs =>
    rw [hav] at hq hrel
    obtain ⟨h1, h2⟩ := hq
    have hm : (fn.results.mapM (resOp a.tmps)).run P w = .ok #[u] w := by
      rw [Array.mapM_eq_mapM_toList, hres]
      simp only [Sem.run_map, List.mapM_cons, List.mapM_nil, Sem.run_bind, hu, Result.andThen_ok, Sem.run_pure]
    refine ⟨u, ?_, ?_⟩
    · rw [results_eq, Sem.run_bind, hm]
      simp [Result.andThen_ok, Sem.run_pure]
    · simp only [AV.rel] at hrel ⊢
      obtain ⟨vs, e1, e2, e3⟩ := hrel
      exact ⟨vs, e1, e2, h2 ▸ frz_relV h hpin hR hR2 h1 e3⟩
  | _ => rw [hav] at hq; exact hq.elim
theorem mcalls_ag {f : FuncId} {fn : Func} {c : Code} {n : Nat} {args : List AV} (L L' : List (Nat × RowC)) (cs0 : List AV) (rv : ResultVar) (hf : P.funcs[f]? = some fn) (hb : fn.body = some c) (hc : callable P f = true) (hn : fn.ntmps = n) (hres : fn.results.toList = [rv])
    (hargs : args.length ≤ n) (hL : pinned L = true) (h : ∀ C, awp P C c (mpostG P rv cs0 L L') (st n (argA 0 args) (fun _ => 0) L)) : MCalls P f L L' args (.ag cs0) := by
  have hres0 := hres
  refine ⟨hc, fun w p vs hR hβ hij hγ hrows hV => ?_⟩
  have hlen := AV.relV_length hV
  simp only [Array.length_toList] at hlen
  let C : Ctx := ⟨w, p.R, fun b => ∃ k, p.β k = some b, fun k => if keyIn L k then some (p.β k, p.γ k) else none⟩
  have hs : SR C p (st n (argA 0 args) (fun _ => 0) L) { tmps := vs ++ Array.replicate (fn.ntmps - vs.size) undef, defers := [] } w := {
    base := ⟨rfl, rfl, rfl, Nat.le_refl _, fun _ _ _ => rfl⟩
    r0 := fun _ h => h
    rn := fun _ h => .inl h
    rb := hR
    tm := fun t => by
      show (look (argA 0 args) t).rel _ _ _ _
      rw [argA_look, if_pos (Nat.zero_le _), Nat.sub_zero]
      cases e : args[t]? with
      | none => exact AV.rel_un _ _ _ _
      | some x =>
        obtain ⟨u, hu, hx⟩ := AV.relV_get hV e
        have : (vs ++ Array.replicate (fn.ntmps - vs.size) undef).getD t undef = u := by
          have ht : t < vs.size := by have := (List.getElem?_eq_some_iff.1 hu).1; simpa using this
          rw [Array.getD_eq_getD_getElem?, Array.getElem?_append_left ht]
          simp only [Array.getElem?_toList] at hu
          rw [hu]; rfl
        rw [this]
        exact hx
    sz := by simp only [Array.size_append, Array.size_replicate, st]; omega
    df := rfl
    rw := hrows
    bl := fun k b h => ⟨(hβ k b h).1, (hβ k b h).2, .inr ⟨by
      cases hk : keyIn L k with
      | true => exact (pinned_ge hL hk).1
      | false =>
        have hr := hrows k
        rw [lookc_not hk] at hr
        simp only [rowRel] at hr
        exact absurd (hr.1.symm.trans h) (by simp), k, h⟩⟩
    ij := hij
    cap := hγ
    pn := fun k x hx => by
      have hx' : (if keyIn L k then some (p.β k, p.γ k) else none) = some x := hx
      split at hx'
      · rename_i hk
        injection hx' with hx'
        subst hx'
        exact ⟨rfl, rfl, rfl, (pinned_ge hL hk).1⟩
      · cases hx'
    lk := fun j km n l cur hj _ => by
      have hj' : lookc L j = .mi km n l cur := hj
      cases hk : keyIn L j with
      | true => have := (pinned_ge hL hk).2; rw [hj'] at this; simp [okC] at this
      | false => rw [lookc_not hk] at hj'; cases hj' }
  refine calls_of_wp hf hb (wp_mono (h C _ w ⟨p, hs⟩) ?_)
  rintro e a' w' ⟨s', ⟨p', hs'⟩, hq⟩
  have fin : resC (resA P s' rv) (fun x => agIs L s'.rows x cs0) ∧ mfin L s'.rows L L' → ∃ v, (results fn a'.tmps).run P w' = .ok v w' ∧ ∃ v' R', Ending.returned v = .returned v' ∧ (w'.os = w.os ∧ w'.tape = w.tape ∧ w'.output = w.output ∧ w.heap.size ≤ w'.heap.size) ∧
      (∀ k, k < w.heap.size → (∀ j, p.β j ≠ some k) → w'.heap[k]? = w.heap[k]?) ∧ (∀ b, p.R b → R' b) ∧ (∀ b, R' b → p.R b ∨ w.heap.size ≤ b) ∧ (∀ b, R' b → b < w'.heap.size) ∧
      (∀ k, rowRel w' { p with R := R' } (fun _ => 0) k (lookc L' k)) ∧ (AV.ag cs0).rel w' { p with R := R' } (fun _ => 0) v' := fun ⟨hres, hm⟩ => by
    have hpin : ∀ k, keyIn L k = true → p'.β k = p.β k ∧ p'.γ k = p.γ k ∧ s'.ver k = 0 := fun k hk => by
      obtain ⟨h1, h2, h3, _⟩ := hs'.pn k (p.β k, p.γ k) (by show (if keyIn L k then some (p.β k, p.γ k) else none) = _; rw [if_pos hk])
      exact ⟨h1, h2, h3⟩
    have hnew : ∀ j b, j < 1000 → p'.β j = some b → w.heap.size ≤ b := fun j b hj hb => by
      rcases (hs'.bl j b hb).2.2 with h1 | ⟨_, k, hk⟩
      · exact h1
      · exfalso
        cases hkk : keyIn L k with
        | true =>
          have h2 := (hpin k hkk).1.trans hk
          have := hs'.ij j k b hb h2
          have := (pinned_ge hL hkk).1
          omega
        | false =>
          have h2 := hrows k
          rw [lookc_not hkk] at h2
          simp only [rowRel] at h2
          rw [h2.1] at hk; cases hk
    obtain ⟨v, hv, hrel⟩ := run_resG (p0 := p) hs' hpin (R' := fun b => p'.R b ∨ ∃ j, j < 1000 ∧ p'.β j = some b) (fun _ h => .inl h) (fun j b hj hb => .inr ⟨j, hj, hb⟩) hres0 hres
    refine ⟨v, hv, v, fun b => p'.R b ∨ ∃ j, j < 1000 ∧ p'.β j = some b, rfl, ⟨hs'.base.os, hs'.base.tape, hs'.base.output, hs'.base.size⟩, fun k hk hn => hs'.base.block k hk (fun ⟨j, hj⟩ => hn j hj), fun b hb => .inl (hs'.r0 b hb), fun b hb => ?_, fun b hb => ?_, fun k => ?_, hrel⟩
    · rcases hb with hb | ⟨j, hj, hb⟩
      · exact hs'.rn b hb
      · exact .inr (hnew j b hj hb)
    · rcases hb with hb | ⟨j, hj, hb⟩
      · exact hs'.rb b hb
      · exact (hs'.bl j b hb).1
    · obtain ⟨g1, g2⟩ := mfin_get hm
      cases hk : keyIn L k with
      | false =>
        rw [g2 k hk]
        have h2 := hrows k
        rw [lookc_not hk] at h2
        simp only [rowRel] at h2 ⊢
        exact h2
      | true =>
        obtain ⟨q1, q2, q3⟩ := g1 k hk
        obtain ⟨h1, h2, h3⟩ := hpin k hk
        rw [q3]
        have hr := hs'.rw k
        have hR1 : ∀ b, p'.R b → (p'.R b ∨ ∃ j, j < 1000 ∧ p'.β j = some b) := fun _ h => .inl h
        cases hcc : (s'.rows k).c with
        | box cs =>
          rw [hcc] at hr q2
          simp only [rowRel] at hr
          simp only [frzC, rowRel]
          obtain ⟨b, cells, t, e1, e2, e3, e4⟩ := hr
          exact ⟨b, cells, t, h1.symm.trans e1, e2, frz_relV (p0 := p) hs' hpin hR1 (fun j b hj hb => .inr ⟨j, hj, hb⟩) q2 e3, e4⟩
        | arr t sz es =>
          rw [hcc] at hr
          simp only [rowRel] at hr
          simp only [frzC, rowRel]
          rw [h1, h2] at hr
          refine hr.imp id ?_
          rintro ⟨b, cells, e1, e2, e3, e4, e5⟩
          exact ⟨b, cells, e1, e2, e3, e4, RV.relE_mono hR1 (fun _ _ => rfl) _ _ _ _ (fun _ => rfl) e5⟩
        | mp m =>
          rw [hcc] at hr
          simp only [rowRel] at hr
          simp only [frzC, rowRel]
          rw [h1] at hr
          obtain ⟨b, e1, e2⟩ := hr
          exact ⟨b, e1, mapRel_mono hR1 (fun _ _ => rfl) rfl e2⟩
        | _ => rw [hcc] at q1; simp [okC] at q1
  cases e with
  | normal => exact ⟨hs'.df, fin hq⟩
  | ret => exact ⟨hs'.df, fin hq⟩
  | _ => exact hq.elim
end
attribute [go_sem] agIs_ag mpostG_normal mpostG_ret
end Go.Oc

/- A night is closed. -/
namespace Go.Proofs.Ytnklbfmdojpfkaa
open Go Go.Oc
set_option linter.unusedSimpArgs false
set_option linter.unusedVariables false
set_option maxRecDepth 8000
/-! ### What a night comes to -/
def stepN (r : Rules) (F : Int → Option Sheet) (t : Res) (i : Nat) : Res :=
  match F i, r.gs[i]? with
  | some x, some g => addL g (scoreL r x).1 (scoreL r x).2 t
  | _, _ => { t with op := t.op ++ [(i : Int)] }
def sumN (r : Rules) (F : Int → Option Sheet) : Nat → Res
  | 0 => zeroR
  | k + 1 => stepN r F (sumN r F k) k
def homeR (r : Rules) (t : Res) : Int := leadW (t.p0 - t.p1 + openP r t.op) (t.l0 - t.l1 + openG r t.op)
def awayR (r : Rules) (t : Res) : Int := leadW (t.p0 - t.p1 - openP r t.op) (t.l0 - t.l1 - openG r t.op)
def endR (r : Rules) (t : Res) : Res :=
  let w := if homeR r t = awayR r t then homeR r t else -1
  if t.op = [] ∧ w ≠ 2 then { t with w := w, p0 := if w = 0 then t.p0 + r.bonus else t.p0, p1 := if w = 0 then t.p1 else t.p1 + r.bonus } else { t with w := w }
def nightR (r : Rules) (F : Int → Option Sheet) : Res := endR r (sumN r F r.gs.length)
def OkF (r : Rules) (F : Int → Option Sheet) : Prop := ∀ i x, F i = some x → sheetB r x = true ∧ x.gm = i
theorem leadW_in (p l : Int) : leadW p l = 0 ∨ leadW p l = 1 ∨ leadW p l = 2 := by
  unfold leadW; split
  · simp
  · split
    · simp
    · split
      · simp
      · split <;> simp
theorem sumN_facts {r : Rules} {F : Int → Option Sheet} (hr : rulesB r = true) (hF : OkF r F) : ∀ k, k ≤ r.gs.length →
    ((0 ≤ (sumN r F k).p0 ∧ (sumN r F k).p0 ≤ 99 * k) ∧ (0 ≤ (sumN r F k).p1 ∧ (sumN r F k).p1 ≤ 99 * k) ∧ (0 ≤ (sumN r F k).g0 ∧ (sumN r F k).g0 ≤ k) ∧ (0 ≤ (sumN r F k).g1 ∧ (sumN r F k).g1 ≤ k) ∧ (0 ≤ (sumN r F k).l0 ∧ (sumN r F k).l0 ≤ 15 * k) ∧ (0 ≤ (sumN r F k).l1 ∧ (sumN r F k).l1 ≤ 15 * k)) ∧
    (sumN r F k).w = 0 ∧ (sumN r F k).op.length ≤ k ∧ ∀ i ∈ (sumN r F k).op, 0 ≤ i ∧ i < k
  | 0, _ => by simp [sumN, zeroR]
  | k + 1, hk => by
    obtain ⟨⟨h1, h2, h3, h4, h5, h6⟩, h7, h8, h9⟩ := sumN_facts hr hF k (by omega)
    obtain ⟨g, hg⟩ := opt_of_lt (l := r.gs) (i := k) (by omega)
    rw [sumN]
    unfold stepN
    rw [hg]
    cases hx : F k with
    | none =>
      refine ⟨⟨?_, ?_, ?_, ?_, ?_, ?_⟩, h7, ?_, fun i hi => ?_⟩ <;> (try simp only)
      · omega
      · omega
      · omega
      · omega
      · omega
      · omega
      · rw [List.length_append]; simp; omega
      · simp only [List.mem_append, List.mem_singleton] at hi
        rcases hi with hi | hi
        · have := h9 i hi; omega
        · omega
    | some x =>
      obtain ⟨hb, he⟩ := hF _ _ hx
      obtain ⟨i, g', hi, hil, hg', hlg, g5, g6, _, hsc⟩ := sheet_game hr hb
      have hik : i = k := by omega
      subst hik
      have hgg : g' = g := by rw [hg] at hg'; injection hg' with e; exact e.symm
      subst hgg
      refine ⟨⟨?_, ?_, ?_, ?_, ?_, ?_⟩, ?_, ?_, fun j hj => ?_⟩ <;> (try simp only [addL])
      · split <;> omega
      · split <;> omega
      · split <;> omega
      · split <;> omega
      · omega
      · omega
      · exact h7
      · omega
      · have := h9 j hj; omega
theorem sumN_small {r : Rules} {F : Int → Option Sheet} (hr : rulesB r = true) (hF : OkF r F) {k : Nat} (hk : k ≤ r.gs.length) : smallR (sumN r F k) := by
  obtain ⟨_, ⟨f3, f4⟩, _⟩ := rulesB_facts hr
  obtain ⟨⟨h1, h2, h3, h4, h5, h6⟩, _⟩ := sumN_facts hr hF k hk
  refine ⟨?_, ?_, ?_, ?_, ?_, ?_⟩ <;> omega
/-! ### The map of the sheets -/
abbrev encS (e : Int × Sheet) : RV × RV := (i64 e.1, .ag (sheetC e.2))
def findS (p : Int) : List (Int × Sheet) → Nat → Option (Nat × Sheet)
  | [], _ => none
  | e :: l, i => if p = e.1 then some (i, e.2) else findS p l (i + 1)
theorem findK_S (p : Int) : ∀ (M : List (Int × Sheet)) (i : Nat), findK (i64 p) (M.map encS) i = some ((findS p M i).map fun x => (x.1, .ag (sheetC x.2)))
  | [], i => rfl
  | e :: M, i => by
    simp only [List.map_cons, findK, sameK, if_true, findS]
    by_cases h : p = e.1
    · have : (p == e.1) = true := by simp [h]
      rw [this]; simp [h]
    · have : (p == e.1) = false := by simp [h]
      rw [this, if_neg h]
      exact findK_S p M (i + 1)
def mapS (M : List (Int × Sheet)) (p : Int) : Option Sheet := (findS p M 0).map (·.2)
theorem close_ok (r : Rules) (M : List (Int × Sheet)) (hr : rulesB r = true) (hF : OkF r (mapS M)) :
    MCalls Try.prog 64 [(1000, .box (nightB r zeroR (.r .ns))), (1001, .mp (M.map encS))]
      [(1000, .box (nightB r (nightR r (mapS M)) (.r (ints (nightR r (mapS M)).op)))), (1001, .mp (M.map encS))] [.pt 1000 0 0] (.tu []) := by
  obtain ⟨_, ⟨f3, f4⟩, _, f7, f8⟩ := rulesB_facts hr
  refine mcalls_st (n := 100) (rs := []) _ _ [] Try.func64 rfl (by kernel_rfl) Try.ntmps64 rfl (by simp) rfl rfl fun C => ?_
  repeat refine awp_seq ?_
  refine awp_reg (by kernel_rfl) fun K hK => ?_
  simp only [go_sem]
  (try simp (disch := omega) only [wrapI])
  intros
  repeat first | intro _ | refine ⟨(by omega), ?_⟩ | refine ⟨⟨by omega, by omega⟩, ?_⟩
  refine hK _ ?_
  clear hK K
  repeat refine awp_seq ?_
  refine awp_block ?_
  refine awp_sub (sub_ownB 1000 10 38 3 1 (by omega) (by omega) rfl rfl) ?_
  simp only [go_sem]
  refine awp_uptoW (n := 100) r.gs.length (fun k vs => [(0, .pt 1000 0 0), (13, .r (i64 r.gs.length)), (14, .r (i64 k))])
    (fun k vs => [(38, .arr 3 1 ((sumN r (mapS M) k).op.map fun x => [i64 x])), (1000, .box (nightB r (sumN r (mapS M) k) (.os 38 (vs 38) 1 0 (sumN r (mapS M) k).op.length))), (1001, .mp (M.map encS))])
    (fun _ => True) 0 (fitW_of [] (lent_upd (by omega) lent_zero) ?_ ?_) (Nat.zero_le _) trivial ?_
  · try simp only [go_sem]
  · rfl
  · intro k vs hv hk _
    have hv0 := hv 1000 (by omega)
    have hv1 := hv 1001 (by omega)
    have hfk := findK_S k M 0
    have hsm := sumN_small hr hF hk
    obtain ⟨sb, sw, sl, so⟩ := sumN_facts hr hF k hk
    repeat refine awp_seq ?_
    refine awp_reg (by kernel_rfl) fun K hK => ?_
    simp only [go_sem]
    (try simp (disch := omega) only [wrapI])
    repeat first | intro _ | refine ⟨(by omega), ?_⟩ | refine ⟨⟨by omega, by omega⟩, ?_⟩
    refine hK _ ?_
    clear hK K
    repeat refine awp_seq ?_
    refine awp_cond rfl (fun hc => ?_) (fun hc => ?_) <;> (try simp only [go_sem] at hc)
    · have hck := hc
      obtain ⟨g, hg⟩ := opt_of_lt hck
      refine awp_skip ?_
      repeat refine awp_seq ?_
      refine awp_block ?_
      repeat refine awp_seq ?_
      refine awp_reg (by kernel_rfl) fun K hK => ?_
      simp only [go_sem]
      (try simp (disch := omega) only [wrapI])
      repeat first | intro _ | refine ⟨(by omega), ?_⟩ | refine ⟨⟨by omega, by omega⟩, ?_⟩
      refine hK _ ?_
      clear hK K
      cases hf : findS k M 0 with
      | none =>
        rw [hf] at hfk
        have hstep : sumN r (mapS M) (k + 1) = { sumN r (mapS M) k with op := (sumN r (mapS M) k).op ++ [(k : Int)] } := by
          rw [sumN, stepN, mapS, hf]; rfl
        repeat refine awp_seq ?_
        refine awp_reg (by kernel_rfl) fun K hK => ?_
        simp only [go_sem, hfk, hv0, hv1, Option.map_none]
        (try simp (disch := omega) only [wrapI])
        repeat first | intro _ | refine ⟨(by omega), ?_⟩ | refine ⟨⟨by omega, by omega⟩, ?_⟩
        refine hK _ ?_
        clear hK K
        try simp only [go_sem]
        repeat refine awp_seq ?_
        refine awp_reg (by kernel_rfl) fun K hK => ?_
        simp only [go_sem]
        (try simp (disch := omega) only [wrapI])
        repeat first | intro _ | refine ⟨(by omega), ?_⟩ | refine ⟨⟨by omega, by omega⟩, ?_⟩
        refine hK _ ?_
        clear hK K
        repeat refine awp_seq ?_
        refine awp_cond rfl (fun hc => ?_) (fun hc => ?_) <;> (try simp only [go_sem] at hc)
        repeat refine awp_seq ?_
        refine awp_reg (by kernel_rfl) fun K hK => ?_
        simp only [go_sem, hv0]
        (try simp (disch := omega) only [wrapI])
        refine ⟨by omega, ?_⟩
        repeat first | intro _ | refine ⟨(by omega), ?_⟩ | refine ⟨⟨by omega, by omega⟩, ?_⟩
        refine hK _ ?_
        clear hK K
        try simp only [go_sem]
        repeat refine awp_seq ?_
        refine awp_reg (by kernel_rfl) fun K hK => ?_
        simp only [go_sem]
        (try simp (disch := omega) only [wrapI])
        repeat first | intro _ | refine ⟨(by omega), ?_⟩ | refine ⟨⟨by omega, by omega⟩, ?_⟩
        refine hK _ ?_
        clear hK K
        try simp only [go_sem]
        refine ⟨hck, fitW_of [3] (by intro j hj; simp only [upd]; (repeat' split); all_goals first | rfl | omega | exact hv _ hj) ?_ ?_⟩
        · try simp only [go_sem]
        · try simp only [go_sem]
          rw [hstep]
          simp [hv0, hv1]
      | some jx =>
        obtain ⟨j, x⟩ := jx
        rw [hf] at hfk
        have hFx : mapS M k = some x := by rw [mapS, hf]; rfl
        obtain ⟨hxb, hxg⟩ := hF k x hFx
        have hstep : sumN r (mapS M) (k + 1) = addL g (scoreL r x).1 (scoreL r x).2 (sumN r (mapS M) k) := by
          rw [sumN, stepN, hFx, hg]
        repeat refine awp_seq ?_
        refine awp_reg (by kernel_rfl) fun K hK => ?_
        simp only [go_sem, hfk, hv0, hv1, Option.map_some]
        (try simp (disch := omega) only [wrapI])
        repeat first | intro _ | refine ⟨(by omega), ?_⟩ | refine ⟨⟨by omega, by omega⟩, ?_⟩
        refine hK _ ?_
        clear hK K
        try simp only [go_sem]
        repeat refine awp_seq ?_
        refine awp_reg (by kernel_rfl) fun K hK => ?_
        simp only [go_sem]
        (try simp (disch := omega) only [wrapI])
        repeat first | intro _ | refine ⟨(by omega), ?_⟩ | refine ⟨⟨by omega, by omega⟩, ?_⟩
        refine hK _ ?_
        clear hK K
        repeat refine awp_seq ?_
        refine awp_cond rfl (fun hc => ?_) (fun hc => ?_) <;> (try simp only [go_sem] at hc)
        repeat refine awp_seq ?_
        refine awp_reg (by kernel_rfl) fun K hK => ?_
        simp only [go_sem, hv0]
        (try simp (disch := omega) only [wrapI])
        refine xcall_mut (add_ok r (sumN r (mapS M) k) x (M.map encS) k g (sumN r (mapS M) k).op hr hxb hxg hg hsm) [(1000, 1000), (1001, 1001), (1002, 38)] rfl (by simp only [go_sem, i64, ints, hv0, hv1]) (by simp only [go_sem, i64, ints, hv0, hv1]) (by rfl) (by rfl) ?_
        (try simp only [go_sem, hv0, hv1])
        (try simp (disch := omega) only [wrapI])
        repeat first | intro _ | refine ⟨(by omega), ?_⟩ | refine ⟨⟨by omega, by omega⟩, ?_⟩
        refine hK _ ?_
        clear hK K
        try simp only [go_sem]
        repeat refine awp_seq ?_
        refine awp_reg (by kernel_rfl) fun K hK => ?_
        simp only [go_sem]
        (try simp (disch := omega) only [wrapI])
        repeat first | intro _ | refine ⟨(by omega), ?_⟩ | refine ⟨⟨by omega, by omega⟩, ?_⟩
        refine hK _ ?_
        clear hK K
        try simp only [go_sem]
        refine ⟨hck, fitW_of [3] (by intro j hj; simp only [upd]; (repeat' split); all_goals first | rfl | omega | exact hv _ hj) ?_ ?_⟩
        · try simp only [go_sem]
        · try simp only [go_sem]
          rw [hstep]
          simp [hv0, hv1, addL]
    · have : k = r.gs.length := by omega
      subst this
      generalize htd : sumN r (mapS M) r.gs.length = t at *
      have hnr : nightR r (mapS M) = endR r t := by rw [nightR, htd]
      rw [hnr]
      have hob := open_bounds hr t.op
      refine awp_exit ?_
      simp only [go_sem]
      repeat refine awp_seq ?_
      refine awp_reg (by kernel_rfl) fun K hK => ?_
      simp only [go_sem, hv0]
      (try simp (disch := omega) only [wrapI])
      refine xcall_eq (ends_ok r t (ints t.op) .un hr hsm (.inl rfl) so (by omega)) rfl (by simp only [go_sem, i64, ints, hv0, hv1]) (by simp only [go_sem, i64, ints, hv0, hv1]) (by first | exact .inl rfl | exact .inr rfl) ?_
      (try simp only [go_sem, hv0, hv1])
      (try simp (disch := omega) only [wrapI])
      repeat first | intro _ | refine ⟨(by omega), ?_⟩ | refine ⟨⟨by omega, by omega⟩, ?_⟩
      refine hK _ ?_
      clear hK K
      repeat refine awp_seq ?_
      refine awp_reg (by kernel_rfl) fun K hK => ?_
      simp only [go_sem, hv0]
      (try simp (disch := omega) only [wrapI])
      repeat first | intro _ | refine ⟨(by omega), ?_⟩ | refine ⟨⟨by omega, by omega⟩, ?_⟩
      refine hK _ ?_
      clear hK K
      repeat refine awp_seq ?_
      refine awp_dreg follows (by decide +kernel) (by kernel_rfl) fun K hK => ?_
      simp only [go_sem]
      (try simp (disch := omega) only [wrapI])
      refine xcall_eq (winner_ok (t.p0 - t.p1 + openP r t.op) (t.l0 - t.l1 + openG r t.op)) rfl (by simp only [go_sem, i64, ints]) (by simp only [go_sem, i64, ints]) (by first | exact .inl rfl | exact .inr rfl) ?_
      (try simp only [go_sem])
      (try simp (disch := omega) only [wrapI])
      refine xcall_eq (winner_ok (t.p0 - t.p1 - openP r t.op) (t.l0 - t.l1 - openG r t.op)) rfl (by simp only [go_sem, i64, ints]) (by simp only [go_sem, i64, ints]) (by first | exact .inl rfl | exact .inr rfl) ?_
      (try simp only [go_sem])
      (try simp (disch := omega) only [wrapI])
      repeat first | intro _ | refine ⟨(by omega), ?_⟩ | refine ⟨⟨by omega, by omega⟩, ?_⟩
      refine hK _ ?_
      clear hK K
      have hA : leadW (t.p0 - t.p1 + openP r t.op) (t.l0 - t.l1 + openG r t.op) = homeR r t := rfl
      have hB : leadW (t.p0 - t.p1 - openP r t.op) (t.l0 - t.l1 - openG r t.op) = awayR r t := rfl
      have hW := leadW_in (t.p0 - t.p1 + openP r t.op) (t.l0 - t.l1 + openG r t.op)
      simp only [hA, hB] at hW ⊢
      have hnil : t.op = [] → homeR r t = awayR r t := fun h => by simp [homeR, awayR, h, openP, openG]
      by_cases h1 : homeR r t = awayR r t
      · have e1 : (homeR r t == awayR r t) = true := by simp [h1]
        rw [e1]
        repeat refine awp_seq ?_
        refine awp_cond rfl (fun hc => ?_) (fun hc => ?_) <;> (try simp only [go_sem] at hc)
        repeat refine awp_seq ?_
        refine awp_reg (by kernel_rfl) fun K hK => ?_
        simp only [go_sem]
        (try simp (disch := omega) only [wrapI])
        refine xcall_eq (winner_ok (t.p0 - t.p1 + openP r t.op) (t.l0 - t.l1 + openG r t.op)) rfl (by simp only [go_sem, i64, ints]) (by simp only [go_sem, i64, ints]) (by first | exact .inl rfl | exact .inr rfl) ?_
        (try simp only [go_sem])
        (try simp (disch := omega) only [wrapI])
        repeat first | intro _ | refine ⟨(by omega), ?_⟩ | refine ⟨⟨by omega, by omega⟩, ?_⟩
        refine hK _ ?_
        clear hK K
        simp only [hA]
        try simp only [go_sem]
        by_cases h2 : t.op = []
        · have h3 : ((t.op.length : Int) = 0) = True := by simp [h2]
          have h3' : ((t.op.length : Int) ≠ 0) = False := by simp [h2]
          have m0 : ((0 : Int) != 2) = true := by decide
          have m1 : ((1 : Int) != 2) = true := by decide
          have m2 : ((2 : Int) != 2) = false := by decide
          rcases hW with hW | hW | hW
          · have h4 : homeR r t ≠ 2 := by omega
            repeat refine awp_seq ?_
            refine awp_reg (by kernel_rfl) fun K hK => ?_
            simp only [go_sem, hv0, h3, h3', hW, m0, m1, m2]
            (try simp (disch := omega) only [wrapI])
            intros
            repeat first | intro _ | refine ⟨(by omega), ?_⟩ | refine ⟨⟨by omega, by omega⟩, ?_⟩
            refine hK _ ?_
            clear hK K
            repeat refine awp_seq ?_
            refine awp_cond rfl (fun hc => ?_) (fun hc => ?_) <;> (try simp only [go_sem] at hc)
            repeat refine awp_seq ?_
            refine awp_dreg follows (by decide +kernel) (by kernel_rfl) fun K hK => ?_
            simp only [go_sem, hv0, h3, hW]
            (try simp (disch := omega) only [wrapI])
            repeat first | intro _ | refine ⟨(by omega), ?_⟩ | refine ⟨⟨by omega, by omega⟩, ?_⟩
            refine hK _ ?_
            clear hK K
            try simp only [go_sem]
            simp [endR, ← h1, hW, h2]
          · repeat refine awp_seq ?_
            refine awp_reg (by kernel_rfl) fun K hK => ?_
            simp only [go_sem, hv0, h3, h3', hW, m0, m1, m2]
            (try simp (disch := omega) only [wrapI])
            intros
            repeat first | intro _ | refine ⟨(by omega), ?_⟩ | refine ⟨⟨by omega, by omega⟩, ?_⟩
            refine hK _ ?_
            clear hK K
            repeat refine awp_seq ?_
            refine awp_cond rfl (fun hc => ?_) (fun hc => ?_) <;> (try simp only [go_sem] at hc)
            repeat refine awp_seq ?_
            refine awp_dreg follows (by decide +kernel) (by kernel_rfl) fun K hK => ?_
            simp only [go_sem, hv0, h3, hW]
            (try simp (disch := omega) only [wrapI])
            repeat first | intro _ | refine ⟨(by omega), ?_⟩ | refine ⟨⟨by omega, by omega⟩, ?_⟩
            refine hK _ ?_
            clear hK K
            try simp only [go_sem]
            simp [endR, ← h1, hW, h2]
          · repeat refine awp_seq ?_
            refine awp_reg (by kernel_rfl) fun K hK => ?_
            simp only [go_sem, hv0, h3, h3', hW, m0, m1, m2]
            (try simp (disch := omega) only [wrapI])
            intros
            repeat first | intro _ | refine ⟨(by omega), ?_⟩ | refine ⟨⟨by omega, by omega⟩, ?_⟩
            refine hK _ ?_
            clear hK K
            repeat refine awp_seq ?_
            refine awp_cond rfl (fun hc => ?_) (fun hc => ?_) <;> (try simp only [go_sem] at hc)
            refine awp_skip ?_
            try simp only [go_sem]
            simp [endR, ← h1, hW, h2]
        · have h3 : ((t.op.length : Int) = 0) = False := by simp [h2]
          repeat refine awp_seq ?_
          refine awp_reg (by kernel_rfl) fun K hK => ?_
          simp only [go_sem, hv0, h3]
          (try simp (disch := omega) only [wrapI])
          intros
          repeat first | intro _ | refine ⟨(by omega), ?_⟩ | refine ⟨⟨by omega, by omega⟩, ?_⟩
          refine hK _ ?_
          clear hK K
          repeat refine awp_seq ?_
          refine awp_cond rfl (fun hc => ?_) (fun hc => ?_) <;> (try simp only [go_sem] at hc)
          refine awp_skip ?_
          try simp only [go_sem]
          simp [endR, ← h1, h2]
      · have e1 : (homeR r t == awayR r t) = false := by simp [h1]
        rw [e1]
        repeat refine awp_seq ?_
        refine awp_cond rfl (fun hc => ?_) (fun hc => ?_) <;> (try simp only [go_sem] at hc)
        refine awp_skip ?_
        have h2 : t.op ≠ [] := fun h => h1 (hnil h)
        have h3 : ((t.op.length : Int) = 0) = False := by simp [h2]
        repeat refine awp_seq ?_
        refine awp_reg (by kernel_rfl) fun K hK => ?_
        simp only [go_sem, hv0, h3]
        (try simp (disch := omega) only [wrapI])
        intros
        repeat first | intro _ | refine ⟨(by omega), ?_⟩ | refine ⟨⟨by omega, by omega⟩, ?_⟩
        refine hK _ ?_
        clear hK K
        repeat refine awp_seq ?_
        refine awp_cond rfl (fun hc => ?_) (fun hc => ?_) <;> (try simp only [go_sem] at hc)
        refine awp_skip ?_
        try simp only [go_sem]
        simp [endR, h1, h2]
end Go.Proofs.Ytnklbfmdojpfkaa

/- A night, by the program. -/
namespace Go.Proofs.Ytnklbfmdojpfkaa
open Go Go.Oc
set_option linter.unusedSimpArgs false
set_option linter.unusedVariables false
set_option maxRecDepth 8000
abbrev sheets (l : List Sheet) : RV := .sl 4 (l.map sheetC)
def sameS (x y : Sheet) : Bool := x.gm == y.gm && (x.ho == y.ho && (x.aw == y.aw && (x.wk == y.wk && true)))
theorem sameS_eq {x y : Sheet} : sameS x y = true ↔ x = y := by
  cases x; cases y; simp [sameS]
def seenL (p : List Sheet) (i : Int) : Option Sheet := p.find? fun x => x.gm == i
/-- The first sheet that is refused, and why. -/
def scanN (r : Rules) : List Sheet → List Sheet → Option (Nat × Int)
  | _, [] => none
  | p, x :: l =>
    if sheetB r x = true then
      match seenL p x.gm with
      | some y => if sameS y x = true then scanN r (p ++ [x]) l else some (p.length, 6)
      | none => scanN r (p ++ [x]) l
    else some (p.length, 2)
def nightV (r : Rules) (l : List Sheet) : Res × Int × Int :=
  if rulesB r = false then (zeroR, 0, 2) else if 200 < l.length then (zeroR, 0, 5) else
  match scanN r [] l with
  | some (k, e) => (zeroR, k, e)
  | none => (nightR r (seenL l), 0, 0)
theorem seen_some {p : List Sheet} {i : Int} {y : Sheet} (h : seenL p i = some y) : y ∈ p ∧ y.gm = i := by
  have h1 := List.mem_of_find?_eq_some h
  have h2 := List.find?_some h
  exact ⟨h1, by simpa using h2⟩
theorem seen_app (p : List Sheet) (x : Sheet) (i : Int) : seenL (p ++ [x]) i = (seenL p i).or (if x.gm = i then some x else none) := by
  simp only [seenL, List.find?_append, List.find?_cons, List.find?_nil]
  by_cases h : x.gm = i
  · simp [h]
  · have : (x.gm == i) = false := by simp [h]
    rw [this, if_neg h]
theorem findS_some {p : Int} : ∀ {M : List (Int × Sheet)} {i j : Nat} {v : Sheet}, findS p M i = some (j, v) → i ≤ j ∧ M[j - i]? = some (p, v)
  | [], _, _, _, h => by simp [findS] at h
  | e :: M, i, j, v, h => by
    unfold findS at h
    split at h
    · rename_i he
      injection h with h; injection h with h1 h2
      subst h1 h2
      refine ⟨Nat.le_refl _, ?_⟩
      rw [Nat.sub_self]
      simp [he]
    · obtain ⟨h1, h2⟩ := findS_some h
      refine ⟨by omega, ?_⟩
      rw [show j - i = (j - (i + 1)) + 1 by omega]
      simpa using h2
theorem findS_app (M : List (Int × Sheet)) (e : Int × Sheet) (p : Int) : ∀ i, (findS p (M ++ [e]) i).map (·.2) = ((findS p M i).map (·.2)).or (if p = e.1 then some e.2 else none) := by
  induction M with
  | nil => intro i; by_cases h : p = e.1 <;> simp [findS, h]
  | cons a M ih =>
    intro i
    by_cases h : p = a.1
    · simp [findS, h]
    · simp only [List.cons_append, findS, if_neg h]
      exact ih (i + 1)
theorem mapS_app (M : List (Int × Sheet)) (x : Sheet) (i : Int) : mapS (M ++ [(x.gm, x)]) i = (mapS M i).or (if x.gm = i then some x else none) := by
  rw [mapS, findS_app, mapS]
  by_cases h : x.gm = i
  · rw [if_pos h, if_pos h.symm]
  · rw [if_neg h, if_neg (fun e => h e.symm)]
theorem sheet_same (x y : Sheet) : (x.gm == y.gm && (x.ho == y.ho && (x.aw == y.aw && (x.wk == y.wk && true)))) = sameS x y := rfl
theorem encS_set {M : List (Int × Sheet)} {j : Nat} {p : Int} {x : Sheet} (h : M[j]? = some (p, x)) : (M.map encS).set j (i64 p, .ag (sheetC x)) = M.map encS := by
  refine List.ext_getElem? fun i => ?_
  rw [List.getElem?_set, List.getElem?_map]
  split
  · rename_i e
    subst e
    have := (List.getElem?_eq_some_iff.1 h).1
    rw [List.length_map, if_pos this, h]; rfl
  · rfl
theorem night_ok (r : Rules) (l : List Sheet) : ACalls Try.prog 34 [.ag (rulesC r), sheets l] (.tu [.ag (resC (nightV r l).1), i64 (nightV r l).2.1, i64 (nightV r l).2.2]) := by
  refine acalls_st (rs := [.ag (resC (nightV r l).1), i64 (nightV r l).2.1, i64 (nightV r l).2.2]) [.cell 4 64, .tmp 5, .tmp 6] Try.func34 rfl (by kernel_rfl) Try.ntmps34 rfl (by simp) rfl fun C vs => ?_
  repeat refine awp_seq ?_
  refine awp_reg (by kernel_rfl) fun K hK => ?_
  simp only [go_sem]
  (try simp (disch := omega) only [wrapI])
  repeat first | intro _ | refine ⟨(by omega), ?_⟩ | refine ⟨⟨by omega, by omega⟩, ?_⟩
  refine hK _ ?_
  clear hK K
  repeat refine awp_seq ?_
  refine awp_block ?_
  repeat refine awp_seq ?_
  refine awp_reg (by kernel_rfl) fun K hK => ?_
  simp only [go_sem]
  (try simp (disch := omega) only [wrapI])
  refine xcall_eq (check_ok r) rfl (by simp only [go_sem, i64, ints]) (by simp only [go_sem, i64, ints]) (by first | exact .inl rfl | exact .inr rfl) ?_
  (try simp only [go_sem])
  (try simp (disch := omega) only [wrapI])
  repeat first | intro _ | refine ⟨(by omega), ?_⟩ | refine ⟨⟨by omega, by omega⟩, ?_⟩
  refine hK _ ?_
  clear hK K
  have n2 : ((2 : Int) != 0) = true := by decide
  have n0 : ((0 : Int) != 0) = false := by decide
  by_cases hr : rulesB r = true
  case neg =>
    have e0 : rulesB r = false := by simpa using hr
    have hv : nightV r l = (zeroR, 0, 2) := by rw [nightV, if_pos e0]
    rw [hv]
    simp only [e0, errC, n2, go_sem]
    repeat refine awp_seq ?_
    refine awp_cond rfl (fun hc => ?_) (fun hc => ?_) <;> (try simp only [go_sem] at hc)
    repeat refine awp_seq ?_
    refine awp_reg (by kernel_rfl) fun K hK => ?_
    simp only [go_sem]
    (try simp (disch := omega) only [wrapI])
    repeat first | intro _ | refine ⟨(by omega), ?_⟩ | refine ⟨⟨by omega, by omega⟩, ?_⟩
    refine hK _ ?_
    clear hK K
    refine awp_ret ?_
    simp only [go_sem]
    simp [zeroR]
  simp only [hr, errC, n0, go_sem]
  repeat refine awp_seq ?_
  refine awp_cond rfl (fun hc => ?_) (fun hc => ?_) <;> (try simp only [go_sem] at hc)
  repeat refine awp_seq ?_
  refine awp_reg (by kernel_rfl) fun K hK => ?_
  simp only [go_sem]
  (try simp (disch := omega) only [wrapI])
  intro hlen
  repeat first | intro _ | refine ⟨(by omega), ?_⟩ | refine ⟨⟨by omega, by omega⟩, ?_⟩
  refine hK _ ?_
  clear hK K
  by_cases h1 : 200 < l.length
  · have hv : nightV r l = (zeroR, 0, 5) := by rw [nightV, if_neg (by simp [hr]), if_pos h1]
    rw [hv]
    have e1 : decide ((200 : Int) < (l.length : Int)) = true := by simp; omega
    rw [e1]
    repeat refine awp_seq ?_
    refine awp_cond rfl (fun hc => ?_) (fun hc => ?_) <;> (try simp only [go_sem] at hc)
    repeat refine awp_seq ?_
    refine awp_reg (by kernel_rfl) fun K hK => ?_
    simp only [go_sem]
    (try simp (disch := omega) only [wrapI])
    repeat first | intro _ | refine ⟨(by omega), ?_⟩ | refine ⟨⟨by omega, by omega⟩, ?_⟩
    refine hK _ ?_
    clear hK K
    refine awp_ret ?_
    simp only [go_sem]
    simp [zeroR]
  have e1 : decide ((200 : Int) < (l.length : Int)) = false := by simp; omega
  rw [e1]
  repeat refine awp_seq ?_
  refine awp_cond rfl (fun hc => ?_) (fun hc => ?_) <;> (try simp only [go_sem] at hc)
  refine awp_skip ?_
  try simp only [go_sem]
  repeat refine awp_seq ?_
  refine awp_reg (by kernel_rfl) fun K hK => ?_
  simp only [go_sem]
  (try simp (disch := omega) only [wrapI])
  repeat first | intro _ | refine ⟨(by omega), ?_⟩ | refine ⟨⟨by omega, by omega⟩, ?_⟩
  refine hK _ ?_
  clear hK K
  try simp only [go_sem]
  repeat refine awp_seq ?_
  refine awp_reg (by kernel_rfl) fun K hK => ?_
  simp only [go_sem]
  (try simp (disch := omega) only [wrapI])
  intros
  repeat first | intro _ | refine ⟨(by omega), ?_⟩ | refine ⟨⟨by omega, by omega⟩, ?_⟩
  refine hK _ ?_
  clear hK K
  repeat refine awp_seq ?_
  refine awp_block ?_
  refine awp_whileV (n := 75) (fun (y : Nat × List (Int × Sheet)) vs => [(1, .r (sheets l)), (4, .pt 4 (vs 4) 0), (7, .pt 26 (vs 26) 0), (27, .r (sheets l)), (28, .r (i64 l.length)), (29, .r (i64 y.1))])
    (fun y vs => [(4, .box [.r (i64 0), .r (i64 0), .r (i64 0), .r (i64 0), .r (i64 0), .r (i64 0), .r .ns, .r (i64 0)]), (24, .mp (y.2.map encS)), (26, .box [.r (i64 r.squad), .r (games r.gs), .r (i64 r.most), .r (i64 r.bonus), .r (i64 0), .r (i64 0), .r (i64 0), .r (i64 0), .r (i64 0), .r (i64 0), .r .ns, .r (i64 0), .mp 24 (vs 24)])])
    (fun y => y.1 ≤ l.length ∧ (∀ i, mapS y.2 i = seenL (l.take y.1) i) ∧ (∀ x ∈ l.take y.1, sheetB r x = true) ∧ scanN r [] l = scanN r (l.take y.1) (l.drop y.1)) (fun y => l.length - y.1) (0, []) (fitV_of [2] ?_ ?_) ⟨Nat.zero_le _, fun _ => rfl, by simp, by simp⟩ ?_
  · try simp only [go_sem]
  · try simp only [go_sem]
  · rintro ⟨k, M⟩ vs ⟨hk, hM, hI, hS⟩
    simp only at hk hM hI hS
    repeat refine awp_seq ?_
    refine awp_reg (by kernel_rfl) fun K hK => ?_
    simp only [go_sem]
    (try simp (disch := omega) only [wrapI])
    repeat first | intro _ | refine ⟨(by omega), ?_⟩ | refine ⟨⟨by omega, by omega⟩, ?_⟩
    refine hK _ ?_
    clear hK K
    repeat refine awp_seq ?_
    refine awp_cond rfl (fun hc => ?_) (fun hc => ?_) <;> (try simp only [go_sem] at hc)
    · have hck := hc
      obtain ⟨x, hx⟩ := opt_of_lt hck
      refine awp_skip ?_
      repeat refine awp_seq ?_
      refine awp_block ?_
      repeat refine awp_seq ?_
      refine awp_reg (by kernel_rfl) fun K hK => ?_
      simp only [go_sem, hx, hck]
      (try simp (disch := omega) only [wrapI])
      repeat first | intro _ | refine ⟨(by omega), ?_⟩ | refine ⟨⟨by omega, by omega⟩, ?_⟩
      refine hK _ ?_
      clear hK K
      repeat refine awp_seq ?_
      refine awp_dreg follows (by decide +kernel) (by kernel_rfl) fun K hK => ?_
      simp only [go_sem]
      (try simp (disch := omega) only [wrapI])
      refine xcall_eq (isSheet_ok r x hr) rfl (by simp only [go_sem, i64, ints]) (by simp only [go_sem, i64, ints]) (by first | exact .inl rfl | exact .inr rfl) ?_
      (try simp only [go_sem])
      (try simp (disch := omega) only [wrapI])
      cases hb : sheetB r x with
      | false =>
        have hv : nightV r l = (zeroR, ((k : Nat) : Int), 2) := by
          rw [nightV, if_neg (by simp [hr]), if_neg h1, hS, drop_of_opt hx, scanN, if_neg (by simp [hb])]
          simp; omega
        repeat first | intro _ | refine ⟨(by omega), ?_⟩ | refine ⟨⟨by omega, by omega⟩, ?_⟩
        refine hK _ ?_
        clear hK K
        rw [hv]
        repeat refine awp_seq ?_
        refine awp_cond rfl (fun hc => ?_) (fun hc => ?_) <;> (try simp only [go_sem] at hc)
        repeat refine awp_seq ?_
        refine awp_reg (by kernel_rfl) fun K hK => ?_
        simp only [go_sem]
        (try simp (disch := omega) only [wrapI])
        repeat first | intro _ | refine ⟨(by omega), ?_⟩ | refine ⟨⟨by omega, by omega⟩, ?_⟩
        refine hK _ ?_
        clear hK K
        refine awp_ret ?_
        simp only [go_sem]
        simp [zeroR]
      | true =>
        repeat first | intro _ | refine ⟨(by omega), ?_⟩ | refine ⟨⟨by omega, by omega⟩, ?_⟩
        refine hK _ ?_
        clear hK K
        repeat refine awp_seq ?_
        refine awp_cond rfl (fun hc => ?_) (fun hc => ?_) <;> (try simp only [go_sem] at hc)
        refine awp_skip ?_
        try simp only [go_sem]
        have hfk := findK_S x.gm M 0
        have hse := hM x.gm
        cases hf : findS x.gm M 0 with
        | none =>
          rw [hf] at hfk
          have hse' : seenL (l.take k) x.gm = none := by rw [← hse, mapS, hf]; rfl
          have hsc : scanN r [] l = scanN r (l.take (k + 1)) (l.drop (k + 1)) := by
            rw [hS, drop_of_opt hx, scanN, if_pos hb, hse', take_of_opt hx]
          repeat refine awp_seq ?_
          refine awp_dreg follows (by decide +kernel) (by kernel_rfl) fun K hK => ?_
          simp only [go_sem, hfk, Option.map_none]
          (try simp (disch := omega) only [wrapI])
          repeat first | intro _ | refine ⟨(by omega), ?_⟩ | refine ⟨⟨by omega, by omega⟩, ?_⟩
          refine hK _ ?_
          clear hK K
          try simp only [go_sem]
          repeat refine awp_seq ?_
          refine awp_reg (by kernel_rfl) fun K hK => ?_
          simp only [go_sem]
          (try simp (disch := omega) only [wrapI])
          repeat first | intro _ | refine ⟨(by omega), ?_⟩ | refine ⟨⟨by omega, by omega⟩, ?_⟩
          refine hK _ ?_
          clear hK K
          repeat refine awp_seq ?_
          refine awp_cond rfl (fun hc => ?_) (fun hc => ?_) <;> (try simp only [go_sem] at hc)
          refine awp_skip ?_
          try simp only [go_sem]
          repeat refine awp_seq ?_
          refine awp_dreg follows (by decide +kernel) (by kernel_rfl) fun K hK => ?_
          simp only [go_sem, hfk]
          (try simp (disch := omega) only [wrapI])
          repeat first | intro _ | refine ⟨(by omega), ?_⟩ | refine ⟨⟨by omega, by omega⟩, ?_⟩
          refine hK _ ?_
          clear hK K
          try simp only [go_sem]
          repeat refine awp_seq ?_
          refine awp_reg (by kernel_rfl) fun K hK => ?_
          simp only [go_sem]
          (try simp (disch := omega) only [wrapI])
          repeat first | intro _ | refine ⟨(by omega), ?_⟩ | refine ⟨⟨by omega, by omega⟩, ?_⟩
          refine hK _ ?_
          clear hK K
          try simp only [go_sem]
          refine ⟨(k + 1, M ++ [(x.gm, x)]), ⟨hck, fun i => ?_, ?_, hsc⟩, ?_, fitV_of [9, 10] ?_ ?_⟩
          · rw [mapS_app, hM, take_of_opt hx, seen_app]
          · rw [take_of_opt hx]
            intro z hz
            simp only [List.mem_append, List.mem_singleton] at hz
            rcases hz with hz | rfl
            · exact hI z hz
            · exact hb
          · simp only; omega
          · try simp only [go_sem]
          · try simp only [go_sem]
            simp
        | some jy =>
          obtain ⟨j, y⟩ := jy
          rw [hf] at hfk
          have hse' : seenL (l.take k) x.gm = some y := by rw [← hse, mapS, hf]; rfl
          repeat refine awp_seq ?_
          refine awp_dreg follows (by decide +kernel) (by kernel_rfl) fun K hK => ?_
          simp only [go_sem, hfk, Option.map_some]
          (try simp (disch := omega) only [wrapI])
          repeat first | intro _ | refine ⟨(by omega), ?_⟩ | refine ⟨⟨by omega, by omega⟩, ?_⟩
          refine hK _ ?_
          clear hK K
          try simp only [go_sem]
          repeat refine awp_seq ?_
          refine awp_reg (by kernel_rfl) fun K hK => ?_
          simp only [go_sem, sheet_same]
          (try simp (disch := omega) only [wrapI])
          cases hsm : sameS y x with
          | false =>
            have hv : nightV r l = (zeroR, ((k : Nat) : Int), 6) := by
              rw [nightV, if_neg (by simp [hr]), if_neg h1, hS, drop_of_opt hx, scanN, if_pos hb, hse']
              simp only [hsm]
              simp; omega
            repeat first | intro _ | refine ⟨(by omega), ?_⟩ | refine ⟨⟨by omega, by omega⟩, ?_⟩
            refine hK _ ?_
            clear hK K
            rw [hv]
            repeat refine awp_seq ?_
            refine awp_cond rfl (fun hc => ?_) (fun hc => ?_) <;> (try simp only [go_sem] at hc)
            repeat refine awp_seq ?_
            refine awp_reg (by kernel_rfl) fun K hK => ?_
            simp only [go_sem]
            (try simp (disch := omega) only [wrapI])
            repeat first | intro _ | refine ⟨(by omega), ?_⟩ | refine ⟨⟨by omega, by omega⟩, ?_⟩
            refine hK _ ?_
            clear hK K
            refine awp_ret ?_
            simp only [go_sem]
            simp [zeroR]
          | true =>
            have hyx := sameS_eq.1 hsm
            subst hyx
            obtain ⟨_, hj⟩ := findS_some hf
            rw [Nat.sub_zero] at hj
            have hset := encS_set hj
            have hsc : scanN r [] l = scanN r (l.take (k + 1)) (l.drop (k + 1)) := by
              rw [hS, drop_of_opt hx, scanN, if_pos hb, hse', take_of_opt hx]
              simp only [hsm, if_true]
            repeat first | intro _ | refine ⟨(by omega), ?_⟩ | refine ⟨⟨by omega, by omega⟩, ?_⟩
            refine hK _ ?_
            clear hK K
            repeat refine awp_seq ?_
            refine awp_cond rfl (fun hc => ?_) (fun hc => ?_) <;> (try simp only [go_sem] at hc)
            refine awp_skip ?_
            try simp only [go_sem]
            repeat refine awp_seq ?_
            refine awp_dreg follows (by decide +kernel) (by kernel_rfl) fun K hK => ?_
            simp only [go_sem, hfk, Option.map_some]
            (try simp (disch := omega) only [wrapI])
            repeat first | intro _ | refine ⟨(by omega), ?_⟩ | refine ⟨⟨by omega, by omega⟩, ?_⟩
            refine hK _ ?_
            clear hK K
            try simp only [go_sem]
            repeat refine awp_seq ?_
            refine awp_reg (by kernel_rfl) fun K hK => ?_
            simp only [go_sem]
            (try simp (disch := omega) only [wrapI])
            repeat first | intro _ | refine ⟨(by omega), ?_⟩ | refine ⟨⟨by omega, by omega⟩, ?_⟩
            refine hK _ ?_
            clear hK K
            try simp only [go_sem]
            refine ⟨(k + 1, M), ⟨hck, fun i => ?_, ?_, hsc⟩, ?_, fitV_of [9, 10] ?_ ?_⟩
            · rw [hM, take_of_opt hx, seen_app]
              by_cases hi : y.gm = i
              · subst hi; rw [hse']; rfl
              · rw [if_neg hi]; simp
            · rw [take_of_opt hx]
              intro z hz
              simp only [List.mem_append, List.mem_singleton] at hz
              rcases hz with hz | rfl
              · exact hI z hz
              · exact hb
            · simp only; omega
            · try simp only [go_sem]
            · try simp only [go_sem]
              simp [hset]
    · have : k = l.length := by omega
      subst this
      rw [List.take_length] at hM hI
      have hfun : mapS M = seenL l := funext hM
      have hF : OkF r (mapS M) := fun i x hx => by
        rw [hM] at hx
        obtain ⟨h2, h3⟩ := seen_some hx
        exact ⟨hI x h2, h3⟩
      have hv : nightV r l = (nightR r (mapS M), 0, 0) := by
        rw [nightV, if_neg (by simp [hr]), if_neg h1, hS, List.drop_length, scanN, hfun]
      rw [hv]
      refine awp_exit ?_
      simp only [go_sem]
      repeat refine awp_seq ?_
      refine awp_reg (by kernel_rfl) fun K hK => ?_
      simp only [go_sem]
      (try simp (disch := omega) only [wrapI])
      refine xcall_mut (close_ok r M hr hF) [(1000, 26), (1001, 24)] rfl (by simp only [go_sem, i64, ints, zeroR]) (by simp only [go_sem, i64, ints, zeroR]) (by rfl) (by rfl) ?_
      (try simp only [go_sem, zeroR])
      (try simp (disch := omega) only [wrapI])
      repeat first | intro _ | refine ⟨(by omega), ?_⟩ | refine ⟨⟨by omega, by omega⟩, ?_⟩
      refine hK _ ?_
      clear hK K
      repeat refine awp_seq ?_
      refine awp_reg (by kernel_rfl) fun K hK => ?_
      simp only [go_sem]
      (try simp (disch := omega) only [wrapI])
      repeat first | intro _ | refine ⟨(by omega), ?_⟩ | refine ⟨⟨by omega, by omega⟩, ?_⟩
      refine hK _ ?_
      clear hK K
      refine awp_ret ?_
      simp only [go_sem]

end Go.Proofs.Ytnklbfmdojpfkaa

/- What nights come to: sheets in any order; winners that are certain. -/
namespace Go.Proofs.Ytnklbfmdojpfkaa
open Go Go.Oc
set_option linter.unusedSimpArgs false
set_option linter.unusedVariables false
/-! ### Sheets that do not contradict each other -/
def Cons (p : List Sheet) : Prop := ∀ x ∈ p, ∀ y ∈ p, x.gm = y.gm → x = y
def Val (r : Rules) (p : List Sheet) : Prop := ∀ x ∈ p, sheetB r x = true
theorem cons_sub {p q : List Sheet} (h : Cons p) (hs : ∀ x ∈ q, x ∈ p) : Cons q := fun x hx y hy e => h x (hs x hx) y (hs y hy) e
theorem sameS_refl (x : Sheet) : sameS x x = true := sameS_eq.2 rfl
theorem scan_app (r : Rules) : ∀ (l : List Sheet) (p : List Sheet) (l' : List Sheet), Val r l → Cons (p ++ l) → scanN r p (l ++ l') = scanN r (p ++ l) l'
  | [], p, l', _, _ => by simp
  | x :: l, p, l', hv, hc => by
    have h1 := hv x (by simp)
    have ih := scan_app r l (p ++ [x]) l' (fun y hy => hv y (by simp [hy])) (by simpa using hc)
    rw [List.cons_append, scanN, if_pos h1]
    have e : p ++ x :: l = p ++ [x] ++ l := by simp
    cases hs : seenL p x.gm with
    | none => simp only; rw [ih, e]
    | some y =>
      obtain ⟨hy, hg⟩ := seen_some hs
      have : y = x := hc y (by simp [hy]) x (by simp) hg
      subst this
      simp only [sameS_refl, if_true]
      rw [ih, e]
theorem scan_none {r : Rules} {l : List Sheet} (hv : Val r l) (hc : Cons l) : scanN r [] l = none := by
  have := scan_app r l [] [] hv (by simpa using hc)
  rw [List.append_nil, List.nil_append] at this
  rw [this, scanN]
theorem night_of {r : Rules} {l : List Sheet} (hr : rulesB r = true) (hl : l.length ≤ 200) (hv : Val r l) (hc : Cons l) : nightV r l = (nightR r (seenL l), 0, 0) := by
  unfold nightV
  rw [if_neg (by simp [hr]), if_neg (by omega), scan_none hv hc]
/-- A sheet more, which contradicts one that was there. -/
theorem night_bad {r : Rules} {l : List Sheet} {x y : Sheet} (hr : rulesB r = true) (hl : l.length < 200) (hv : Val r l) (hc : Cons l) (hx : sheetB r x = true) (hy : y ∈ l) (hg : y.gm = x.gm) (hne : y ≠ x) :
    nightV r (l ++ [x]) = (zeroR, (l.length : Int), 6) := by
  have h1 := scan_app r l [] [x] hv (by simpa using hc)
  rw [List.nil_append, scanN, if_pos hx] at h1
  have hs : seenL l x.gm = some y := by
    cases h : seenL l x.gm with
    | none =>
      have := List.find?_eq_none.1 h y hy
      simp [hg] at this
    | some z =>
      obtain ⟨hz, hzg⟩ := seen_some h
      rw [hc z hz y hy (by rw [hzg, hg])]
  have hd : ¬ sameS y x = true := fun h => hne (sameS_eq.1 h)
  rw [hs] at h1
  simp only [hd, if_false] at h1
  unfold nightV
  rw [if_neg (by simp [hr]), if_neg (by simp; omega), h1]
  rfl
theorem seen_iff {l : List Sheet} (hc : Cons l) {i : Int} {x : Sheet} : seenL l i = some x ↔ x ∈ l ∧ x.gm = i := by
  constructor
  · exact seen_some
  · rintro ⟨hx, hg⟩
    cases h : seenL l i with
    | none =>
      have := List.find?_eq_none.1 h x hx
      simp [hg] at this
    | some z =>
      obtain ⟨hz, hzg⟩ := seen_some h
      rw [hc z hz x hx (by rw [hzg, hg])]
theorem seen_ext {l l' : List Sheet} (hc : Cons l) (hs : ∀ x, x ∈ l' ↔ x ∈ l) : seenL l' = seenL l := by
  have hc' : Cons l' := cons_sub hc fun x hx => (hs x).1 hx
  funext i
  refine Option.ext fun x => ?_
  rw [seen_iff hc, seen_iff hc', hs]
theorem sumN_congr {r : Rules} {F G : Int → Option Sheet} : ∀ {k : Nat}, (∀ i : Nat, i < k → F i = G i) → sumN r F k = sumN r G k
  | 0, _ => rfl
  | k + 1, h => by
    rw [sumN, sumN, sumN_congr fun i hi => h i (by omega)]
    unfold stepN
    rw [h k (by omega)]
theorem night_congr {r : Rules} {F G : Int → Option Sheet} (h : ∀ i : Nat, i < r.gs.length → F i = G i) : nightR r F = nightR r G := by
  unfold nightR
  rw [sumN_congr h]
/-! ### Sheets of all games by small numbers -/
def byteAt (b : List Int) (i : Nat) : Int := if b.length = 0 then 0 else b.getD (i % b.length) 0
theorem byteAt_in {b : List Int} (h : ∀ x ∈ b, 0 ≤ x ∧ x ≤ 255) (i : Nat) : 0 ≤ byteAt b i ∧ byteAt b i ≤ 255 := by
  unfold byteAt
  split
  · omega
  · obtain ⟨x, hx⟩ := opt_of_lt (l := b) (i := i % b.length) (Nat.mod_lt _ (by omega))
    rw [List.getD_eq_getElem?_getD, hx]
    exact h x (mem_of_opt hx)
def playS (r : Rules) (b : List Int) (i : Nat) : Sheet :=
  if byteAt b i % 4 > 1 ∧ byteAt b i % 5 = 0 then ⟨i, 0, 0, byteAt b i % 4 - 1⟩
  else if byteAt b i % 4 = 1 then ⟨i, byteAt b i / 4 % legsOf r i, legsOf r i, 0⟩
  else ⟨i, legsOf r i, byteAt b i / 4 % legsOf r i, 0⟩
theorem playS_gm (r : Rules) (b : List Int) (i : Nat) : (playS r b i).gm = i := by
  unfold playS
  split
  · rfl
  · split <;> rfl
theorem legs_in {r : Rules} (hr : rulesB r = true) {i : Nat} (hi : i < r.gs.length) : 1 ≤ legsOf r i ∧ legsOf r i ≤ 15 := by
  obtain ⟨_, _, _, f7, _⟩ := rulesB_facts hr
  obtain ⟨g, hg⟩ := opt_of_lt hi
  have : legsOf r i = g.lg := by simp [legsOf, hg]
  rw [this]
  exact (f7 g (mem_of_opt hg)).2.1
theorem playS_ok {r : Rules} {b : List Int} (hr : rulesB r = true) (hb : ∀ x ∈ b, 0 ≤ x ∧ x ≤ 255) {i : Nat} (hi : i < r.gs.length) : sheetB r (playS r b i) = true := by
  obtain ⟨l1, l2⟩ := legs_in hr hi
  obtain ⟨b1, b2⟩ := byteAt_in hb i
  unfold playS
  generalize byteAt b i = n at *
  have m1 := Int.emod_nonneg (n / 4) (show legsOf r i ≠ 0 by omega)
  have m2 := Int.emod_lt_of_pos (n / 4) (show 0 < legsOf r i by omega)
  generalize n / 4 % legsOf r i = q at *
  split
  · rename_i h
    have hne : n % 4 - 1 ≠ 0 := by omega
    simp only [sheetB, withinL, List.all_cons, List.all_nil, Bool.and_true, Bool.and_eq_true, decide_eq_true_eq, if_neg hne, and_true]
    omega
  · split
    · simp only [sheetB, withinL, List.all_cons, List.all_nil, Bool.and_true, Bool.and_eq_true, decide_eq_true_eq, if_true]
      omega
    · simp only [sheetB, withinL, List.all_cons, List.all_nil, Bool.and_true, Bool.and_eq_true, decide_eq_true_eq, if_true]
      omega
def playsS (r : Rules) (b : List Int) (i : Nat) : List Sheet := (List.range i).map (playS r b)
theorem playsS_succ (r : Rules) (b : List Int) (i : Nat) : playsS r b (i + 1) = playsS r b i ++ [playS r b i] := by simp [playsS, List.range_succ]
theorem playsS_length (r : Rules) (b : List Int) (i : Nat) : (playsS r b i).length = i := by simp [playsS]
theorem playsS_get {r : Rules} {b : List Int} {i n : Nat} (h : i < n) : (playsS r b n)[i]? = some (playS r b i) := by
  unfold playsS
  rw [List.getElem?_map, List.getElem?_range h]; rfl
theorem playsS_val {r : Rules} {b : List Int} (hr : rulesB r = true) (hb : ∀ x ∈ b, 0 ≤ x ∧ x ≤ 255) {n : Nat} (hn : n ≤ r.gs.length) : Val r (playsS r b n) := fun x hx => by
  obtain ⟨i, hi, rfl⟩ := List.mem_map.1 hx
  exact playS_ok hr hb (by have := List.mem_range.1 hi; omega)
theorem playsS_cons (r : Rules) (b : List Int) (n : Nat) : Cons (playsS r b n) := fun x hx y hy e => by
  obtain ⟨i, _, rfl⟩ := List.mem_map.1 hx
  obtain ⟨j, _, rfl⟩ := List.mem_map.1 hy
  rw [playS_gm, playS_gm] at e
  have : i = j := by omega
  rw [this]
theorem playsS_seen {r : Rules} {b : List Int} {n i : Nat} (h : i < n) : seenL (playsS r b n) i = some (playS r b i) :=
  (seen_iff (playsS_cons r b n)).2 ⟨List.mem_map.2 ⟨i, List.mem_range.2 h, rfl⟩, playS_gm r b i⟩
/-- With a sheet of each game nothing is open. -/
theorem sum_full {r : Rules} {F : Int → Option Sheet} : ∀ {k : Nat}, k ≤ r.gs.length → (∀ i : Nat, i < k → (F i).isSome = true) → (sumN r F k).op = []
  | 0, _, _ => rfl
  | k + 1, hk, h => by
    have ih := sum_full (r := r) (F := F) (k := k) (by omega) fun i hi => h i (by omega)
    obtain ⟨x, hx⟩ := Option.isSome_iff_exists.1 (h k (by omega))
    obtain ⟨g, hg⟩ := opt_of_lt (l := r.gs) (i := k) (by omega)
    rw [sumN]
    unfold stepN
    rw [hx, hg]
    exact ih
/-- What a night without open games comes to. -/
theorem end_full {r : Rules} {t : Res} (h : t.op = []) : endR r t = { t with w := leadW (t.p0 - t.p1) (t.l0 - t.l1), p0 := if leadW (t.p0 - t.p1) (t.l0 - t.l1) = 0 then t.p0 + r.bonus else t.p0, p1 := if leadW (t.p0 - t.p1) (t.l0 - t.l1) = 1 then t.p1 + r.bonus else t.p1 } := by
  have h1 : homeR r t = leadW (t.p0 - t.p1) (t.l0 - t.l1) := by simp [homeR, h, openP, openG]
  have h2 : awayR r t = leadW (t.p0 - t.p1) (t.l0 - t.l1) := by simp [awayR, h, openP, openG]
  unfold endR
  rw [h1, h2]
  rcases leadW_in (t.p0 - t.p1) (t.l0 - t.l1) with e | e | e <;> simp [e, h]
/-! ### Winners that are certain -/
theorem leadW_mono {p g p1 g1 p2 g2 : Int} (h1 : p1 ≤ p) (h2 : p ≤ p2) (h3 : g1 ≤ g) (h4 : g ≤ g2) (e : leadW p1 g1 = leadW p2 g2) : leadW p g = leadW p1 g1 := by
  unfold leadW at *
  (repeat' split at e) <;> (repeat' split) <;> first | rfl | omega
theorem leadW_two {p g p2 g2 : Int} (h : g < g2) (hp : p ≤ p2) (e : leadW p g = leadW p2 g2) : leadW p g ≠ 2 := by
  unfold leadW at *
  (repeat' split at e) <;> (repeat' split) <;> omega
theorem sum_between {r : Rules} {b : List Int} {bit : Nat → Bool} (hr : rulesB r = true) (hb : ∀ x ∈ b, 0 ≤ x ∧ x ≤ 255) {N A B E : Int → Option Sheet}
    (hN : ∀ i : Nat, i < r.gs.length → N i = if bit i then none else some (playS r b i)) (hE : ∀ i : Nat, i < r.gs.length → E i = some (playS r b i))
    (hA : ∀ i : Nat, i < r.gs.length → A i = if bit i then some ⟨i, legsOf r i, 0, 0⟩ else some (playS r b i)) (hB : ∀ i : Nat, i < r.gs.length → B i = if bit i then some ⟨i, 0, legsOf r i, 0⟩ else some (playS r b i)) :
    ∀ k, k ≤ r.gs.length → (sumN r N k).op = ((List.range k).filter bit).map (fun i : Nat => (i : Int)) ∧
      ((sumN r A k).p0 = (sumN r N k).p0 + openP r (sumN r N k).op ∧ (sumN r A k).p1 = (sumN r N k).p1 ∧ (sumN r A k).l0 = (sumN r N k).l0 + openG r (sumN r N k).op ∧ (sumN r A k).l1 = (sumN r N k).l1) ∧
      ((sumN r B k).p0 = (sumN r N k).p0 ∧ (sumN r B k).p1 = (sumN r N k).p1 + openP r (sumN r N k).op ∧ (sumN r B k).l0 = (sumN r N k).l0 ∧ (sumN r B k).l1 = (sumN r N k).l1 + openG r (sumN r N k).op) ∧
      ((sumN r N k).p0 - (sumN r N k).p1 - openP r (sumN r N k).op ≤ (sumN r E k).p0 - (sumN r E k).p1 ∧ (sumN r E k).p0 - (sumN r E k).p1 ≤ (sumN r N k).p0 - (sumN r N k).p1 + openP r (sumN r N k).op ∧
        (sumN r N k).l0 - (sumN r N k).l1 - openG r (sumN r N k).op ≤ (sumN r E k).l0 - (sumN r E k).l1 ∧ (sumN r E k).l0 - (sumN r E k).l1 ≤ (sumN r N k).l0 - (sumN r N k).l1 + openG r (sumN r N k).op)
  | 0, _ => by simp [sumN, zeroR, openP, openG]
  | k + 1, hk => by
    obtain ⟨h1, ⟨a1, a2, a3, a4⟩, ⟨b1, b2, b3, b4⟩, e1, e2, e3, e4⟩ := sum_between hr hb hN hE hA hB k (by omega)
    obtain ⟨g, hg⟩ := opt_of_lt (l := r.gs) (i := k) (by omega)
    have hlk : legsOf r k = g.lg := by simp [legsOf, hg]
    have hok := playS_ok hr hb (i := k) (by omega)
    obtain ⟨j, g', hj, _, hg', _, gl, gp, _, hsc⟩ := sheet_game hr hok
    have hjk : j = k := by rw [playS_gm] at hj; omega
    subst hjk
    have : g' = g := by rw [hg] at hg'; injection hg' with e; exact e.symm
    subst this
    obtain ⟨s1, s2⟩ := openP_snoc (q := (sumN r N j).op) hg
    simp only [sumN]
    unfold stepN
    rw [hN j (by omega), hA j (by omega), hB j (by omega), hE j (by omega), hg]
    dsimp only
    have hab : (scoreL r (playS r b j)).1 - (scoreL r (playS r b j)).2 ≤ g'.lg ∧ -g'.lg ≤ (scoreL r (playS r b j)).1 - (scoreL r (playS r b j)).2 := by
      have hmx : max (scoreL r (playS r b j)).1 (scoreL r (playS r b j)).2 = g'.lg ∧ 0 ≤ min (scoreL r (playS r b j)).1 (scoreL r (playS r b j)).2 := by
        have hok' := hok
        simp only [sheetB, Bool.and_eq_true] at hok'
        obtain ⟨_, h3⟩ := hok'
        have hlg : legsOf r (playS r b j).gm = g'.lg := by rw [playS_gm]; exact hlk
        rw [hlg] at h3
        unfold scoreL
        rw [hlg]
        split
        · rename_i h0
          rw [if_pos h0] at h3
          simp only [Bool.and_eq_true, decide_eq_true_eq] at h3
          have := withinL_one h3.2
          simp only
          omega
        · split <;> (simp only; omega)
      omega
    rw [List.range_succ, List.filter_append, List.map_append]
    cases hbt : bit j
    · have hf : ([j].filter bit) = [] := by simp [hbt]
      simp only [hf, List.map_nil, List.append_nil, Bool.false_eq_true, if_false]
      simp only [addL]
      refine ⟨h1, ⟨?_, ?_, by omega, by omega⟩, ⟨?_, ?_, by omega, by omega⟩, ?_, ?_, by omega, by omega⟩ <;> (split <;> omega)
    · have hf : ([j].filter bit) = [j] := by simp [hbt]
      have sc1 : scoreL r ⟨(j : Int), legsOf r j, 0, 0⟩ = (g'.lg, 0) := by simp [scoreL, hlk]
      have sc2 : scoreL r ⟨(j : Int), 0, legsOf r j, 0⟩ = (0, g'.lg) := by simp [scoreL, hlk]
      have d1 : ¬ (0 : Int) > g'.lg := by omega
      have d2 : g'.lg > (0 : Int) := by omega
      simp only [hf, List.map_cons, List.map_nil, if_true, sc1, sc2, addL, d1, d2, if_false, s1, s2]
      refine ⟨by rw [h1], ⟨by omega, by omega, by omega, by omega⟩, ⟨by omega, by omega, by omega, by omega⟩, ?_, ?_, by omega, by omega⟩ <;> (split <;> omega)
end Go.Proofs.Ytnklbfmdojpfkaa

/- A winner that is certain while games are open. -/
namespace Go.Proofs.Ytnklbfmdojpfkaa
open Go Go.Oc
set_option linter.unusedSimpArgs false
set_option linter.unusedVariables false
def leftN (bit : Nat → Bool) (i : Nat) : List Nat := (List.range i).filter bit
def someS (r : Rules) (b : List Int) (bit : Nat → Bool) (i : Nat) : List Sheet := ((List.range i).filter fun j => !bit j).map (playS r b)
def homeS (r : Rules) (j : Nat) : Sheet := ⟨j, legsOf r j, 0, 0⟩
def awayS (r : Rules) (j : Nat) : Sheet := ⟨j, 0, legsOf r j, 0⟩
theorem leftN_succ (bit : Nat → Bool) (i : Nat) : leftN bit (i + 1) = leftN bit i ++ if bit i then [i] else [] := by
  unfold leftN
  rw [List.range_succ, List.filter_append]
  cases h : bit i <;> simp [h]
theorem someS_succ (r : Rules) (b : List Int) (bit : Nat → Bool) (i : Nat) : someS r b bit (i + 1) = someS r b bit i ++ if bit i then [] else [playS r b i] := by
  unfold someS
  rw [List.range_succ, List.filter_append, List.map_append]
  cases h : bit i <;> simp [h]
theorem leftN_le (bit : Nat → Bool) (i : Nat) : (leftN bit i).length ≤ i := by
  have := List.length_filter_le bit (List.range i)
  simpa [leftN] using this
theorem someS_le (r : Rules) (b : List Int) (bit : Nat → Bool) (i : Nat) : (someS r b bit i).length ≤ i := by
  have := List.length_filter_le (fun j => !bit j) (List.range i)
  simpa [someS] using this
theorem cons_of {G : Nat → Sheet} (hG : ∀ j : Nat, (G j).gm = j) {l : List Sheet} (h : ∀ x ∈ l, ∃ j, x = G j) : Cons l := fun x hx y hy e => by
  obtain ⟨i, rfl⟩ := h x hx
  obtain ⟨j, rfl⟩ := h y hy
  rw [hG, hG] at e
  have : i = j := by omega
  rw [this]
theorem home_ok {r : Rules} (hr : rulesB r = true) {j : Nat} (hj : j < r.gs.length) : sheetB r (homeS r j) = true ∧ sheetB r (awayS r j) = true := by
  obtain ⟨l1, l2⟩ := legs_in hr hj
  constructor
  · simp only [homeS, sheetB, withinL, List.all_cons, List.all_nil, Bool.and_true, Bool.and_eq_true, decide_eq_true_eq, if_true]
    exact ⟨by omega, decide_eq_true (by omega), by omega, decide_eq_true (by omega)⟩
  · simp only [awayS, sheetB, withinL, List.all_cons, List.all_nil, Bool.and_true, Bool.and_eq_true, decide_eq_true_eq, if_true]
    exact ⟨by omega, decide_eq_true (by omega), by omega, decide_eq_true (by omega)⟩
theorem le_sum : ∀ {l : List Int}, (∀ x ∈ l, 0 ≤ x) → ∀ y ∈ l, y ≤ l.sum
  | [], _, _, hy => by cases hy
  | a :: l, h, y, hy => by
    have h0 : 0 ≤ l.sum := by
      clear hy
      have : ∀ l : List Int, (∀ x ∈ l, 0 ≤ x) → 0 ≤ l.sum := fun l => by
        induction l with
        | nil => intro _; simp
        | cons a l ih => intro h; rw [List.sum_cons]; have := h a (List.mem_cons_self ..); have := ih fun x hx => h x (List.mem_cons_of_mem _ hx); omega
      exact this l fun x hx => h x (List.mem_cons_of_mem _ hx)
    have ha := h a (List.mem_cons_self ..)
    rw [List.sum_cons]
    rcases List.mem_cons.1 hy with rfl | hy
    · omega
    · have := le_sum (fun x hx => h x (List.mem_cons_of_mem _ hx)) y hy
      omega
theorem openG_pos {r : Rules} (hr : rulesB r = true) {l : List Nat} (hl : ∀ j ∈ l, j < r.gs.length) (hne : l ≠ []) : 0 < openG r (l.map fun i : Nat => (i : Int)) := by
  obtain ⟨j, hj⟩ := List.exists_mem_of_ne_nil _ hne
  have h1 := (legs_in hr (hl j hj)).1
  have h2 := le_sum (l := (l.map fun i : Nat => (i : Int)).map fun i => legsOf r i) (fun x hx => by
    rw [List.map_map] at hx
    obtain ⟨i, hi, rfl⟩ := List.mem_map.1 hx
    have := (legs_in hr (hl i hi)).1
    simp only [Function.comp]
    omega) (legsOf r j) (by rw [List.map_map]; exact List.mem_map.2 ⟨j, hj, rfl⟩)
  unfold openG
  omega
theorem endR_op (r : Rules) (t : Res) : (endR r t).op = t.op := by
  unfold endR
  dsimp only
  (repeat' split) <;> rfl
/-- What the law says of a night while games are open. -/
theorem certain {r : Rules} {b : List Int} {bit : Nat → Bool} (hr : rulesB r = true) (hb : ∀ x ∈ b, 0 ≤ x ∧ x ≤ 255) (hn : r.gs.length ≤ 12) :
    ∃ TN TE TA TB : Res, nightV r (someS r b bit r.gs.length) = (TN, 0, 0) ∧ nightV r (playsS r b r.gs.length) = (TE, 0, 0) ∧
      nightV r (someS r b bit r.gs.length ++ (leftN bit r.gs.length).map (homeS r)) = (TA, 0, 0) ∧ nightV r (someS r b bit r.gs.length ++ (leftN bit r.gs.length).map (awayS r)) = (TB, 0, 0) ∧
      TN.op = (leftN bit r.gs.length).map (fun i : Nat => (i : Int)) ∧ TE.op = [] ∧ TA.op = [] ∧ TB.op = [] ∧
      (TE.w = 0 ∨ TE.w = 1 ∨ TE.w = 2) ∧ (TA.w = 0 ∨ TA.w = 1 ∨ TA.w = 2) ∧ (TB.w = 0 ∨ TB.w = 1 ∨ TB.w = 2) ∧ TN.w = (if TA.w = TB.w then TA.w else -1) ∧ (TA.w = TB.w → TE.w = TA.w) ∧ (leftN bit r.gs.length ≠ [] → TA.w = TB.w → TA.w ≠ 2) := by
  have hlen := someS_le r b bit r.gs.length
  have hlen2 := leftN_le bit r.gs.length
  have hmS : ∀ x, x ∈ someS r b bit r.gs.length ↔ ∃ j, j < r.gs.length ∧ bit j = false ∧ x = playS r b j := fun x => by
    unfold someS
    rw [List.mem_map]
    constructor
    · rintro ⟨j, hj, rfl⟩
      rw [List.mem_filter, List.mem_range] at hj
      exact ⟨j, hj.1, by simpa using hj.2, rfl⟩
    · rintro ⟨j, h1, h2, rfl⟩
      exact ⟨j, by rw [List.mem_filter, List.mem_range]; exact ⟨h1, by simp [h2]⟩, rfl⟩
  have hmL : ∀ j, j ∈ leftN bit r.gs.length ↔ j < r.gs.length ∧ bit j = true := fun j => by
    unfold leftN
    rw [List.mem_filter, List.mem_range]
  -- sheets of the games that were played, and X for the others
  have gen : ∀ (X : Nat → Sheet), (∀ j : Nat, (X j).gm = j) → (∀ j, j < r.gs.length → sheetB r (X j) = true) →
      nightV r (someS r b bit r.gs.length ++ (leftN bit r.gs.length).map X) = (nightR r (seenL (someS r b bit r.gs.length ++ (leftN bit r.gs.length).map X)), 0, 0) ∧
      ∀ i : Nat, i < r.gs.length → seenL (someS r b bit r.gs.length ++ (leftN bit r.gs.length).map X) i = if bit i then some (X i) else some (playS r b i) := fun X hX hok => by
    have hG : ∀ j : Nat, ((fun j => if bit j then X j else playS r b j) j).gm = j := fun j => by
      dsimp only
      split
      · exact hX j
      · exact playS_gm r b j
    have hc : Cons (someS r b bit r.gs.length ++ (leftN bit r.gs.length).map X) := cons_of hG fun x hx => by
      rcases List.mem_append.1 hx with hx | hx
      · obtain ⟨j, _, h2, rfl⟩ := (hmS x).1 hx
        exact ⟨j, by simp [h2]⟩
      · obtain ⟨j, hj, rfl⟩ := List.mem_map.1 hx
        exact ⟨j, by simp [((hmL j).1 hj).2]⟩
    refine ⟨night_of hr (by rw [List.length_append, List.length_map]; omega) (fun x hx => ?_) hc, fun i hi => ?_⟩
    · rcases List.mem_append.1 hx with hx | hx
      · obtain ⟨j, h1, _, rfl⟩ := (hmS x).1 hx
        exact playS_ok hr hb h1
      · obtain ⟨j, hj, rfl⟩ := List.mem_map.1 hx
        exact hok j ((hmL j).1 hj).1
    · cases h : bit i
      · simp only [Bool.false_eq_true, if_false]
        exact (seen_iff hc).2 ⟨List.mem_append_left _ ((hmS _).2 ⟨i, hi, h, rfl⟩), playS_gm r b i⟩
      · simp only [if_true]
        exact (seen_iff hc).2 ⟨List.mem_append_right _ (List.mem_map.2 ⟨i, (hmL i).2 ⟨hi, h⟩, rfl⟩), hX i⟩
  obtain ⟨ha, hA⟩ := gen (homeS r) (fun _ => rfl) fun j hj => (home_ok hr hj).1
  obtain ⟨hbq, hB⟩ := gen (awayS r) (fun _ => rfl) fun j hj => (home_ok hr hj).2
  have hcS : Cons (someS r b bit r.gs.length) := cons_of (G := playS r b) (playS_gm r b) fun x hx => by
    obtain ⟨j, _, _, rfl⟩ := (hmS x).1 hx
    exact ⟨j, rfl⟩
  have hN : ∀ i : Nat, i < r.gs.length → seenL (someS r b bit r.gs.length) i = if bit i then none else some (playS r b i) := fun i hi => by
    cases h : bit i
    · simp only [Bool.false_eq_true, if_false]
      exact (seen_iff hcS).2 ⟨(hmS _).2 ⟨i, hi, h, rfl⟩, playS_gm r b i⟩
    · simp only [if_true]
      cases hs : seenL (someS r b bit r.gs.length) i with
      | none => rfl
      | some x =>
        obtain ⟨h1, h2⟩ := seen_some hs
        obtain ⟨j, _, h4, rfl⟩ := (hmS x).1 h1
        rw [playS_gm] at h2
        have : j = i := by omega
        rw [this, h] at h4; cases h4
  have hE : ∀ i : Nat, i < r.gs.length → seenL (playsS r b r.gs.length) i = some (playS r b i) := fun i hi => playsS_seen hi
  have hv := playsS_val (n := r.gs.length) hr hb (Nat.le_refl _)
  have hc := playsS_cons r b r.gs.length
  obtain ⟨s1, ⟨a1, a2, a3, a4⟩, ⟨b1, b2, b3, b4⟩, e1, e2, e3, e4⟩ := sum_between hr hb hN hE (fun i hi => hA i hi) (fun i hi => hB i hi) r.gs.length (Nat.le_refl _)
  have oA := sum_full (r := r) (F := seenL (someS r b bit r.gs.length ++ (leftN bit r.gs.length).map (homeS r))) (Nat.le_refl _) fun i hi => by rw [hA i hi]; split <;> rfl
  have oB := sum_full (r := r) (F := seenL (someS r b bit r.gs.length ++ (leftN bit r.gs.length).map (awayS r))) (Nat.le_refl _) fun i hi => by rw [hB i hi]; split <;> rfl
  have oE := sum_full (r := r) (F := seenL (playsS r b r.gs.length)) (Nat.le_refl _) fun i hi => by rw [hE i hi]; rfl
  have hob := open_bounds hr (sumN r (seenL (someS r b bit r.gs.length)) r.gs.length).op
  refine ⟨_, _, _, _, night_of hr (by omega) (fun x hx => ?_) hcS, night_of hr (by rw [playsS_length]; omega) hv hc, ha, hbq, ?_, ?_, ?_, ?_, ?_, ?_, ?_, ?_, ?_, ?_⟩
  · obtain ⟨j, h1, _, rfl⟩ := (hmS x).1 hx
    exact playS_ok hr hb h1
  · unfold nightR
    rw [endR_op]
    exact s1
  · unfold nightR; rw [end_full oE]; exact oE
  · unfold nightR; rw [end_full oA]; exact oA
  · unfold nightR; rw [end_full oB]; exact oB
  · unfold nightR; rw [end_full oE]; exact leadW_in _ _
  · unfold nightR; rw [end_full oA]; exact leadW_in _ _
  · unfold nightR; rw [end_full oB]; exact leadW_in _ _
  all_goals unfold nightR; (try rw [end_full oE]); rw [end_full oA, end_full oB]
  all_goals dsimp only
  all_goals rw [a1, a2, a3, a4, b1, b2, b3, b4]
  · generalize sumN r (seenL (someS r b bit r.gs.length)) r.gs.length = t at *
    have h1 : homeR r t = leadW (t.p0 + openP r t.op - t.p1) (t.l0 + openG r t.op - t.l1) := by unfold homeR; congr 1 <;> omega
    have h2 : awayR r t = leadW (t.p0 - (t.p1 + openP r t.op)) (t.l0 - (t.l1 + openG r t.op)) := by unfold awayR; congr 1 <;> omega
    unfold endR
    dsimp only
    rw [h1, h2]
    (repeat' split) <;> rfl
  · intro h
    exact (leadW_mono (by omega) (by omega) (by omega) (by omega) h.symm).trans h.symm
  · intro hne h
    rw [h]
    have hG : 0 < openG r (sumN r (seenL (someS r b bit r.gs.length)) r.gs.length).op := by
      rw [s1]
      exact openG_pos hr (fun j hj => ((hmL j).1 hj).1) hne
    exact leadW_two (p2 := (sumN r (seenL (someS r b bit r.gs.length)) r.gs.length).p0 + openP r (sumN r (seenL (someS r b bit r.gs.length)) r.gs.length).op - (sumN r (seenL (someS r b bit r.gs.length)) r.gs.length).p1)
      (g2 := (sumN r (seenL (someS r b bit r.gs.length)) r.gs.length).l0 + openG r (sumN r (seenL (someS r b bit r.gs.length)) r.gs.length).op - (sumN r (seenL (someS r b bit r.gs.length)) r.gs.length).l1) (by omega) (by omega) h.symm
end Go.Proofs.Ytnklbfmdojpfkaa

/- A variable of one's own that holds plain data becomes plain data itself: its row is given up. -/
namespace Go.Oc
open Go Go.RowKit
set_option linter.unusedVariables false
theorem relC_plain {w : World} {p : Plan} {ver : Nat → Nat} {R' : Nat → Prop} (hR : ∀ b, p.R b → R' b) {b : Nat} {cells : Array Value} {ty : TypeId} (hh : w.heap[b]? = some (.cells cells ty (0, 0))) (h1 : ∀ u ∈ cells.toList, u.oneCell' = true) :
    ∀ (cs : List RV) (us : List Value) (j : Nat), (∀ i u, us[i]? = some u → cells[j + i]? = some u) → AV.relV w p ver (cs.map .r) us → RV.relC w R' cs ⟨b, 0, none⟩ j
  | [], _, _, _, _ => by simp [RV.relC]
  | c :: cs, us, j, hget, hV => by
    simp only [List.map_cons, AV.relV] at hV
    obtain ⟨u, us, rfl, hu, hV⟩ := hV
    simp only [RV.relC]
    have hc0 : cells[j]? = some u := by simpa using hget 0 u (by simp)
    refine ⟨⟨u, ?_, h1 u (by simpa using List.mem_of_getElem? (by simpa using hc0 : cells.toList[j]? = some u)), ?_⟩, ?_⟩
    · rw [add_at, Nat.zero_add, cell_of_row w b j cells ty (0, 0) hh]; exact hc0
    · simp only [AV.rel] at hu
      exact RV.rel_mono hR (fun _ _ => rfl) _ _ hu
    · exact relC_plain hR hh h1 cs us (j + 1) (fun i u hi => by
        have := hget (i + 1) u (by simpa using hi)
        rwa [show j + 1 + i = j + (i + 1) by omega]) hV
theorem sub_freezeP (s : AS) (t k : Nat) {rs : List RV} (hk0 : k < 1000) (ht : s.tm t = .pt k (s.ver k) 0) (hc : (s.rows k).c = .box (rs.map .r)) :
    Sub s { s with tm := upd s.tm t (.r (.rp rs)), rows := upd s.rows k ⟨(s.rows k).ver + 1, .dead⟩ } := fun C a w ⟨p, hp⟩ => by
  have h1 := hp.reRow (w' := w) k hk0 .dead rfl none 1 (by simp [maxLen]) rfl rfl rfl (Nat.le_refl _) (fun _ _ _ => rfl) (fun _ h => by cases h) (fun p' ver' _ hβ hγ _ => by simp only [rowRel]; exact ⟨hβ, hγ⟩)
  have hval := hp.tm t
  rw [ht] at hval
  have hr := hp.rw k
  rw [hc] at hr
  simp only [rowRel] at hr
  obtain ⟨b, cs, ty, g1, g2, g3, g4⟩ := hr
  simp only [AV.rel] at hval
  obtain ⟨b', e1, e2⟩ := hval.2 trivial
  rw [g1] at e1
  injection e1 with e1
  subst e1
  obtain ⟨q1, _, q2⟩ := hp.bl k b g1
  have h2 := h1.publish (b := b) q1 (q2.resolve_right (fun h => by omega)) (fun j hj => by
    have hj' : upd p.β k none j = some b := hj
    by_cases e : j = k
    · subst e; rw [upd_same] at hj'; cases hj'
    · rw [upd_other _ _ e] at hj'; exact e (hp.ij j k b hj' g1))
  refine ⟨_, { h2 with tm := fun j => ?_ }⟩
  show AV.rel w _ _ (upd s.tm t _ j) _
  by_cases hj : j = t
  · subst hj
    rw [upd_same]
    simp only [AV.rel, RV.rel]
    refine ⟨_, e2, .inr rfl, ?_⟩
    exact relC_plain (fun _ h => .inl h) g2 g4 _ _ _ (fun i u h => by simpa using h) g3
  · rw [upd_other _ _ hj]
    exact h2.tm j
section
variable {n : Nat} {l : List (Nat × AV)} {vs : Nat → Nat} {cs : List (Nat × RowC)}
theorem sub_frzP (t k : Nat) (rs : List RV) (hk0 : k < 1000) (ht : look l t = .pt k (vs k) 0) (hc : lookc cs k = .box (rs.map .r)) :
    Sub (st n l vs cs) (st n ((t, .r (.rp rs)) :: l) (upd vs k (vs k + 1)) (delc cs k)) := by
  have := sub_freezeP (st n l vs cs) t k hk0 ht hc
  have e : ({ st n l vs cs with tm := upd (st n l vs cs).tm t (.r (.rp rs)), rows := upd (st n l vs cs).rows k ⟨((st n l vs cs).rows k).ver + 1, .dead⟩ } : AS) = st n ((t, .r (.rp rs)) :: l) (upd vs k (vs k + 1)) (delc cs k) := by
    simp only [st, AS.mk.injEq, true_and]
    constructor
    · funext j
      show upd (look l) t (.r (.rp rs)) j = look ((t, .r (.rp rs)) :: l) j
      rfl
    · funext j
      rw [lookc_delc]
      unfold upd
      split <;> rfl
  rwa [e] at this
end
end Go.Oc

/- A long region in parts: between them what is not needed any more is dropped. -/
namespace Go.Oc
open Go Go.RowKit
set_option linter.unusedSimpArgs false
set_option linter.unusedVariables false
set_option linter.unnecessarySimpa false

section
variable {P : Program} {C : Ctx} {s : AS} {ops : Array Oper}
theorem aops_seq2 {Q : AS → Prop} {Q' : Exit → Act → World → Prop} {l2 : List Oper} {n : Nat} (hQ : ∀ s a w, s.n = n → Q s → SRel C s a w → wpList P ops Q' l2 a w) : ∀ (l : List Oper) (s : AS) (a : Act) (w : World), s.n = n → dstOk l.toArray s.n = true → aops P false ops l Q s → SRel C s a w → wpList P ops Q' (l ++ l2) a w
  | [], s, a, w, hn0, _, h, hs => hQ s a w hn0 h hs
  | o :: l, s, a, w, hn0, hd, h, hs => by
    rw [List.cons_append]
    have hd0 : ∀ t, o.dst = some t → t < s.n := dstOk_get (i := 0) hd (by simp)
    have hdl : dstOk l.toArray s.n = true := by
      unfold dstOk at hd ⊢
      simp only [List.all_toArray, List.all_cons, Bool.and_eq_true] at hd ⊢
      exact hd.2
    obtain ⟨p, hp⟩ := hs
    have run : ∀ {s1 : AS}, s1 = s → xop P false o (aops P false ops l Q) s1 → wantA ops s o = some true → wpList P ops Q' (o :: (l ++ l2)) a w := fun e hop hw => by
      subst e
      unfold wpList
      rw [if_pos (wantA_sound hp hw)]
      refine .inl (xop_sound hp hop hd0 fun a' w' p' s' hs' hn hK => ?_)
      exact aops_seq2 hQ l _ a' w' (hn.trans hn0) (by rw [hn]; exact hdl) hK ⟨p', hs'⟩
    have skip : ∀ {s1 : AS}, s1 = s → aops P false ops l Q (s1.put o.dst (.r .ud)) → wantA ops s o = some false → wpList P ops Q' (o :: (l ++ l2)) a w := fun e hop hw => by
      subst e
      unfold wpList
      rw [wantA_sound hp hw]
      simp only [Bool.false_eq_true, if_false]
      have := hp.put' (d := o.dst) (av := .r .ud) (v := undef) (by simp only [AV.rel, RV.rel]) hd0
      exact aops_seq2 hQ l _ _ w ((put_n _ _ _).trans hn0) (by rw [put_n]; exact hdl) hop ⟨p, this⟩
    unfold aops at h
    split at h
    · rename_i hg
      exact run rfl h (by simp [wantA, hg])
    · rename_i g want hg
      split at h
      · rename_i ht
        exact skip rfl h (by simp [wantA, hg, ht])
      · rename_i t ht
        split at h
        · rename_i b hb
          by_cases hw : b = want
          · subst hw
            exact run (put_self hb) (h.1 rfl) (by simp [wantA, hg, ht, hb])
          · have hw' : b = !want := by cases b <;> cases want <;> simp_all
            subst hw'
            exact skip (put_self hb) (h.2 rfl) (by simp [wantA, hg, ht, hb])
        · rename_i hb
          exact skip rfl h (by simp [wantA, hg, ht, hb])
        · exact h.elim

/-- What is left of a region, from a state on. -/
def sops (P : Program) (C : Ctx) (ops : Array Oper) (l : List Oper) (Q : Exit → AS → Prop) (s : AS) : Prop := ∀ a w, SRel C s a w → wpList P ops (fun e a' w' => ∃ s', SRel C s' a' w' ∧ Q e s') l a w
variable {Q : Exit → AS → Prop}
theorem awp_long {id : Nat} {l : List Oper} (h : sops P C l.toArray l Q s) : awp P C (.region id l.toArray false) Q s := fun a w hs => wp_region_list (h a w hs)
theorem sops_take (k : Nat) {l : List Oper} (hd : dstOk (l.take k).toArray s.n = true) (h : ∀ K : AS → Prop, (∀ s', s'.n = s.n → sops P C ops (l.drop k) Q s' → K s') → aops P false ops (l.take k) K s) : sops P C ops l Q s := fun a w hs => by
  have h1 := h (fun s' => s'.n = s.n → sops P C ops (l.drop k) Q s') (fun s' _ hq _ => hq)
  have := aops_seq2 (Q' := fun e a' w' => ∃ s', SRel C s' a' w' ∧ Q e s') (l2 := l.drop k) (n := s.n) (fun s' a' w' hn hq hs' => hq hn a' w' hs') (l.take k) s a w rfl hd h1 hs
  rwa [List.take_append_drop] at this
theorem sops_sub {l : List Oper} {s' : AS} (h : Sub s s') (hq : sops P C ops l Q s') : sops P C ops l Q s := fun a w hs => hq a w (h C a w hs)
theorem sops_end {l : List Oper} (hd : dstOk l.toArray s.n = true) (h : ∀ K : AS → Prop, (∀ s, Q .normal s → K s) → aops P false ops l K s) : sops P C ops l Q s := fun a w hs =>
  aops_seq (fun s a w hq hs => ⟨s, hs, hq⟩) l s a w hd (h _ fun _ h => h) hs
theorem awp_fitV {c : Code} {n : Nat} {F : (Nat → Nat) → List (Nat × AV)} {R : (Nat → Nat) → List (Nat × RowC)} (h : FitV n F R s) (k : ∀ vs, awp P C c Q (st n (F vs) vs (R vs))) : awp P C c Q s := by
  obtain ⟨vs, h⟩ := h
  exact awp_sub h (k vs)
/-- Paths meet again; rows may tell of versions. -/
theorem awp_joinV {n : Nat} {c d : Code} {Q1 : Exit → AS → Prop} {α : Type} (F : α → (Nat → Nat) → List (Nat × AV)) (R : α → (Nat → Nat) → List (Nat × RowC)) (I : α → Prop)
    (h0 : ∀ s, awp P C d Q1 s → Q .normal s) (h1 : awp P C c (andThen (fun s' => ∃ z, I z ∧ FitV n (F z) (R z) s') Q) s) (h2 : ∀ z vs, I z → awp P C d Q1 (st n (F z vs) vs (R z vs))) : awp P C c Q s := by
  refine awp_mono ?_ h1
  intro e s' hq
  cases e with
  | normal =>
    obtain ⟨z, hz, hf⟩ := hq
    exact h0 s' (awp_fitV hf fun vs => h2 z vs hz)
  | _ => exact hq
end
end Go.Oc

/- Sheets of all games by small numbers. -/
namespace Go.Proofs.Ytnklbfmdojpfkaa
open Go Go.Oc
set_option linter.unusedSimpArgs false
set_option linter.unusedVariables false
set_option maxRecDepth 8000
abbrev bytes (l : List Int) : RV := .sl 1 (l.map fun x => [.it .u8 x])
set_option maxHeartbeats 1000000 in
theorem played_ok (r : Rules) (b : List Int) (hr : rulesB r = true) (hb : ∀ x ∈ b, 0 ≤ x ∧ x ≤ 255) : ACalls Try.prog 41 [.ag (rulesC r), bytes b] (sheets (playsS r b r.gs.length)) := by
  obtain ⟨_, ⟨f3, f4⟩, _, f7, _⟩ := rulesB_facts hr
  refine acalls_st (rs := [sheets (playsS r b r.gs.length)]) [.tmp 4] Try.func41 rfl (by kernel_rfl) Try.ntmps41 rfl (by simp) rfl fun C vs => ?_
  repeat refine awp_seq ?_
  refine awp_reg (by kernel_rfl) fun K hK => ?_
  simp only [go_sem]
  (try simp (disch := omega) only [wrapI])
  repeat first | intro _ | refine ⟨(by omega), ?_⟩ | refine ⟨⟨by omega, by omega⟩, ?_⟩
  refine hK _ ?_
  clear hK K
  refine awp_sub (sub_frzP 2 2 (rulesC r) (by omega) rfl rfl) ?_
  try simp only [go_sem]
  refine awp_sub (sub_keep [1, 2]) ?_
  simp only [go_sem]
  repeat refine awp_seq ?_
  refine awp_reg (by kernel_rfl) fun K hK => ?_
  simp only [go_sem]
  (try simp (disch := omega) only [wrapI])
  repeat first | intro _ | refine ⟨(by omega), ?_⟩ | refine ⟨⟨by omega, by omega⟩, ?_⟩
  refine hK _ ?_
  clear hK K
  refine awp_sub (sub_keep [1, 2, 5]) ?_
  simp only [go_sem]
  repeat refine awp_seq ?_
  refine awp_reg (by kernel_rfl) fun K hK => ?_
  simp only [go_sem]
  (try simp (disch := omega) only [wrapI])
  repeat first | intro _ | refine ⟨(by omega), ?_⟩ | refine ⟨⟨by omega, by omega⟩, ?_⟩
  refine hK _ ?_
  clear hK K
  refine awp_sub (sub_keep [1, 2, 5, 6]) ?_
  simp only [go_sem]
  repeat refine awp_seq ?_
  refine awp_block ?_
  refine awp_sub (sub_own 5 68 68 4 (by omega) rfl) ?_
  try simp only [go_sem]
  refine awp_upto (n := 70) r.gs.length (fun i vs => [(1, .r (bytes b)), (2, .r (.rp (rulesC r))), (5, .os 68 (vs 68) 4 0 i), (6, .r (i64 i))])
    (fun i => [(68, .arr 68 4 ((playsS r b i).map sheetC))]) (fun _ => True) 0 (fit_of [] ?_ ?_) (Nat.zero_le _) trivial ?_
  · try simp only [go_sem]
  · try simp only [go_sem]
    rfl
  · intro i vs hi _
    repeat refine awp_seq ?_
    refine awp_reg (by kernel_rfl) fun K hK => ?_
    simp only [go_sem]
    (try simp (disch := omega) only [wrapI])
    repeat first | intro _ | refine ⟨(by omega), ?_⟩ | refine ⟨⟨by omega, by omega⟩, ?_⟩
    refine hK _ ?_
    clear hK K
    refine awp_sub (sub_keep [1, 2, 5, 6, 15]) ?_
    simp only [go_sem]
    repeat refine awp_seq ?_
    refine awp_cond rfl (fun hc => ?_) (fun hc => ?_) <;> (try simp only [go_sem] at hc)
    · have hci : i < r.gs.length := by omega
      obtain ⟨g, hg⟩ := opt_of_lt hci
      obtain ⟨_, g5, g6⟩ := f7 g (mem_of_opt hg)
      have hlg : legsOf r i = g.lg := by simp [legsOf, hg]
      obtain ⟨n1, n2⟩ := byteAt_in hb i
      refine awp_skip ?_
      try simp only [go_sem]
      repeat refine awp_seq ?_
      refine awp_block ?_
      repeat refine awp_seq ?_
      refine awp_dreg follows (by decide +kernel) (by kernel_rfl) fun K hK => ?_
      simp only [go_sem, hg, hci]
      (try simp (disch := omega) only [wrapI])
      repeat first | intro _ | refine ⟨(by omega), ?_⟩ | refine ⟨⟨by omega, by omega⟩, ?_⟩
      refine hK _ ?_
      clear hK K
      refine awp_sub (sub_keep [1, 2, 5, 6, 7, 8]) ?_
      simp only [go_sem]
      repeat refine awp_seq ?_
      refine awp_reg (by kernel_rfl) fun K hK => ?_
      simp only [go_sem]
      (try simp (disch := omega) only [wrapI])
      repeat first | intro _ | refine ⟨(by omega), ?_⟩ | refine ⟨⟨by omega, by omega⟩, ?_⟩
      refine hK _ ?_
      clear hK K
      refine awp_sub (sub_keep [1, 2, 5, 6, 7, 8, 26]) ?_
      simp only [go_sem]
      repeat refine awp_seq ?_
      refine awp_join (n := 70) (fun (_ : Unit) vs => [(1, .r (bytes b)), (2, .r (.rp (rulesC r))), (5, .os 68 (vs 68) 4 0 i), (6, .r (i64 i)), (7, .r (i64 (byteAt b i))), (8, .r (i64 g.lg))]) (fun _ => [(68, .arr 68 4 ((playsS r b i).map sheetC))]) (fun _ => True) (fun _ h => h) ?_ ?_
      · repeat refine awp_seq ?_
        refine awp_cond rfl (fun hc => ?_) (fun hc => ?_) <;> (try simp only [go_sem] at hc)
        · have hpos : 0 < b.length := by omega
          have hlt : i % b.length < b.length := Nat.mod_lt _ hpos
          obtain ⟨x, hx⟩ := opt_of_lt hlt
          have hnum : byteAt b i = x := by
            unfold byteAt
            rw [if_neg (by omega), List.getD_eq_getElem?_getD, hx]; rfl
          have hxr := hb x (mem_of_opt hx)
          have ht : (i : Int).tmod (b.length : Int) = ((i % b.length : Nat) : Int) := rfl
          have i1 : (b.length : Int) ≠ 0 := by omega
          have i2 : (0 : Int) ≤ ((i % b.length : Nat) : Int) := by omega
          rw [hnum]
          repeat refine awp_seq ?_
          refine awp_reg (by kernel_rfl) fun K hK => ?_
          simp only [go_sem]
          (try simp (disch := omega) only [wrapI])
          simp only [ht, i1, i2, hlt, hx, Int.toNat_natCast, Int.ofNat_lt, true_and, and_true, ne_eq, not_false_eq_true, go_sem]
          try simp (disch := omega) only [wrapI]
          repeat first | intro _ | refine ⟨(by omega), ?_⟩ | refine ⟨⟨by omega, by omega⟩, ?_⟩
          refine hK _ ?_
          clear hK K
          try simp only [go_sem]
          exact ⟨(), fit_of [] (by try simp only [go_sem]) (by try simp only [go_sem])⟩
        · have hnum : byteAt b i = 0 := by
            unfold byteAt
            rw [if_pos (by omega)]
          rw [hnum]
          refine awp_skip ?_
          try simp only [go_sem]
          exact ⟨(), fit_of [] (by try simp only [go_sem]) (by try simp only [go_sem])⟩
      intro _ vs _
      have hpl : playS r b i = if byteAt b i % 4 > 1 ∧ byteAt b i % 5 = 0 then ⟨i, 0, 0, byteAt b i % 4 - 1⟩ else if byteAt b i % 4 = 1 then ⟨i, byteAt b i / 4 % g.lg, g.lg, 0⟩ else ⟨i, g.lg, byteAt b i / 4 % g.lg, 0⟩ := by
        unfold playS; rw [hlg]
      generalize byteAt b i = n at *
      have t1 : n.tdiv 4 = n / 4 := Int.tdiv_eq_ediv_of_nonneg n1
      have t2 : n.tmod 4 = n % 4 := Int.tmod_eq_emod_of_nonneg n1
      have t3 : n.tmod 5 = n % 5 := Int.tmod_eq_emod_of_nonneg n1
      have t4 : (n / 4).tmod g.lg = n / 4 % g.lg := Int.tmod_eq_emod_of_nonneg (by omega)
      have m1 := Int.emod_nonneg (n / 4) (show g.lg ≠ 0 by omega)
      have m2 := Int.emod_lt_of_pos (n / 4) (show 0 < g.lg by omega)
      have i3 : g.lg ≠ 0 := by omega
      repeat refine awp_seq ?_
      refine awp_reg (by kernel_rfl) fun K hK => ?_
      simp only [go_sem, t1, t4, i3]
      (try simp (disch := omega) only [wrapI])
      try simp only [t1, t4]
      repeat first | intro _ | refine ⟨(by omega), ?_⟩ | refine ⟨⟨by omega, by omega⟩, ?_⟩
      refine hK _ ?_
      clear hK K
      refine awp_sub (sub_keep [1, 2, 5, 6, 7, 8, 9]) ?_
      simp only [go_sem]
      repeat refine awp_seq ?_
      refine awp_reg (by kernel_rfl) fun K hK => ?_
      simp only [go_sem, t2]
      (try simp (disch := omega) only [wrapI])
      repeat first | intro _ | refine ⟨(by omega), ?_⟩ | refine ⟨⟨by omega, by omega⟩, ?_⟩
      refine hK _ ?_
      clear hK K
      refine awp_sub (sub_keep [1, 2, 5, 6, 7, 8, 9, 44]) ?_
      simp only [go_sem]
      repeat refine awp_seq ?_
      refine awp_join (n := 70) (fun (_ : Unit) vs => [(1, .r (bytes b)), (2, .r (.rp (rulesC r))), (5, .os 68 (vs 68) 4 0 i), (6, .r (i64 i)), (7, .r (i64 n)), (9, .pt 9 (vs 9) 0)])
        (fun _ => [(9, .box (if n % 4 = 1 then [.r (i64 i), .r (i64 (n / 4 % g.lg)), .r (i64 g.lg), .r (i64 0)] else [.r (i64 i), .r (i64 g.lg), .r (i64 (n / 4 % g.lg)), .r (i64 0)])), (68, .arr 68 4 ((playsS r b i).map sheetC))]) (fun _ => True) (fun _ h => h) ?_ ?_
      · repeat refine awp_seq ?_
        refine awp_cond rfl (fun hc => ?_) (fun hc => ?_) <;> (try simp only [go_sem] at hc)
        · have h1 : n % 4 = 1 := by simpa using hc
          rw [if_pos h1]
          repeat refine awp_seq ?_
          refine awp_reg (by kernel_rfl) fun K hK => ?_
          simp only [go_sem, t1, t4, i3]
          (try simp (disch := omega) only [wrapI])
          try simp only [t1, t4]
          repeat first | intro _ | refine ⟨(by omega), ?_⟩ | refine ⟨⟨by omega, by omega⟩, ?_⟩
          refine hK _ ?_
          clear hK K
          try simp only [go_sem]
          exact ⟨(), fit_of [] (by try simp only [go_sem]) (by try simp only [go_sem])⟩
        · have h1 : ¬ n % 4 = 1 := by simpa using hc
          rw [if_neg h1]
          refine awp_skip ?_
          try simp only [go_sem]
          exact ⟨(), fit_of [] (by try simp only [go_sem]) (by try simp only [go_sem])⟩
      intro _ vs _
      repeat refine awp_seq ?_
      refine awp_join (n := 70) (fun (_ : Unit) vs => [(1, .r (bytes b)), (2, .r (.rp (rulesC r))), (5, .os 68 (vs 68) 4 0 i), (6, .r (i64 i)), (7, .r (i64 n)), (9, .pt 9 (vs 9) 0), (59, .r (.bo (decide (n % 4 > 1 ∧ n % 5 = 0))))])
        (fun _ => [(9, .box (if n % 4 = 1 then [.r (i64 i), .r (i64 (n / 4 % g.lg)), .r (i64 g.lg), .r (i64 0)] else [.r (i64 i), .r (i64 g.lg), .r (i64 (n / 4 % g.lg)), .r (i64 0)])), (68, .arr 68 4 ((playsS r b i).map sheetC))]) (fun _ => True) (fun _ h => h) ?_ ?_
      · repeat refine awp_seq ?_
        refine awp_reg (by kernel_rfl) fun K hK => ?_
        simp only [go_sem, t2, t3]
        (try simp (disch := omega) only [wrapI])
        repeat' first | intro _ | refine And.intro ?_ ?_
        all_goals first | omega | skip
        all_goals (refine hK _ ?_; clear hK K)
        all_goals try simp only [go_sem]
        all_goals (refine ⟨(), fit_of [] ?_ ?_⟩ <;> try simp only [go_sem])
        all_goals (rw [Bool.eq_iff_iff]; simp; omega)
      intro _ vs _
      repeat refine awp_seq ?_
      refine awp_join (n := 70) (fun (_ : Unit) vs => [(1, .r (bytes b)), (2, .r (.rp (rulesC r))), (5, .os 68 (vs 68) 4 0 i), (6, .r (i64 i)), (9, .pt 9 (vs 9) 0)])
        (fun _ => [(9, .box [.r (i64 (playS r b i).gm), .r (i64 (playS r b i).ho), .r (i64 (playS r b i).aw), .r (i64 (playS r b i).wk)]), (68, .arr 68 4 ((playsS r b i).map sheetC))]) (fun _ => True) (fun _ h => h) ?_ ?_
      · repeat refine awp_seq ?_
        refine awp_cond rfl (fun hc => ?_) (fun hc => ?_) <;> (try simp only [go_sem] at hc)
        · have h1 : n % 4 > 1 ∧ n % 5 = 0 := by simpa using hc
          have h2 : ¬ n % 4 = 1 := by omega
          rw [if_pos h1] at hpl
          rw [hpl, if_neg h2]
          repeat refine awp_seq ?_
          refine awp_reg (by kernel_rfl) fun K hK => ?_
          simp only [go_sem, t2]
          (try simp (disch := omega) only [wrapI])
          repeat first | intro _ | refine ⟨(by omega), ?_⟩ | refine ⟨⟨by omega, by omega⟩, ?_⟩
          refine hK _ ?_
          clear hK K
          try simp only [go_sem]
          exact ⟨(), fit_of [] (by try simp only [go_sem]) (by try simp only [go_sem])⟩
        · have h1 : ¬ (n % 4 > 1 ∧ n % 5 = 0) := by simpa using hc
          rw [if_neg h1] at hpl
          refine awp_skip ?_
          try simp only [go_sem]
          by_cases h2 : n % 4 = 1
          · rw [if_pos h2] at hpl
            rw [hpl, if_pos h2]
            exact ⟨(), fit_of [] (by try simp only [go_sem]) (by try simp only [go_sem])⟩
          · rw [if_neg h2] at hpl
            rw [hpl, if_neg h2]
            exact ⟨(), fit_of [] (by try simp only [go_sem]) (by try simp only [go_sem])⟩
      intro _ vs _
      repeat refine awp_seq ?_
      refine awp_reg (by kernel_rfl) fun K hK => ?_
      simp only [go_sem, playsS_length]
      (try simp (disch := omega) only [wrapI])
      repeat first | intro _ | refine ⟨(by omega), ?_⟩ | refine ⟨⟨by omega, by omega⟩, ?_⟩
      refine hK _ ?_
      clear hK K
      try simp only [go_sem]
      repeat refine awp_seq ?_
      refine awp_reg (by kernel_rfl) fun K hK => ?_
      simp only [go_sem]
      (try simp (disch := omega) only [wrapI])
      repeat first | intro _ | refine ⟨(by omega), ?_⟩ | refine ⟨⟨by omega, by omega⟩, ?_⟩
      refine hK _ ?_
      clear hK K
      try simp only [go_sem]
      refine ⟨hci, fit_of [9] ?_ ?_⟩
      · try simp only [go_sem]
      · try simp only [go_sem]
        rw [playsS_succ]
        simp
    · have : i = r.gs.length := by omega
      subst this
      refine awp_exit ?_
      simp only [go_sem]
      repeat refine awp_seq ?_
      refine awp_reg (by kernel_rfl) fun K hK => ?_
      simp only [go_sem]
      (try simp (disch := omega) only [wrapI])
      repeat first | intro _ | refine ⟨(by omega), ?_⟩ | refine ⟨⟨by omega, by omega⟩, ?_⟩
      refine hK _ ?_
      clear hK K
      refine awp_ret ?_
      simp only [go_sem]
      exact ⟨by rw [playsS_length]; exact Nat.le_refl _, List.take_of_length_le (by rw [List.length_map, playsS_length]; exact Nat.le_refl _)⟩
end Go.Proofs.Ytnklbfmdojpfkaa
