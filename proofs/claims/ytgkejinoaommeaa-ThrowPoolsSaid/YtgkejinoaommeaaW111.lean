/- For any two laws, the given function ThrowPools returns true: the two laws together, or the error, are what the document says, and the laws are not changed. No conditions beyond those of the given statement. -/
import Derived.Test.YtgkejinoaommeaaV38
import Derived.Test.YtgkejinoaommeaaV36
import Derived.Test.YtgkejinoaommeaaV35
import Derived.ChangeShapes
import Derived.WideShapes
import Derived.OpenShut
import Derived.ShutString
import Derived.ChangeOld
import Derived.Carry
import Derived.Below
import Derived.Test.YtgkejinoaommeaaRows
import Derived.JoinedOf
/- Laws have the same aims and beds: EqualFunc with the functions of Pool. -/
namespace Go.Proofs.Ytgkejinoaommeaa
open Go Go.Oc
set_option linter.unusedSimpArgs false
set_option linter.unusedVariables false
set_option maxRecDepth 8000
/-- Lists of the same length whose elements agree. -/
def eqF {α : Type} (p : α → α → Bool) : List α → List α → Bool
  | [], [] => true
  | x :: xs, y :: ys => p x y && eqF p xs ys
  | _, _ => false
theorem eqF_len {α : Type} {p : α → α → Bool} : ∀ {l m : List α}, eqF p l m = true → l.length = m.length
  | [], [], _ => rfl
  | x :: xs, y :: ys, h => by simp only [eqF, Bool.and_eq_true] at h; simp [eqF_len h.2]
  | [], _ :: _, h => by simp [eqF] at h
  | _ :: _, [], h => by simp [eqF] at h
theorem eqF_snoc {α : Type} {p : α → α → Bool} {x y : α} : ∀ {l m : List α}, l.length = m.length → eqF p (l ++ [x]) (m ++ [y]) = (eqF p l m && p x y)
  | [], [], _ => by simp [eqF]
  | a :: l, b :: m, h => by simp only [List.cons_append, eqF]; rw [eqF_snoc (by simpa using h), Bool.and_assoc]
  | [], _ :: _, h => by simp at h
  | _ :: _, [], h => by simp at h
theorem eqF_bad {α : Type} {p : α → α → Bool} {x y : α} : ∀ {l m : List α} {i : Nat}, l[i]? = some x → m[i]? = some y → p x y = false → eqF p l m = false
  | [], _, i, h, _, _ => by simp at h
  | _ :: _, [], i, _, h, _ => by simp at h
  | a :: l, b :: m, 0, h1, h2, h => by
    simp only [List.getElem?_cons_zero, Option.some.injEq] at h1 h2
    subst h1 h2
    simp [eqF, h]
  | a :: l, b :: m, i + 1, h1, h2, h => by
    simp only [List.getElem?_cons_succ] at h1 h2
    simp [eqF, eqF_bad h1 h2 h]
def sameB (c d : Bd) : Bool := c.b == d.b
def sameA (x y : Am) : Bool := x.at_ == y.at_ && eqF sameB x.beds y.beds
theorem pool11_ok (c d : Bd) : ACalls Try.prog 71 [bedV c, bedV d] (.bo (sameB c d)) := by
  refine acalls_st (rs := [.bo (sameB c d)]) [.tmp 4] Try.func71 rfl (by kernel_rfl) Try.ntmps71 rfl (by simp) rfl fun C vs => ?_
  repeat refine awp_seq ?_
  refine awp_reg (by kernel_rfl) fun K hK => ?_
  simp only [go_sem]
  (try simp (disch := omega) only [wrapI])
  repeat first | intro _ | refine ⟨(by omega), ?_⟩ | refine ⟨⟨by omega, by omega⟩, ?_⟩
  refine hK _ ?_
  clear hK K
  refine awp_sub (sub_frzP 2 2 (bedR c) (by omega) rfl rfl) ?_
  refine awp_sub (sub_frzP 3 3 (bedR d) (by omega) rfl rfl) ?_
  refine awp_sub (sub_keep [2, 3]) ?_
  simp only [go_sem]
  repeat refine awp_seq ?_
  refine awp_reg (by kernel_rfl) fun K hK => ?_
  simp only [go_sem, bedR]
  (try simp (disch := omega) only [wrapI])
  repeat first | intro _ | refine ⟨(by omega), ?_⟩ | refine ⟨⟨by omega, by omega⟩, ?_⟩
  refine hK _ ?_
  clear hK K
  refine awp_sub (sub_keep [4]) ?_
  simp only [go_sem]
  refine awp_ret ?_
  simp only [go_sem]
  try rfl
theorem eqBeds_ok (p : Bd → Bd → Bool) (f : Nat) (l m : List Bd) (h : ∀ x ∈ l, ∀ y ∈ m, ACalls Try.prog f [bedV x, bedV y] (.bo (p x y))) : ACalls Try.prog 70 [bedsR l, bedsR m, .fn f []] (.bo (eqF p l m)) := by
  refine acalls_st (rs := [.bo (eqF p l m)]) [.tmp 6] Try.func70 rfl (by kernel_rfl) Try.ntmps70 rfl (by simp) rfl fun C vs => ?_
  repeat refine awp_seq ?_
  refine awp_reg (by kernel_rfl) fun K hK => ?_
  simp only [go_sem]
  (try simp (disch := omega) only [wrapI])
  repeat first | intro _ | refine ⟨(by omega), ?_⟩ | refine ⟨⟨by omega, by omega⟩, ?_⟩
  refine hK _ ?_
  clear hK K
  refine awp_sub (sub_keep [0, 1, 2]) ?_
  simp only [go_sem]
  repeat refine awp_seq ?_
  refine awp_reg (by kernel_rfl) fun K hK => ?_
  simp only [go_sem]
  (try simp (disch := omega) only [wrapI])
  intro hla hlb
  by_cases h1 : l.length = m.length
  case neg =>
    have e4 : ((l.length : Int) != m.length) = true := by simp; omega
    rw [e4]
    repeat first | intro _ | refine ⟨(by omega), ?_⟩ | refine ⟨⟨by omega, by omega⟩, ?_⟩
    refine hK _ ?_
    clear hK K
    refine awp_sub (sub_keep [0, 1, 2, 14]) ?_
    simp only [go_sem]
    repeat refine awp_seq ?_
    refine awp_cond rfl (fun hc => ?_) (fun hc => ?_) <;> (try simp only [go_sem] at hc)
    repeat refine awp_seq ?_
    refine awp_reg (by kernel_rfl) fun K hK => ?_
    simp only [go_sem]
    (try simp (disch := omega) only [wrapI])
    repeat first | intro _ | refine ⟨(by omega), ?_⟩ | refine ⟨⟨by omega, by omega⟩, ?_⟩
    refine hK _ ?_
    clear hK K
    refine awp_sub (sub_keep [6]) ?_
    simp only [go_sem]
    refine awp_ret ?_
    simp only [go_sem]
    cases he : eqF p l m
    · rfl
    · exact absurd (eqF_len he) h1
  have e4 : ((l.length : Int) != m.length) = false := by simp [h1]
  rw [e4]
  repeat first | intro _ | refine ⟨(by omega), ?_⟩ | refine ⟨⟨by omega, by omega⟩, ?_⟩
  refine hK _ ?_
  clear hK K
  refine awp_sub (sub_keep [0, 1, 2, 14]) ?_
  simp only [go_sem]
  repeat refine awp_seq ?_
  refine awp_cond rfl (fun hc => ?_) (fun hc => ?_) <;> (try simp only [go_sem] at hc)
  refine awp_skip ?_
  try simp only [go_sem]
  repeat refine awp_seq ?_
  refine awp_reg (by kernel_rfl) fun K hK => ?_
  simp only [go_sem]
  (try simp (disch := omega) only [wrapI])
  intro _
  repeat first | intro _ | refine ⟨(by omega), ?_⟩ | refine ⟨⟨by omega, by omega⟩, ?_⟩
  refine hK _ ?_
  clear hK K
  refine awp_sub (sub_keep [1, 2, 15, 16, 17]) ?_
  simp only [go_sem]
  repeat refine awp_seq ?_
  refine awp_block ?_
  refine awp_upto (n := 32) l.length (fun i vs => [(1, .r (bedsR m)), (2, .r (.fn f [])), (15, .r (bedsR l)), (16, .r (i64 l.length)), (17, .r (i64 i))])
    (fun i => []) (fun i => eqF p (l.take i) (m.take i) = true) 0 (fit_of [] ?_ ?_) (Nat.zero_le _) rfl ?_
  · try simp only [go_sem]
  · try simp only [go_sem]
  · intro i vs hi hI
    repeat refine awp_seq ?_
    refine awp_reg (by kernel_rfl) fun K hK => ?_
    simp only [go_sem]
    (try simp (disch := omega) only [wrapI])
    repeat first | intro _ | refine ⟨(by omega), ?_⟩ | refine ⟨⟨by omega, by omega⟩, ?_⟩
    refine hK _ ?_
    clear hK K
    refine awp_sub (sub_keep [1, 2, 15, 16, 17, 18]) ?_
    simp only [go_sem]
    repeat refine awp_seq ?_
    refine awp_cond rfl (fun hc => ?_) (fun hc => ?_) <;> (try simp only [go_sem] at hc)
    · -- then
      have hci : i < l.length := by omega
      have hc2 : i < m.length := by omega
      obtain ⟨x, hx⟩ := opt_of_lt hci
      obtain ⟨y, hy⟩ := opt_of_lt hc2
      have hp := h x (mem_of_opt hx) y (mem_of_opt hy)
      refine awp_skip ?_
      try simp only [go_sem]
      repeat refine awp_seq ?_
      refine awp_block ?_
      repeat refine awp_seq ?_
      refine awp_reg (by kernel_rfl) fun K hK => ?_
      simp only [go_sem, hx, hci, bedR]
      (try simp (disch := omega) only [wrapI])
      repeat first | intro _ | refine ⟨(by omega), ?_⟩ | refine ⟨⟨by omega, by omega⟩, ?_⟩
      refine hK _ ?_
      clear hK K
      refine awp_sub (sub_frzP 8 8 (bedR x) (by omega) rfl rfl) ?_
      refine awp_sub (sub_keep [1, 2, 7, 8, 15, 16, 17]) ?_
      simp only [go_sem]
      repeat refine awp_seq ?_
      refine awp_reg (by kernel_rfl) fun K hK => ?_
      simp only [go_sem, hy, hc2, bedR]
      (try simp (disch := omega) only [wrapI])
      repeat first | intro _ | refine ⟨(by omega), ?_⟩ | refine ⟨⟨by omega, by omega⟩, ?_⟩
      refine hK _ ?_
      clear hK K
      refine awp_sub (sub_frzP 9 9 (bedR y) (by omega) rfl rfl) ?_
      refine awp_sub (sub_keep [1, 2, 8, 9, 15, 16, 17]) ?_
      simp only [go_sem]
      repeat refine awp_seq ?_
      refine awp_reg (by kernel_rfl) fun K hK => ?_
      simp only [go_sem, bedR]
      (try simp (disch := omega) only [wrapI])
      refine xcall_eq (hp) rfl (by simp only [go_sem, i64, ints, bedR]) (by simp only [go_sem, i64, ints, bedR]) (by first | exact .inl rfl | exact .inr rfl) ?_
      (try simp only [go_sem, bedR])
      (try simp (disch := omega) only [wrapI])
      cases hb : p x y
      · repeat first | intro _ | refine ⟨(by omega), ?_⟩ | refine ⟨⟨by omega, by omega⟩, ?_⟩
        refine hK _ ?_
        clear hK K
        refine awp_sub (sub_keep [1, 2, 15, 16, 17, 30]) ?_
        simp only [go_sem]
        repeat refine awp_seq ?_
        refine awp_cond rfl (fun hc => ?_) (fun hc => ?_) <;> (try simp only [go_sem] at hc)
        repeat refine awp_seq ?_
        refine awp_reg (by kernel_rfl) fun K hK => ?_
        simp only [go_sem]
        (try simp (disch := omega) only [wrapI])
        repeat first | intro _ | refine ⟨(by omega), ?_⟩ | refine ⟨⟨by omega, by omega⟩, ?_⟩
        refine hK _ ?_
        clear hK K
        refine awp_sub (sub_keep [6]) ?_
        simp only [go_sem]
        refine awp_ret ?_
        simp only [go_sem]
        rw [eqF_bad hx hy hb]
      · repeat first | intro _ | refine ⟨(by omega), ?_⟩ | refine ⟨⟨by omega, by omega⟩, ?_⟩
        refine hK _ ?_
        clear hK K
        refine awp_sub (sub_keep [1, 2, 15, 16, 17, 30]) ?_
        simp only [go_sem]
        repeat refine awp_seq ?_
        refine awp_cond rfl (fun hc => ?_) (fun hc => ?_) <;> (try simp only [go_sem] at hc)
        refine awp_skip ?_
        try simp only [go_sem]
        repeat refine awp_seq ?_
        refine awp_reg (by kernel_rfl) fun K hK => ?_
        simp only [go_sem]
        (try simp (disch := omega) only [wrapI])
        repeat first | intro _ | refine ⟨(by omega), ?_⟩ | refine ⟨⟨by omega, by omega⟩, ?_⟩
        refine hK _ ?_
        clear hK K
        try simp only [go_sem]
        refine ⟨hci, ?_, fit_of [] ?_ ?_⟩
        · rw [take_of_opt hx, take_of_opt hy, eqF_snoc (by simp; omega), hI, hb]; rfl
        · try simp only [go_sem]
        · try simp only [go_sem]
    · -- else
      refine awp_exit ?_
      simp only [go_sem]
      repeat refine awp_seq ?_
      refine awp_reg (by kernel_rfl) fun K hK => ?_
      simp only [go_sem]
      (try simp (disch := omega) only [wrapI])
      repeat first | intro _ | refine ⟨(by omega), ?_⟩ | refine ⟨⟨by omega, by omega⟩, ?_⟩
      refine hK _ ?_
      clear hK K
      refine awp_sub (sub_keep [6]) ?_
      simp only [go_sem]
      refine awp_ret ?_
      simp only [go_sem]
      have : i = l.length := by omega
      rw [this, List.take_length, h1, List.take_length] at hI
      rw [hI]
theorem pool1_ok (x y : Am) : ACalls Try.prog 69 [aimV x, aimV y] (.bo (sameA x y)) := by
  have hE := eqBeds_ok sameB 71 x.beds y.beds (fun c _ d _ => pool11_ok c d)
  refine acalls_st (rs := [.bo (sameA x y)]) [.tmp 4] Try.func69 rfl (by kernel_rfl) Try.ntmps69 rfl (by simp) rfl fun C vs => ?_
  repeat refine awp_seq ?_
  refine awp_reg (by kernel_rfl) fun K hK => ?_
  simp only [go_sem]
  (try simp (disch := omega) only [wrapI])
  repeat first | intro _ | refine ⟨(by omega), ?_⟩ | refine ⟨⟨by omega, by omega⟩, ?_⟩
  refine hK _ ?_
  clear hK K
  refine awp_sub (sub_frzP 2 2 (aimR x) (by omega) rfl rfl) ?_
  refine awp_sub (sub_frzP 3 3 (aimR y) (by omega) rfl rfl) ?_
  refine awp_sub (sub_keep [2, 3]) ?_
  simp only [go_sem]
  cases h0 : (x.at_ == y.at_)
  · repeat refine awp_seq ?_
    refine awp_reg (by kernel_rfl) fun K hK => ?_
    simp only [go_sem, h0, aimR]
    (try simp (disch := omega) only [wrapI])
    repeat first | intro _ | refine ⟨(by omega), ?_⟩ | refine ⟨⟨by omega, by omega⟩, ?_⟩
    refine hK _ ?_
    clear hK K
    refine awp_sub (sub_keep [4]) ?_
    simp only [go_sem]
    refine awp_ret ?_
    simp only [go_sem]
    simp [sameA, h0]
  · repeat refine awp_seq ?_
    refine awp_reg (by kernel_rfl) fun K hK => ?_
    simp only [go_sem, h0, aimR]
    (try simp (disch := omega) only [wrapI])
    refine xcall_eq (hE) rfl (by simp only [go_sem, i64, ints, h0, aimR]) (by simp only [go_sem, i64, ints, h0, aimR]) (by first | exact .inl rfl | exact .inr rfl) ?_
    (try simp only [go_sem, h0, aimR])
    (try simp (disch := omega) only [wrapI])
    repeat first | intro _ | refine ⟨(by omega), ?_⟩ | refine ⟨⟨by omega, by omega⟩, ?_⟩
    refine hK _ ?_
    clear hK K
    refine awp_sub (sub_keep [4]) ?_
    simp only [go_sem]
    refine awp_ret ?_
    simp only [go_sem]
    simp [sameA, h0]
theorem eqAims_ok (p : Am → Am → Bool) (f : Nat) (l m : List Am) (h : ∀ x ∈ l, ∀ y ∈ m, ACalls Try.prog f [aimV x, aimV y] (.bo (p x y))) : ACalls Try.prog 72 [aimsR l, aimsR m, .fn f []] (.bo (eqF p l m)) := by
  refine acalls_st (rs := [.bo (eqF p l m)]) [.tmp 6] Try.func72 rfl (by kernel_rfl) Try.ntmps72 rfl (by simp) rfl fun C vs => ?_
  repeat refine awp_seq ?_
  refine awp_reg (by kernel_rfl) fun K hK => ?_
  simp only [go_sem]
  (try simp (disch := omega) only [wrapI])
  repeat first | intro _ | refine ⟨(by omega), ?_⟩ | refine ⟨⟨by omega, by omega⟩, ?_⟩
  refine hK _ ?_
  clear hK K
  refine awp_sub (sub_keep [0, 1, 2]) ?_
  simp only [go_sem]
  repeat refine awp_seq ?_
  refine awp_reg (by kernel_rfl) fun K hK => ?_
  simp only [go_sem]
  (try simp (disch := omega) only [wrapI])
  intro hla hlb
  by_cases h1 : l.length = m.length
  case neg =>
    have e4 : ((l.length : Int) != m.length) = true := by simp; omega
    rw [e4]
    repeat first | intro _ | refine ⟨(by omega), ?_⟩ | refine ⟨⟨by omega, by omega⟩, ?_⟩
    refine hK _ ?_
    clear hK K
    refine awp_sub (sub_keep [0, 1, 2, 14]) ?_
    simp only [go_sem]
    repeat refine awp_seq ?_
    refine awp_cond rfl (fun hc => ?_) (fun hc => ?_) <;> (try simp only [go_sem] at hc)
    repeat refine awp_seq ?_
    refine awp_reg (by kernel_rfl) fun K hK => ?_
    simp only [go_sem]
    (try simp (disch := omega) only [wrapI])
    repeat first | intro _ | refine ⟨(by omega), ?_⟩ | refine ⟨⟨by omega, by omega⟩, ?_⟩
    refine hK _ ?_
    clear hK K
    refine awp_sub (sub_keep [6]) ?_
    simp only [go_sem]
    refine awp_ret ?_
    simp only [go_sem]
    cases he : eqF p l m
    · rfl
    · exact absurd (eqF_len he) h1
  have e4 : ((l.length : Int) != m.length) = false := by simp [h1]
  rw [e4]
  repeat first | intro _ | refine ⟨(by omega), ?_⟩ | refine ⟨⟨by omega, by omega⟩, ?_⟩
  refine hK _ ?_
  clear hK K
  refine awp_sub (sub_keep [0, 1, 2, 14]) ?_
  simp only [go_sem]
  repeat refine awp_seq ?_
  refine awp_cond rfl (fun hc => ?_) (fun hc => ?_) <;> (try simp only [go_sem] at hc)
  refine awp_skip ?_
  try simp only [go_sem]
  repeat refine awp_seq ?_
  refine awp_reg (by kernel_rfl) fun K hK => ?_
  simp only [go_sem]
  (try simp (disch := omega) only [wrapI])
  intro _
  repeat first | intro _ | refine ⟨(by omega), ?_⟩ | refine ⟨⟨by omega, by omega⟩, ?_⟩
  refine hK _ ?_
  clear hK K
  refine awp_sub (sub_keep [1, 2, 15, 16, 17]) ?_
  simp only [go_sem]
  repeat refine awp_seq ?_
  refine awp_block ?_
  refine awp_upto (n := 32) l.length (fun i vs => [(1, .r (aimsR m)), (2, .r (.fn f [])), (15, .r (aimsR l)), (16, .r (i64 l.length)), (17, .r (i64 i))])
    (fun i => []) (fun i => eqF p (l.take i) (m.take i) = true) 0 (fit_of [] ?_ ?_) (Nat.zero_le _) rfl ?_
  · try simp only [go_sem]
  · try simp only [go_sem]
  · intro i vs hi hI
    repeat refine awp_seq ?_
    refine awp_reg (by kernel_rfl) fun K hK => ?_
    simp only [go_sem]
    (try simp (disch := omega) only [wrapI])
    repeat first | intro _ | refine ⟨(by omega), ?_⟩ | refine ⟨⟨by omega, by omega⟩, ?_⟩
    refine hK _ ?_
    clear hK K
    refine awp_sub (sub_keep [1, 2, 15, 16, 17, 18]) ?_
    simp only [go_sem]
    repeat refine awp_seq ?_
    refine awp_cond rfl (fun hc => ?_) (fun hc => ?_) <;> (try simp only [go_sem] at hc)
    · -- then
      have hci : i < l.length := by omega
      have hc2 : i < m.length := by omega
      obtain ⟨x, hx⟩ := opt_of_lt hci
      obtain ⟨y, hy⟩ := opt_of_lt hc2
      have hp := h x (mem_of_opt hx) y (mem_of_opt hy)
      refine awp_skip ?_
      try simp only [go_sem]
      repeat refine awp_seq ?_
      refine awp_block ?_
      repeat refine awp_seq ?_
      refine awp_reg (by kernel_rfl) fun K hK => ?_
      simp only [go_sem, hx, hci, aimR]
      (try simp (disch := omega) only [wrapI])
      repeat first | intro _ | refine ⟨(by omega), ?_⟩ | refine ⟨⟨by omega, by omega⟩, ?_⟩
      refine hK _ ?_
      clear hK K
      refine awp_sub (sub_frzP 8 8 (aimR x) (by omega) rfl rfl) ?_
      refine awp_sub (sub_keep [1, 2, 7, 8, 15, 16, 17]) ?_
      simp only [go_sem]
      repeat refine awp_seq ?_
      refine awp_reg (by kernel_rfl) fun K hK => ?_
      simp only [go_sem, hy, hc2, aimR]
      (try simp (disch := omega) only [wrapI])
      repeat first | intro _ | refine ⟨(by omega), ?_⟩ | refine ⟨⟨by omega, by omega⟩, ?_⟩
      refine hK _ ?_
      clear hK K
      refine awp_sub (sub_frzP 9 9 (aimR y) (by omega) rfl rfl) ?_
      refine awp_sub (sub_keep [1, 2, 8, 9, 15, 16, 17]) ?_
      simp only [go_sem]
      repeat refine awp_seq ?_
      refine awp_reg (by kernel_rfl) fun K hK => ?_
      simp only [go_sem, aimR]
      (try simp (disch := omega) only [wrapI])
      refine xcall_eq (hp) rfl (by simp only [go_sem, i64, ints, aimR]) (by simp only [go_sem, i64, ints, aimR]) (by first | exact .inl rfl | exact .inr rfl) ?_
      (try simp only [go_sem, aimR])
      (try simp (disch := omega) only [wrapI])
      cases hb : p x y
      · repeat first | intro _ | refine ⟨(by omega), ?_⟩ | refine ⟨⟨by omega, by omega⟩, ?_⟩
        refine hK _ ?_
        clear hK K
        refine awp_sub (sub_keep [1, 2, 15, 16, 17, 30]) ?_
        simp only [go_sem]
        repeat refine awp_seq ?_
        refine awp_cond rfl (fun hc => ?_) (fun hc => ?_) <;> (try simp only [go_sem] at hc)
        repeat refine awp_seq ?_
        refine awp_reg (by kernel_rfl) fun K hK => ?_
        simp only [go_sem]
        (try simp (disch := omega) only [wrapI])
        repeat first | intro _ | refine ⟨(by omega), ?_⟩ | refine ⟨⟨by omega, by omega⟩, ?_⟩
        refine hK _ ?_
        clear hK K
        refine awp_sub (sub_keep [6]) ?_
        simp only [go_sem]
        refine awp_ret ?_
        simp only [go_sem]
        rw [eqF_bad hx hy hb]
      · repeat first | intro _ | refine ⟨(by omega), ?_⟩ | refine ⟨⟨by omega, by omega⟩, ?_⟩
        refine hK _ ?_
        clear hK K
        refine awp_sub (sub_keep [1, 2, 15, 16, 17, 30]) ?_
        simp only [go_sem]
        repeat refine awp_seq ?_
        refine awp_cond rfl (fun hc => ?_) (fun hc => ?_) <;> (try simp only [go_sem] at hc)
        refine awp_skip ?_
        try simp only [go_sem]
        repeat refine awp_seq ?_
        refine awp_reg (by kernel_rfl) fun K hK => ?_
        simp only [go_sem]
        (try simp (disch := omega) only [wrapI])
        repeat first | intro _ | refine ⟨(by omega), ?_⟩ | refine ⟨⟨by omega, by omega⟩, ?_⟩
        refine hK _ ?_
        clear hK K
        try simp only [go_sem]
        refine ⟨hci, ?_, fit_of [] ?_ ?_⟩
        · rw [take_of_opt hx, take_of_opt hy, eqF_snoc (by simp; omega), hI, hb]; rfl
        · try simp only [go_sem]
        · try simp only [go_sem]
    · -- else
      refine awp_exit ?_
      simp only [go_sem]
      repeat refine awp_seq ?_
      refine awp_reg (by kernel_rfl) fun K hK => ?_
      simp only [go_sem]
      (try simp (disch := omega) only [wrapI])
      repeat first | intro _ | refine ⟨(by omega), ?_⟩ | refine ⟨⟨by omega, by omega⟩, ?_⟩
      refine hK _ ?_
      clear hK K
      refine awp_sub (sub_keep [6]) ?_
      simp only [go_sem]
      refine awp_ret ?_
      simp only [go_sem]
      have : i = l.length := by omega
      rw [this, List.take_length, h1, List.take_length] at hI
      rw [hI]
end Go.Proofs.Ytgkejinoaommeaa

/- Two laws together, by the program. -/
namespace Go.Proofs.Ytgkejinoaommeaa
open Go Go.Oc
set_option linter.unusedSimpArgs false
set_option linter.unusedVariables false
set_option maxRecDepth 8000
def poolB (c d : Bd) : Bd := ⟨c.b, c.lo + d.lo, c.hi + d.hi⟩
def poolA (x y : Am) : Am := ⟨x.at_, List.zipWith poolB x.beds y.beds⟩
def poolL (l m : List Am) : List Am := List.zipWith poolA l m
def poolE (d : Int) (l : List Am) (e : Int) (m : List Am) : Int :=
  if checkV d l ≠ 0 then checkV d l else if checkV e m ≠ 0 then checkV e m else if eqF sameA l m = false then 4 else if 3000 < d + e then 8 else 0
def poolV (d : Int) (l : List Am) (e : Int) (m : List Am) : RV := if poolE d l e m = 0 then lawV (d + e) (poolL l m) else .ag [i64 0, .ns]
theorem eqF_get {α : Type} {p : α → α → Bool} : ∀ {l m : List α} {i : Nat} {x y : α}, eqF p l m = true → l[i]? = some x → m[i]? = some y → p x y = true
  | x :: xs, y :: ys, 0, _, _, h, h1, h2 => by
    simp only [List.getElem?_cons_zero, Option.some.injEq] at h1 h2
    subst h1 h2
    simp only [eqF, Bool.and_eq_true] at h
    exact h.1
  | x :: xs, y :: ys, i + 1, _, _, h, h1, h2 => by
    simp only [List.getElem?_cons_succ] at h1 h2
    simp only [eqF, Bool.and_eq_true] at h
    exact eqF_get h.2 h1 h2
  | [], _, _, _, _, _, h1, _ => by simp at h1
  | _ :: _, [], _, _, _, _, _, h2 => by simp at h2
theorem pool_ok (d : Int) (l : List Am) (e : Int) (m : List Am) (hw : WfL d l) (hw2 : WfL e m) : ACalls Try.prog 45 [lawV d l, lawV e m] (.tu [poolV d l e m, i64 (poolE d l e m)]) := by
  have hc1 := check_ok d l hw
  have hc2 := check_ok e m hw2
  refine acalls_stR (rs := [poolV d l e m, i64 (poolE d l e m)]) [.cell 4 24, .tmp 5] Try.func45 rfl (by kernel_rfl) Try.ntmps45 rfl (by simp) rfl fun C hC vs => ?_
  repeat refine awp_seq ?_
  refine awp_reg (by kernel_rfl) fun K hK => ?_
  simp only [go_sem]
  (try simp (disch := omega) only [wrapI])
  repeat first | intro _ | refine ⟨(by omega), ?_⟩ | refine ⟨⟨by omega, by omega⟩, ?_⟩
  refine hK _ ?_
  clear hK K
  refine awp_sub (sub_frzP 2 2 [i64 d, aimsR l] (by omega) rfl rfl) ?_
  refine awp_sub (sub_frzP 3 3 [i64 e, aimsR m] (by omega) rfl rfl) ?_
  refine awp_sub (sub_keep [2, 3, 4]) ?_
  simp only [go_sem]
  repeat refine awp_seq ?_
  refine awp_reg (by kernel_rfl) fun K hK => ?_
  simp only [go_sem]
  (try simp (disch := omega) only [wrapI])
  repeat first | intro _ | refine ⟨(by omega), ?_⟩ | refine ⟨⟨by omega, by omega⟩, ?_⟩
  refine hK _ ?_
  clear hK K
  refine awp_sub (sub_keep [2, 3, 4, 19, 20]) ?_
  simp only [go_sem]
  repeat refine awp_seq ?_
  refine awp_block ?_
  refine awp_upto (n := 109) 2 (fun i vs => [(2, .r (.rp [i64 d, aimsR l])), (3, .r (.rp [i64 e, aimsR m])), (4, .pt 4 (vs 4) 0), (19, .ag [.r (i64 d), .r (aimsR l), .r (i64 e), .r (aimsR m)]), (20, .r (i64 i))])
    (fun i => [(4, .box [.r (i64 0), .r .ns])]) (fun i => (1 ≤ i → checkV d l = 0) ∧ (2 ≤ i → checkV e m = 0)) 0 (fit_of [] ?_ ?_) (Nat.zero_le _) ⟨fun h => by omega, fun h => by omega⟩ ?_
  · try simp only [go_sem]
  · try simp only [go_sem]
  · intro i vs hi hI
    repeat refine awp_seq ?_
    refine awp_reg (by kernel_rfl) fun K hK => ?_
    simp only [go_sem]
    (try simp (disch := omega) only [wrapI])
    repeat first | intro _ | refine ⟨(by omega), ?_⟩ | refine ⟨⟨by omega, by omega⟩, ?_⟩
    refine hK _ ?_
    clear hK K
    refine awp_sub (sub_keep [2, 3, 4, 19, 20, 21]) ?_
    simp only [go_sem]
    repeat refine awp_seq ?_
    refine awp_cond rfl (fun hc => ?_) (fun hc => ?_) <;> (try simp only [go_sem] at hc)
    · -- then
      have hci : i < 2 := by omega
      have h01 : i = 0 ∨ i = 1 := by omega
      refine awp_skip ?_
      try simp only [go_sem]
      repeat refine awp_seq ?_
      refine awp_block ?_
      rcases h01 with rfl | rfl
      · repeat refine awp_seq ?_
        refine awp_reg (by kernel_rfl) fun K hK => ?_
        simp only [go_sem]
        (try simp (disch := omega) only [wrapI])
        repeat first | intro _ | refine ⟨(by omega), ?_⟩ | refine ⟨⟨by omega, by omega⟩, ?_⟩
        refine hK _ ?_
        clear hK K
        refine awp_sub (sub_frzP 7 7 [i64 d, aimsR l] (by omega) rfl rfl) ?_
        refine awp_sub (sub_keep [2, 3, 4, 7, 19, 20]) ?_
        simp only [go_sem]
        repeat refine awp_seq ?_
        refine awp_reg (by kernel_rfl) fun K hK => ?_
        simp only [go_sem]
        (try simp (disch := omega) only [wrapI])
        refine xcall_eq (hc1) rfl (by simp only [go_sem, i64, ints]) (by simp only [go_sem, i64, ints]) (by first | exact .inl rfl | exact .inr rfl) ?_
        (try simp only [go_sem])
        (try simp (disch := omega) only [wrapI])
        repeat first | intro _ | refine ⟨(by omega), ?_⟩ | refine ⟨⟨by omega, by omega⟩, ?_⟩
        refine hK _ ?_
        clear hK K
        refine awp_sub (sub_keep [2, 3, 4, 8, 19, 20]) ?_
        simp only [go_sem]
        by_cases h0 : checkV d l = 0
        · rw [h0]
          repeat refine awp_seq ?_
          refine awp_reg (by kernel_rfl) fun K hK => ?_
          simp only [go_sem, bne_self_eq_false]
          (try simp (disch := omega) only [wrapI])
          repeat first | intro _ | refine ⟨(by omega), ?_⟩ | refine ⟨⟨by omega, by omega⟩, ?_⟩
          refine hK _ ?_
          clear hK K
          refine awp_sub (sub_keep [2, 3, 4, 8, 19, 20, 26]) ?_
          simp only [go_sem]
          repeat refine awp_seq ?_
          refine awp_cond rfl (fun hc => ?_) (fun hc => ?_) <;> (try simp only [go_sem] at hc)
          refine awp_skip ?_
          try simp only [go_sem]
          repeat refine awp_seq ?_
          refine awp_reg (by kernel_rfl) fun K hK => ?_
          simp only [go_sem]
          (try simp (disch := omega) only [wrapI])
          repeat first | intro _ | refine ⟨(by omega), ?_⟩ | refine ⟨⟨by omega, by omega⟩, ?_⟩
          refine hK _ ?_
          clear hK K
          try simp only [go_sem]
          refine fit_of [] ?_ ?_
          · try simp only [go_sem]
          · try simp only [go_sem]
        · have hp : poolE d l e m = checkV d l := by simp [poolE, h0]
          have e0 : (checkV d l != 0) = true := by simpa using h0
          repeat refine awp_seq ?_
          refine awp_reg (by kernel_rfl) fun K hK => ?_
          simp only [go_sem, e0]
          (try simp (disch := omega) only [wrapI])
          repeat first | intro _ | refine ⟨(by omega), ?_⟩ | refine ⟨⟨by omega, by omega⟩, ?_⟩
          refine hK _ ?_
          clear hK K
          refine awp_sub (sub_keep [2, 3, 4, 8, 19, 20, 26]) ?_
          simp only [go_sem]
          repeat refine awp_seq ?_
          refine awp_cond rfl (fun hc => ?_) (fun hc => ?_) <;> (try simp only [go_sem] at hc)
          repeat refine awp_seq ?_
          refine awp_reg (by kernel_rfl) fun K hK => ?_
          simp only [go_sem]
          (try simp (disch := omega) only [wrapI])
          repeat first | intro _ | refine ⟨(by omega), ?_⟩ | refine ⟨⟨by omega, by omega⟩, ?_⟩
          refine hK _ ?_
          clear hK K
          refine awp_sub (sub_keep [4, 5]) ?_
          simp only [go_sem]
          refine awp_ret ?_
          simp only [go_sem]
          simp [poolV, hp, h0, leL_refl.le_refl]
      · obtain ⟨hI1, _⟩ := hI
        have hI1 := hI1 (by omega)
        repeat refine awp_seq ?_
        refine awp_reg (by kernel_rfl) fun K hK => ?_
        simp only [go_sem]
        (try simp (disch := omega) only [wrapI])
        repeat first | intro _ | refine ⟨(by omega), ?_⟩ | refine ⟨⟨by omega, by omega⟩, ?_⟩
        refine hK _ ?_
        clear hK K
        refine awp_sub (sub_frzP 7 7 [i64 e, aimsR m] (by omega) rfl rfl) ?_
        refine awp_sub (sub_keep [2, 3, 4, 7, 19, 20]) ?_
        simp only [go_sem]
        repeat refine awp_seq ?_
        refine awp_reg (by kernel_rfl) fun K hK => ?_
        simp only [go_sem]
        (try simp (disch := omega) only [wrapI])
        refine xcall_eq (hc2) rfl (by simp only [go_sem, i64, ints]) (by simp only [go_sem, i64, ints]) (by first | exact .inl rfl | exact .inr rfl) ?_
        (try simp only [go_sem])
        (try simp (disch := omega) only [wrapI])
        repeat first | intro _ | refine ⟨(by omega), ?_⟩ | refine ⟨⟨by omega, by omega⟩, ?_⟩
        refine hK _ ?_
        clear hK K
        refine awp_sub (sub_keep [2, 3, 4, 8, 19, 20]) ?_
        simp only [go_sem]
        by_cases h0 : checkV e m = 0
        · rw [h0]
          repeat refine awp_seq ?_
          refine awp_reg (by kernel_rfl) fun K hK => ?_
          simp only [go_sem, bne_self_eq_false]
          (try simp (disch := omega) only [wrapI])
          repeat first | intro _ | refine ⟨(by omega), ?_⟩ | refine ⟨⟨by omega, by omega⟩, ?_⟩
          refine hK _ ?_
          clear hK K
          refine awp_sub (sub_keep [2, 3, 4, 8, 19, 20, 26]) ?_
          simp only [go_sem]
          repeat refine awp_seq ?_
          refine awp_cond rfl (fun hc => ?_) (fun hc => ?_) <;> (try simp only [go_sem] at hc)
          refine awp_skip ?_
          try simp only [go_sem]
          repeat refine awp_seq ?_
          refine awp_reg (by kernel_rfl) fun K hK => ?_
          simp only [go_sem]
          (try simp (disch := omega) only [wrapI])
          repeat first | intro _ | refine ⟨(by omega), ?_⟩ | refine ⟨⟨by omega, by omega⟩, ?_⟩
          refine hK _ ?_
          clear hK K
          try simp only [go_sem]
          refine ⟨hI1, fit_of [] ?_ ?_⟩
          · try simp only [go_sem]
          · try simp only [go_sem]
        · have hp : poolE d l e m = checkV e m := by simp [poolE, h0, hI1]
          have e0 : (checkV e m != 0) = true := by simpa using h0
          repeat refine awp_seq ?_
          refine awp_reg (by kernel_rfl) fun K hK => ?_
          simp only [go_sem, e0]
          (try simp (disch := omega) only [wrapI])
          repeat first | intro _ | refine ⟨(by omega), ?_⟩ | refine ⟨⟨by omega, by omega⟩, ?_⟩
          refine hK _ ?_
          clear hK K
          refine awp_sub (sub_keep [2, 3, 4, 8, 19, 20, 26]) ?_
          simp only [go_sem]
          repeat refine awp_seq ?_
          refine awp_cond rfl (fun hc => ?_) (fun hc => ?_) <;> (try simp only [go_sem] at hc)
          repeat refine awp_seq ?_
          refine awp_reg (by kernel_rfl) fun K hK => ?_
          simp only [go_sem]
          (try simp (disch := omega) only [wrapI])
          repeat first | intro _ | refine ⟨(by omega), ?_⟩ | refine ⟨⟨by omega, by omega⟩, ?_⟩
          refine hK _ ?_
          clear hK K
          refine awp_sub (sub_keep [4, 5]) ?_
          simp only [go_sem]
          refine awp_ret ?_
          simp only [go_sem]
          simp [poolV, hp, h0, leL_refl.le_refl]
    · -- else
      have h2 : 2 ≤ i := by omega
      have z1 := hI.1 (by omega)
      have z2 := hI.2 h2
      obtain ⟨c1, c2, c3, c4, c5⟩ := checkV_zero z1
      obtain ⟨d1, d2, d3, d4, d5⟩ := checkV_zero z2
      refine awp_exit ?_
      simp only [go_sem]
      repeat refine awp_seq ?_
      refine awp_reg (by kernel_rfl) fun K hK => ?_
      simp only [go_sem]
      (try simp (disch := omega) only [wrapI])
      repeat first | intro _ | refine ⟨(by omega), ?_⟩ | refine ⟨⟨by omega, by omega⟩, ?_⟩
      refine hK _ ?_
      clear hK K
      refine awp_sub (sub_keep [2, 3, 4, 9]) ?_
      simp only [go_sem]
      repeat refine awp_seq ?_
      refine awp_block ?_
      repeat refine awp_seq ?_
      refine awp_reg (by kernel_rfl) fun K hK => ?_
      simp only [go_sem]
      (try simp (disch := omega) only [wrapI])
      refine xcall_eq (eqAims_ok sameA 69 l m (fun x _ y _ => pool1_ok x y)) rfl (by simp only [go_sem, i64, ints]) (by simp only [go_sem, i64, ints]) (by first | exact .inl rfl | exact .inr rfl) ?_
      (try simp only [go_sem])
      (try simp (disch := omega) only [wrapI])
      cases hq : eqF sameA l m
      · have hp : poolE d l e m = 4 := by simp [poolE, z1, z2, hq]
        repeat first | intro _ | refine ⟨(by omega), ?_⟩ | refine ⟨⟨by omega, by omega⟩, ?_⟩
        refine hK _ ?_
        clear hK K
        refine awp_sub (sub_keep [2, 3, 4, 30]) ?_
        simp only [go_sem]
        repeat refine awp_seq ?_
        refine awp_cond rfl (fun hc => ?_) (fun hc => ?_) <;> (try simp only [go_sem] at hc)
        repeat refine awp_seq ?_
        refine awp_reg (by kernel_rfl) fun K hK => ?_
        simp only [go_sem]
        (try simp (disch := omega) only [wrapI])
        repeat first | intro _ | refine ⟨(by omega), ?_⟩ | refine ⟨⟨by omega, by omega⟩, ?_⟩
        refine hK _ ?_
        clear hK K
        refine awp_sub (sub_keep [4, 5]) ?_
        simp only [go_sem]
        refine awp_ret ?_
        simp only [go_sem]
        simp [poolV, hp, leL_refl.le_refl]
      repeat first | intro _ | refine ⟨(by omega), ?_⟩ | refine ⟨⟨by omega, by omega⟩, ?_⟩
      refine hK _ ?_
      clear hK K
      refine awp_sub (sub_keep [2, 3, 4, 30]) ?_
      simp only [go_sem]
      repeat refine awp_seq ?_
      refine awp_cond rfl (fun hc => ?_) (fun hc => ?_) <;> (try simp only [go_sem] at hc)
      repeat refine awp_seq ?_
      refine awp_reg (by kernel_rfl) fun K hK => ?_
      simp only [go_sem]
      (try simp (disch := omega) only [wrapI])
      repeat first | intro _ | refine ⟨(by omega), ?_⟩ | refine ⟨⟨by omega, by omega⟩, ?_⟩
      refine hK _ ?_
      clear hK K
      refine awp_sub (sub_keep [2, 3, 4, 39]) ?_
      simp only [go_sem]
      repeat refine awp_seq ?_
      refine awp_cond rfl (fun hc => ?_) (fun hc => ?_) <;> (try simp only [go_sem] at hc)
      · have hp : poolE d l e m = 8 := by
          have : 3000 < d + e := by omega
          simp [poolE, z1, z2, hq, this]
        repeat refine awp_seq ?_
        refine awp_reg (by kernel_rfl) fun K hK => ?_
        simp only [go_sem]
        (try simp (disch := omega) only [wrapI])
        repeat first | intro _ | refine ⟨(by omega), ?_⟩ | refine ⟨⟨by omega, by omega⟩, ?_⟩
        refine hK _ ?_
        clear hK K
        refine awp_sub (sub_keep [4, 5]) ?_
        simp only [go_sem]
        refine awp_ret ?_
        simp only [go_sem]
        simp [poolV, hp, leL_refl.le_refl]
      have hp : poolE d l e m = 0 := by
        have : ¬ 3000 < d + e := by omega
        simp [poolE, z1, z2, hq, this]
      have hpv : poolV d l e m = lawV (d + e) (poolL l m) := by simp [poolV, hp]
      have hlen := eqF_len hq
      rw [hp, hpv]
      refine awp_skip ?_
      try simp only [go_sem]
      repeat refine awp_seq ?_
      refine awp_reg (by kernel_rfl) fun K hK => ?_
      simp only [go_sem]
      (try simp (disch := omega) only [wrapI])
      repeat first | intro _ | refine ⟨(by omega), ?_⟩ | refine ⟨⟨by omega, by omega⟩, ?_⟩
      refine hK _ ?_
      clear hK K
      refine awp_sub (sub_keep [2, 3, 4, 10]) ?_
      simp only [go_sem]
      repeat refine awp_seq ?_
      refine awp_reg (by kernel_rfl) fun K hK => ?_
      simp only [go_sem]
      (try simp (disch := omega) only [wrapI])
      refine xcall_eq (all_ok d l) rfl (by simp only [go_sem, i64, ints]) (by simp only [go_sem, i64, ints]) (by first | exact .inl rfl | exact .inr rfl) ?_
      (try simp only [go_sem])
      (try simp (disch := omega) only [wrapI])
      repeat first | intro _ | refine ⟨(by omega), ?_⟩ | refine ⟨⟨by omega, by omega⟩, ?_⟩
      refine hK _ ?_
      clear hK K
      refine awp_sub (sub_keep [3, 4, 10, 54]) ?_
      simp only [go_sem]
      repeat refine awp_seq ?_
      refine awp_block ?_
      refine awp_sub (sub_ownB 10 1 30 36 2 (by omega) (by omega) rfl rfl) ?_
      try simp only [go_sem]
      refine awp_rangeF hC (enumA d l) (all1_ok d l) [3, 4, 10, 54] (by decide) (fun vs => [(3, .r (.rp [i64 e, aimsR m])), (4, .pt 4 (vs 4) 0), (10, .pt 10 (vs 10) 0), (54, .r (.fn 73 [.rp [i64 d, aimsR l]]))])
        (fun i vs => [(4, .box [.r (i64 0), .r .ns]), (10, .box [.r (i64 (d + e)), .os 30 (vs 30) 2 0 i]), (30, .arr 36 2 (((poolL l m).take i).map aimR))])
        (fun i => True) (fitV_of [] ?_ ?_) trivial (fun _ => rfl) (fun _ => rfl) (fun _ _ => rfl) (by simp) (fun e he => enumA_len he) ?_ ?_
      · try simp only [go_sem]
      · try simp only [go_sem]
      · intro i e1 vs us C he _
        obtain ⟨x, hx, rfl⟩ := enumA_get he
        have hil : i < l.length := (List.getElem?_eq_some_iff.1 hx).1
        have him : i < m.length := by omega
        obtain ⟨y, hy⟩ := opt_of_lt him
        have hxy := eqF_get hq hx hy
        simp only [sameA, Bool.and_eq_true] at hxy
        have hbl := eqF_len hxy.2
        have hxl := c2 x (mem_of_opt hx)
        have hsx := chOk_small (aimOk_facts (c5 x (mem_of_opt hx))).2.2.2.1 (by omega)
        have hsy := chOk_small (aimOk_facts (d5 y (mem_of_opt hy))).2.2.2.1 (by omega)
        have hpl : (poolL l m)[i]? = some (poolA x y) := by simp [poolL, List.getElem?_zipWith, hx, hy]
        have hpll : (poolL l m).length = l.length := by simp [poolL, hlen]
        have hlt : ((poolL l m).take i).length = i := by rw [List.length_take]; omega
        have htx : (poolL l m).take (i + 1) = (poolL l m).take i ++ [poolA x y] := take_of_opt hpl
        repeat refine awp_seq ?_
        refine awp_reg (by kernel_rfl) fun K hK => ?_
        simp only [go_sem]
        (try simp (disch := omega) only [wrapI])
        repeat first | intro _ | refine ⟨(by omega), ?_⟩ | refine ⟨⟨by omega, by omega⟩, ?_⟩
        refine hK _ ?_
        clear hK K
        repeat refine awp_seq ?_
        refine awp_reg (by kernel_rfl) fun K hK => ?_
        simp only [go_sem]
        (try simp (disch := omega) only [wrapI])
        repeat first | intro _ | refine ⟨(by omega), ?_⟩ | refine ⟨⟨by omega, by omega⟩, ?_⟩
        refine hK _ ?_
        clear hK K
        refine ⟨rfl, fun C' => ?_⟩
        refine awp_sub (sub_frzP 12 12 [i64 x.at_, bedsR x.beds, i64 d] (by omega) rfl rfl) ?_
        refine awp_sub (sub_keep [3, 4, 10, 11, 12, 54]) ?_
        simp only [go_sem]
        repeat refine awp_seq ?_
        refine awp_block ?_
        repeat refine awp_seq ?_
        refine awp_reg (by kernel_rfl) fun K hK => ?_
        simp only [go_sem]
        (try simp (disch := omega) only [wrapI])
        repeat first | intro _ | refine ⟨(by omega), ?_⟩ | refine ⟨⟨by omega, by omega⟩, ?_⟩
        refine hK _ ?_
        clear hK K
        refine awp_sub (sub_keep [3, 4, 10, 11, 12, 13, 54]) ?_
        simp only [go_sem]
        repeat refine awp_seq ?_
        refine awp_reg (by kernel_rfl) fun K hK => ?_
        simp only [go_sem]
        (try simp (disch := omega) only [wrapI])
        intro _
        repeat first | intro _ | refine ⟨(by omega), ?_⟩ | refine ⟨⟨by omega, by omega⟩, ?_⟩
        refine hK _ ?_
        clear hK K
        refine awp_sub (sub_keep [3, 4, 10, 11, 13, 54, 63, 64, 65]) ?_
        simp only [go_sem]
        repeat refine awp_seq ?_
        refine awp_block ?_
        refine awp_sub (sub_ownB 13 1 31 67 3 (by omega) (by omega) rfl rfl) ?_
        try simp only [go_sem]
        refine awp_uptoV (n := 109) x.beds.length (fun k vs => [(3, .r (.rp [i64 e, aimsR m])), (4, .pt 4 (vs 4) 0), (10, .pt 10 (vs 10) 0), (11, .r (i64 i)), (13, .pt 13 (vs 13) 0), (54, .r (.fn 73 [.rp [i64 d, aimsR l]])), (63, .r (bedsR x.beds)), (64, .r (i64 x.beds.length)), (65, .r (i64 k))])
          (fun k vs => [(0, .sus [.r (.rp [i64 e, aimsR m]), .pt 4 (vs 4) 0, .pt 10 (vs 10) 0, .r (.fn 73 [.rp [i64 d, aimsR l]])] us), (4, .box [.r (i64 0), .r .ns]), (10, .box [.r (i64 (d + e)), .os 30 (vs 30) 2 0 i]), (13, .box [.r (i64 x.at_), .os 31 (vs 31) 3 0 k]), (30, .arr 36 2 (((poolL l m).take i).map aimR)), (31, .arr 67 3 (((poolA x y).beds.take k).map bedR))])
          (fun _ => True) 0 (fitV_of [] ?_ ?_) (Nat.zero_le _) trivial ?_
        · try simp only [go_sem]
        · try simp only [go_sem]
        · intro k vs hk _
          have hlk : ((poolA x y).beds.take k).length = k := by rw [List.length_take]; simp [poolA]; omega
          repeat refine awp_seq ?_
          refine awp_reg (by kernel_rfl) fun K hK => ?_
          simp only [go_sem]
          (try simp (disch := omega) only [wrapI])
          repeat first | intro _ | refine ⟨(by omega), ?_⟩ | refine ⟨⟨by omega, by omega⟩, ?_⟩
          refine hK _ ?_
          clear hK K
          refine awp_sub (sub_keep [3, 4, 10, 11, 13, 54, 63, 64, 65, 66]) ?_
          simp only [go_sem]
          repeat refine awp_seq ?_
          refine awp_cond rfl (fun hc => ?_) (fun hc => ?_) <;> (try simp only [go_sem] at hc)
          · -- then
            have hck := hc
            obtain ⟨u, hu⟩ := opt_of_lt hck
            have hckv : k < y.beds.length := by omega
            obtain ⟨v, hv⟩ := opt_of_lt hckv
            have bu := hsx u (mem_of_opt hu)
            have bv := hsy v (mem_of_opt hv)
            have htk : (poolA x y).beds.take (k + 1) = (poolA x y).beds.take k ++ [poolB u v] := take_of_opt (by simp [poolA, List.getElem?_zipWith, hu, hv])
            refine awp_skip ?_
            try simp only [go_sem]
            repeat refine awp_seq ?_
            refine awp_block ?_
            repeat refine awp_seq ?_
            refine awp_reg (by kernel_rfl) fun K hK => ?_
            simp only [go_sem, hu, hck, bedR]
            (try simp (disch := omega) only [wrapI])
            repeat first | intro _ | refine ⟨(by omega), ?_⟩ | refine ⟨⟨by omega, by omega⟩, ?_⟩
            refine hK _ ?_
            clear hK K
            refine awp_sub (sub_keep [3, 4, 10, 11, 13, 14, 15, 54, 63, 64, 65]) ?_
            simp only [go_sem]
            repeat refine awp_seq ?_
            refine awp_reg (by kernel_rfl) fun K hK => ?_
            simp only [go_sem, hy, him, aimR, hv, hckv, bedR]
            (try simp (disch := omega) only [wrapI])
            repeat first | intro _ | refine ⟨(by omega), ?_⟩ | refine ⟨⟨by omega, by omega⟩, ?_⟩
            refine hK _ ?_
            clear hK K
            refine awp_sub (sub_frzP 16 16 [i64 v.b, i64 v.lo, i64 v.hi] (by omega) rfl rfl) ?_
            refine awp_sub (sub_keep [3, 4, 10, 11, 13, 15, 16, 54, 63, 64, 65]) ?_
            simp only [go_sem]
            repeat refine awp_seq ?_
            refine awp_reg (by kernel_rfl) fun K hK => ?_
            simp only [go_sem]
            (try simp (disch := omega) only [wrapI])
            repeat first | intro _ | refine ⟨(by omega), ?_⟩ | refine ⟨⟨by omega, by omega⟩, ?_⟩
            refine hK _ ?_
            clear hK K
            refine awp_sub (sub_keep [3, 4, 10, 11, 13, 15, 54, 63, 64, 65]) ?_
            simp only [go_sem]
            repeat refine awp_seq ?_
            refine awp_reg (by kernel_rfl) fun K hK => ?_
            simp only [go_sem, hlk]
            (try simp (disch := omega) only [wrapI])
            repeat first | intro _ | refine ⟨(by omega), ?_⟩ | refine ⟨⟨by omega, by omega⟩, ?_⟩
            refine hK _ ?_
            clear hK K
            refine awp_sub (sub_keep [3, 4, 10, 11, 13, 54, 63, 64, 65]) ?_
            simp only [go_sem]
            repeat refine awp_seq ?_
            refine awp_reg (by kernel_rfl) fun K hK => ?_
            simp only [go_sem]
            (try simp (disch := omega) only [wrapI])
            repeat first | intro _ | refine ⟨(by omega), ?_⟩ | refine ⟨⟨by omega, by omega⟩, ?_⟩
            refine hK _ ?_
            clear hK K
            try simp only [go_sem]
            refine ⟨hck, fitV_of [15] ?_ ?_⟩
            · try simp only [go_sem]
            · try simp only [go_sem]
              rw [htk]
              simp [bedR, poolB]
          · -- else
            have hkk : k = x.beds.length := by omega
            subst hkk
            have ebl : (poolA x y).beds.take x.beds.length = (poolA x y).beds := List.take_of_length_le (by simp [poolA]; omega)
            have ebn : ((poolA x y).beds.map bedR).length = x.beds.length := by simp [poolA]; omega
            have etl : List.take x.beds.length ((poolA x y).beds.map bedR) = (poolA x y).beds.map bedR := List.take_of_length_le (by omega)
            rw [ebl]
            refine awp_exit ?_
            simp only [go_sem]
            refine awp_sub (sub_frzB 13 1 31 (by omega) (by omega) rfl rfl rfl (by rw [ebn]; omega)) ?_
            simp only [go_sem, List.drop_zero, etl, List.set_cons_succ, List.set_cons_zero]
            refine awp_sub (sub_keep [3, 4, 10, 13, 54]) ?_
            simp only [go_sem]
            repeat refine awp_seq ?_
            refine awp_reg (by kernel_rfl) fun K hK => ?_
            simp only [go_sem, hlt]
            (try simp (disch := omega) only [wrapI])
            repeat first | intro _ | refine ⟨(by omega), ?_⟩ | refine ⟨⟨by omega, by omega⟩, ?_⟩
            refine hK _ ?_
            clear hK K
            try simp only [go_sem]
            refine fitV_of (F := fun _ => []) [13] (by try simp only [go_sem]) ?_
            try simp only [go_sem]
            rw [htx]
            simp [aimR, poolA]
      · intro vs us _
        try simp only [go_sem]
        refine awp_sub (sub_wake rfl) ?_
        repeat refine awp_seq ?_
        refine awp_reg (by kernel_rfl) fun K hK => ?_
        simp only [go_sem]
        (try simp (disch := omega) only [wrapI])
        repeat first | intro _ | refine ⟨(by omega), ?_⟩ | refine ⟨⟨by omega, by omega⟩, ?_⟩
        refine hK _ ?_
        clear hK K
        refine awp_ret ?_
        simp only [go_sem]
        have hel : (enumA d l).length = l.length := by simp [enumA]
        rw [hel]
        have hpll : (poolL l m).length = l.length := by simp [poolL, hlen]
        have hfull : (poolL l m).take l.length = poolL l m := List.take_of_length_le (by omega)
        rw [hfull, List.take_of_length_le (by simp [hpll])]
        simp [leL_refl.le_refl, hpll]
end Go.Proofs.Ytgkejinoaommeaa

/- Two laws together, by the document. -/
namespace Go.Proofs.Ytgkejinoaommeaa
open Go Go.Oc
set_option linter.unusedSimpArgs false
set_option linter.unusedVariables false
set_option maxRecDepth 8000
set_option maxHeartbeats 1000000 in
theorem refPool_ok (d : Int) (l : List Am) (e : Int) (m : List Am) (hw : WfL d l) (hw2 : WfL e m) : ACalls Try.prog 46 [lawV d l, lawV e m] (.tu [poolV d l e m, i64 (poolE d l e m)]) := by
  have hc1 := refCheck_ok d l hw
  have hc2 := refCheck_ok e m hw2
  refine acalls_st (rs := [poolV d l e m, i64 (poolE d l e m)]) [.cell 4 24, .tmp 5] Try.func46 rfl (by kernel_rfl) Try.ntmps46 rfl (by simp) rfl fun C vs => ?_
  repeat refine awp_seq ?_
  refine awp_reg (by kernel_rfl) fun K hK => ?_
  simp only [go_sem]
  (try simp (disch := omega) only [wrapI])
  repeat first | intro _ | refine ⟨(by omega), ?_⟩ | refine ⟨⟨by omega, by omega⟩, ?_⟩
  refine hK _ ?_
  clear hK K
  refine awp_sub (sub_frzP 2 2 [i64 d, aimsR l] (by omega) rfl rfl) ?_
  refine awp_sub (sub_frzP 3 3 [i64 e, aimsR m] (by omega) rfl rfl) ?_
  refine awp_sub (sub_keep [2, 3, 4]) ?_
  simp only [go_sem]
  by_cases z1 : checkV d l = 0
  case neg =>
    have hp : poolE d l e m = checkV d l := by simp [poolE, z1]
    have e0 : (checkV d l != 0) = true := by simpa using z1
    repeat refine awp_seq ?_
    refine awp_reg (by kernel_rfl) fun K hK => ?_
    simp only [go_sem]
    (try simp (disch := omega) only [wrapI])
    refine xcall_eq (hc1) rfl (by simp only [go_sem, i64, ints]) (by simp only [go_sem, i64, ints]) (by first | exact .inl rfl | exact .inr rfl) ?_
    (try simp only [go_sem])
    (try simp (disch := omega) only [wrapI])
    repeat first | intro _ | refine ⟨(by omega), ?_⟩ | refine ⟨⟨by omega, by omega⟩, ?_⟩
    refine hK _ ?_
    clear hK K
    refine awp_sub (sub_keep [2, 3, 4, 6]) ?_
    simp only [go_sem]
    repeat refine awp_seq ?_
    refine awp_reg (by kernel_rfl) fun K hK => ?_
    simp only [go_sem, e0]
    (try simp (disch := omega) only [wrapI])
    repeat first | intro _ | refine ⟨(by omega), ?_⟩ | refine ⟨⟨by omega, by omega⟩, ?_⟩
    refine hK _ ?_
    clear hK K
    refine awp_sub (sub_keep [2, 3, 4, 6, 19]) ?_
    simp only [go_sem]
    repeat refine awp_seq ?_
    refine awp_cond rfl (fun hc => ?_) (fun hc => ?_) <;> (try simp only [go_sem] at hc)
    repeat refine awp_seq ?_
    refine awp_reg (by kernel_rfl) fun K hK => ?_
    simp only [go_sem]
    (try simp (disch := omega) only [wrapI])
    repeat first | intro _ | refine ⟨(by omega), ?_⟩ | refine ⟨⟨by omega, by omega⟩, ?_⟩
    refine hK _ ?_
    clear hK K
    refine awp_sub (sub_keep [4, 5]) ?_
    simp only [go_sem]
    refine awp_ret ?_
    simp only [go_sem]
    simp [poolV, hp, z1, leL_refl.le_refl]
  rw [z1] at hc1
  repeat refine awp_seq ?_
  refine awp_reg (by kernel_rfl) fun K hK => ?_
  simp only [go_sem]
  (try simp (disch := omega) only [wrapI])
  refine xcall_eq (hc1) rfl (by simp only [go_sem, i64, ints]) (by simp only [go_sem, i64, ints]) (by first | exact .inl rfl | exact .inr rfl) ?_
  (try simp only [go_sem])
  (try simp (disch := omega) only [wrapI])
  repeat first | intro _ | refine ⟨(by omega), ?_⟩ | refine ⟨⟨by omega, by omega⟩, ?_⟩
  refine hK _ ?_
  clear hK K
  refine awp_sub (sub_keep [2, 3, 4, 6]) ?_
  simp only [go_sem]
  repeat refine awp_seq ?_
  refine awp_reg (by kernel_rfl) fun K hK => ?_
  simp only [go_sem, bne_self_eq_false]
  (try simp (disch := omega) only [wrapI])
  repeat first | intro _ | refine ⟨(by omega), ?_⟩ | refine ⟨⟨by omega, by omega⟩, ?_⟩
  refine hK _ ?_
  clear hK K
  refine awp_sub (sub_keep [2, 3, 4, 6, 19]) ?_
  simp only [go_sem]
  repeat refine awp_seq ?_
  refine awp_cond rfl (fun hc => ?_) (fun hc => ?_) <;> (try simp only [go_sem] at hc)
  refine awp_skip ?_
  try simp only [go_sem]
  by_cases z2 : checkV e m = 0
  case neg =>
    have hp : poolE d l e m = checkV e m := by simp [poolE, z1, z2]
    have e0 : (checkV e m != 0) = true := by simpa using z2
    repeat refine awp_seq ?_
    refine awp_reg (by kernel_rfl) fun K hK => ?_
    simp only [go_sem]
    (try simp (disch := omega) only [wrapI])
    refine xcall_eq (hc2) rfl (by simp only [go_sem, i64, ints]) (by simp only [go_sem, i64, ints]) (by first | exact .inl rfl | exact .inr rfl) ?_
    (try simp only [go_sem])
    (try simp (disch := omega) only [wrapI])
    repeat first | intro _ | refine ⟨(by omega), ?_⟩ | refine ⟨⟨by omega, by omega⟩, ?_⟩
    refine hK _ ?_
    clear hK K
    refine awp_sub (sub_keep [2, 3, 4, 7]) ?_
    simp only [go_sem]
    repeat refine awp_seq ?_
    refine awp_reg (by kernel_rfl) fun K hK => ?_
    simp only [go_sem, e0]
    (try simp (disch := omega) only [wrapI])
    repeat first | intro _ | refine ⟨(by omega), ?_⟩ | refine ⟨⟨by omega, by omega⟩, ?_⟩
    refine hK _ ?_
    clear hK K
    refine awp_sub (sub_keep [2, 3, 4, 7, 25]) ?_
    simp only [go_sem]
    repeat refine awp_seq ?_
    refine awp_cond rfl (fun hc => ?_) (fun hc => ?_) <;> (try simp only [go_sem] at hc)
    repeat refine awp_seq ?_
    refine awp_reg (by kernel_rfl) fun K hK => ?_
    simp only [go_sem]
    (try simp (disch := omega) only [wrapI])
    repeat first | intro _ | refine ⟨(by omega), ?_⟩ | refine ⟨⟨by omega, by omega⟩, ?_⟩
    refine hK _ ?_
    clear hK K
    refine awp_sub (sub_keep [4, 5]) ?_
    simp only [go_sem]
    refine awp_ret ?_
    simp only [go_sem]
    simp [poolV, hp, z2, leL_refl.le_refl]
  rw [z2] at hc2
  obtain ⟨c1, c2, c3, c4, c5⟩ := checkV_zero z1
  obtain ⟨d1, d2, d3, d4, d5⟩ := checkV_zero z2
  have bad : eqF sameA l m = false → poolE d l e m = 4 := fun h => by simp [poolE, z1, z2, h]
  repeat refine awp_seq ?_
  refine awp_reg (by kernel_rfl) fun K hK => ?_
  simp only [go_sem]
  (try simp (disch := omega) only [wrapI])
  refine xcall_eq (hc2) rfl (by simp only [go_sem, i64, ints]) (by simp only [go_sem, i64, ints]) (by first | exact .inl rfl | exact .inr rfl) ?_
  (try simp only [go_sem])
  (try simp (disch := omega) only [wrapI])
  repeat first | intro _ | refine ⟨(by omega), ?_⟩ | refine ⟨⟨by omega, by omega⟩, ?_⟩
  refine hK _ ?_
  clear hK K
  refine awp_sub (sub_keep [2, 3, 4, 7]) ?_
  simp only [go_sem]
  repeat refine awp_seq ?_
  refine awp_reg (by kernel_rfl) fun K hK => ?_
  simp only [go_sem, bne_self_eq_false]
  (try simp (disch := omega) only [wrapI])
  repeat first | intro _ | refine ⟨(by omega), ?_⟩ | refine ⟨⟨by omega, by omega⟩, ?_⟩
  refine hK _ ?_
  clear hK K
  refine awp_sub (sub_keep [2, 3, 4, 7, 25]) ?_
  simp only [go_sem]
  repeat refine awp_seq ?_
  refine awp_cond rfl (fun hc => ?_) (fun hc => ?_) <;> (try simp only [go_sem] at hc)
  refine awp_skip ?_
  try simp only [go_sem]
  by_cases hlen : l.length = m.length
  case neg =>
    have hp := bad (by
      cases h : eqF sameA l m
      · rfl
      · exact absurd (eqF_len h) hlen)
    have e0 : ((l.length : Int) != m.length) = true := by simp; omega
    repeat refine awp_seq ?_
    refine awp_reg (by kernel_rfl) fun K hK => ?_
    simp only [go_sem, e0]
    (try simp (disch := omega) only [wrapI])
    repeat first | intro _ | refine ⟨(by omega), ?_⟩ | refine ⟨⟨by omega, by omega⟩, ?_⟩
    refine hK _ ?_
    clear hK K
    refine awp_sub (sub_keep [2, 3, 4, 34]) ?_
    simp only [go_sem]
    repeat refine awp_seq ?_
    refine awp_cond rfl (fun hc => ?_) (fun hc => ?_) <;> (try simp only [go_sem] at hc)
    repeat refine awp_seq ?_
    refine awp_reg (by kernel_rfl) fun K hK => ?_
    simp only [go_sem]
    (try simp (disch := omega) only [wrapI])
    repeat first | intro _ | refine ⟨(by omega), ?_⟩ | refine ⟨⟨by omega, by omega⟩, ?_⟩
    refine hK _ ?_
    clear hK K
    refine awp_sub (sub_keep [4, 5]) ?_
    simp only [go_sem]
    refine awp_ret ?_
    simp only [go_sem]
    simp [poolV, hp, leL_refl.le_refl]
  have e0 : ((l.length : Int) != m.length) = false := by simp; omega
  repeat refine awp_seq ?_
  refine awp_reg (by kernel_rfl) fun K hK => ?_
  simp only [go_sem, e0]
  (try simp (disch := omega) only [wrapI])
  repeat first | intro _ | refine ⟨(by omega), ?_⟩ | refine ⟨⟨by omega, by omega⟩, ?_⟩
  refine hK _ ?_
  clear hK K
  refine awp_sub (sub_keep [2, 3, 4, 34]) ?_
  simp only [go_sem]
  repeat refine awp_seq ?_
  refine awp_cond rfl (fun hc => ?_) (fun hc => ?_) <;> (try simp only [go_sem] at hc)
  refine awp_skip ?_
  try simp only [go_sem]
  repeat refine awp_seq ?_
  refine awp_reg (by kernel_rfl) fun K hK => ?_
  simp only [go_sem]
  (try simp (disch := omega) only [wrapI])
  repeat first | intro _ | refine ⟨(by omega), ?_⟩ | refine ⟨⟨by omega, by omega⟩, ?_⟩
  refine hK _ ?_
  clear hK K
  refine awp_sub (sub_keep [2, 3, 4, 8]) ?_
  simp only [go_sem]
  repeat refine awp_seq ?_
  refine awp_reg (by kernel_rfl) fun K hK => ?_
  simp only [go_sem]
  (try simp (disch := omega) only [wrapI])
  repeat first | intro _ | refine ⟨(by omega), ?_⟩ | refine ⟨⟨by omega, by omega⟩, ?_⟩
  refine hK _ ?_
  clear hK K
  refine awp_sub (sub_keep [2, 3, 4, 8, 9]) ?_
  simp only [go_sem]
  have hpll : (poolL l m).length = l.length := by simp [poolL, hlen]
  repeat refine awp_seq ?_
  refine awp_block ?_
  refine awp_sub (sub_ownB 8 1 30 36 2 (by omega) (by omega) rfl rfl) ?_
  try simp only [go_sem]
  refine awp_uptoV (n := 138) l.length (fun i vs => [(2, .r (.rp [i64 d, aimsR l])), (3, .r (.rp [i64 e, aimsR m])), (4, .pt 4 (vs 4) 0), (8, .pt 8 (vs 8) 0), (9, .r (i64 i))])
    (fun i vs => [(4, .box [.r (i64 0), .r .ns]), (8, .box [.r (i64 (d + e)), .os 30 (vs 30) 2 0 i]), (30, .arr 36 2 (((poolL l m).take i).map aimR))]) (fun i => eqF sameA (l.take i) (m.take i) = true) 0 (fitV_of [] ?_ ?_) (Nat.zero_le _) rfl ?_
  · try simp only [go_sem]
  · try simp only [go_sem]
  · intro i vs hi hI
    have hlt : ((poolL l m).take i).length = i := by rw [List.length_take]; omega
    repeat refine awp_seq ?_
    refine awp_reg (by kernel_rfl) fun K hK => ?_
    simp only [go_sem]
    (try simp (disch := omega) only [wrapI])
    repeat first | intro _ | refine ⟨(by omega), ?_⟩ | refine ⟨⟨by omega, by omega⟩, ?_⟩
    refine hK _ ?_
    clear hK K
    refine awp_sub (sub_keep [2, 3, 4, 8, 9, 46]) ?_
    simp only [go_sem]
    repeat refine awp_seq ?_
    refine awp_cond rfl (fun hc => ?_) (fun hc => ?_) <;> (try simp only [go_sem] at hc)
    · -- then
      have hci := hc
      have hcm : i < m.length := by omega
      obtain ⟨x, hx⟩ := opt_of_lt hci
      obtain ⟨y, hy⟩ := opt_of_lt hcm
      have hxl := c2 x (mem_of_opt hx)
      have hyl := d2 y (mem_of_opt hy)
      have hsx := chOk_small (aimOk_facts (c5 x (mem_of_opt hx))).2.2.2.1 (by omega)
      have hsy := chOk_small (aimOk_facts (d5 y (mem_of_opt hy))).2.2.2.1 (by omega)
      have hpl : (poolL l m)[i]? = some (poolA x y) := by simp [poolL, List.getElem?_zipWith, hx, hy]
      have htx : (poolL l m).take (i + 1) = (poolL l m).take i ++ [poolA x y] := take_of_opt hpl
      have badA : sameA x y = false → poolE d l e m = 4 := fun h => bad (eqF_bad hx hy h)
      refine awp_skip ?_
      try simp only [go_sem]
      repeat refine awp_seq ?_
      refine awp_block ?_
      repeat refine awp_seq ?_
      refine awp_dreg2 [(2, none), (3, none), (9, none)] follows (by decide +kernel) (by kernel_rfl) (by simp only [keysOk, List.mem_cons, List.not_mem_nil, forall_eq_or_imp, Oc.keyOf, go_sem]; simp) fun K hK => ?_
      simp only [go_sem, hx, hci, hy, hcm, aimR]
      (try simp (disch := omega) only [wrapI])
      repeat first | intro _ | refine ⟨(by omega), ?_⟩ | refine ⟨⟨by omega, by omega⟩, ?_⟩
      refine hK _ ?_
      clear hK K
      refine awp_sub (sub_frzP 10 10 [i64 x.at_, bedsR x.beds] (by omega) rfl rfl) ?_
      refine awp_sub (sub_frzP 11 11 [i64 y.at_, bedsR y.beds] (by omega) rfl rfl) ?_
      refine awp_sub (sub_keep [2, 3, 4, 8, 9, 10, 11, 12]) ?_
      simp only [go_sem]
      by_cases hat : x.at_ = y.at_
      case neg =>
        have hp := badA (by simp [sameA, hat])
        have e1 : (x.at_ != y.at_) = true := by simpa using hat
        repeat refine awp_seq ?_
        refine awp_reg (by kernel_rfl) fun K hK => ?_
        simp only [go_sem, e1]
        (try simp (disch := omega) only [wrapI])
        repeat first | intro _ | refine ⟨(by omega), ?_⟩ | refine ⟨⟨by omega, by omega⟩, ?_⟩
        refine hK _ ?_
        clear hK K
        refine awp_sub (sub_keep [2, 3, 4, 8, 9, 10, 11, 12, 79]) ?_
        simp only [go_sem]
        repeat refine awp_seq ?_
        refine awp_cond rfl (fun hc => ?_) (fun hc => ?_) <;> (try simp only [go_sem] at hc)
        repeat refine awp_seq ?_
        refine awp_reg (by kernel_rfl) fun K hK => ?_
        simp only [go_sem]
        (try simp (disch := omega) only [wrapI])
        repeat first | intro _ | refine ⟨(by omega), ?_⟩ | refine ⟨⟨by omega, by omega⟩, ?_⟩
        refine hK _ ?_
        clear hK K
        refine awp_sub (sub_keep [4, 5]) ?_
        simp only [go_sem]
        refine awp_ret ?_
        simp only [go_sem]
        simp [poolV, hp, leL_refl.le_refl]
      have e1 : (x.at_ != y.at_) = false := by simpa using hat
      by_cases hbl : x.beds.length = y.beds.length
      case neg =>
        have hp := badA (by
          cases h : eqF sameB x.beds y.beds
          · simp [sameA, h]
          · exact absurd (eqF_len h) hbl)
        have e2 : ((x.beds.length : Int) != y.beds.length) = true := by simp; omega
        repeat refine awp_seq ?_
        refine awp_reg (by kernel_rfl) fun K hK => ?_
        simp only [go_sem, e1, e2]
        (try simp (disch := omega) only [wrapI])
        repeat first | intro _ | refine ⟨(by omega), ?_⟩ | refine ⟨⟨by omega, by omega⟩, ?_⟩
        refine hK _ ?_
        clear hK K
        refine awp_sub (sub_keep [2, 3, 4, 8, 9, 10, 11, 12, 79]) ?_
        simp only [go_sem]
        repeat refine awp_seq ?_
        refine awp_cond rfl (fun hc => ?_) (fun hc => ?_) <;> (try simp only [go_sem] at hc)
        repeat refine awp_seq ?_
        refine awp_reg (by kernel_rfl) fun K hK => ?_
        simp only [go_sem]
        (try simp (disch := omega) only [wrapI])
        repeat first | intro _ | refine ⟨(by omega), ?_⟩ | refine ⟨⟨by omega, by omega⟩, ?_⟩
        refine hK _ ?_
        clear hK K
        refine awp_sub (sub_keep [4, 5]) ?_
        simp only [go_sem]
        refine awp_ret ?_
        simp only [go_sem]
        simp [poolV, hp, leL_refl.le_refl]
      have e2 : ((x.beds.length : Int) != y.beds.length) = false := by simp; omega
      repeat refine awp_seq ?_
      refine awp_reg (by kernel_rfl) fun K hK => ?_
      simp only [go_sem, e1, e2]
      (try simp (disch := omega) only [wrapI])
      repeat first | intro _ | refine ⟨(by omega), ?_⟩ | refine ⟨⟨by omega, by omega⟩, ?_⟩
      refine hK _ ?_
      clear hK K
      refine awp_sub (sub_keep [2, 3, 4, 8, 9, 10, 11, 12, 79]) ?_
      simp only [go_sem]
      repeat refine awp_seq ?_
      refine awp_cond rfl (fun hc => ?_) (fun hc => ?_) <;> (try simp only [go_sem] at hc)
      refine awp_skip ?_
      try simp only [go_sem]
      repeat refine awp_seq ?_
      refine awp_reg (by kernel_rfl) fun K hK => ?_
      simp only [go_sem]
      (try simp (disch := omega) only [wrapI])
      repeat first | intro _ | refine ⟨(by omega), ?_⟩ | refine ⟨⟨by omega, by omega⟩, ?_⟩
      refine hK _ ?_
      clear hK K
      refine awp_sub (sub_keep [2, 3, 4, 8, 9, 10, 11, 12, 13]) ?_
      simp only [go_sem]
      repeat refine awp_seq ?_
      refine awp_block ?_
      refine awp_sub (sub_ownB 12 1 31 67 3 (by omega) (by omega) rfl rfl) ?_
      try simp only [go_sem]
      refine awp_uptoV (n := 138) x.beds.length (fun k vs => [(2, .r (.rp [i64 d, aimsR l])), (3, .r (.rp [i64 e, aimsR m])), (4, .pt 4 (vs 4) 0), (8, .pt 8 (vs 8) 0), (9, .r (i64 i)), (10, .r (.rp [i64 x.at_, bedsR x.beds])), (11, .r (.rp [i64 y.at_, bedsR y.beds])), (12, .pt 12 (vs 12) 0), (13, .r (i64 k))])
        (fun k vs => [(4, .box [.r (i64 0), .r .ns]), (8, .box [.r (i64 (d + e)), .os 30 (vs 30) 2 0 i]), (12, .box [.r (i64 x.at_), .os 31 (vs 31) 3 0 k]), (30, .arr 36 2 (((poolL l m).take i).map aimR)), (31, .arr 67 3 (((poolA x y).beds.take k).map bedR))])
        (fun k => eqF sameB (x.beds.take k) (y.beds.take k) = true) 0 (fitV_of [] ?_ ?_) (Nat.zero_le _) rfl ?_
      · try simp only [go_sem]
      · try simp only [go_sem]
      · intro k vs hk hK
        have hlk : ((poolA x y).beds.take k).length = k := by rw [List.length_take]; simp [poolA]; omega
        repeat refine awp_seq ?_
        refine awp_reg (by kernel_rfl) fun K hK => ?_
        simp only [go_sem]
        (try simp (disch := omega) only [wrapI])
        repeat first | intro _ | refine ⟨(by omega), ?_⟩ | refine ⟨⟨by omega, by omega⟩, ?_⟩
        refine hK _ ?_
        clear hK K
        refine awp_sub (sub_keep [2, 3, 4, 8, 9, 10, 11, 12, 13, 85]) ?_
        simp only [go_sem]
        repeat refine awp_seq ?_
        refine awp_cond rfl (fun hc => ?_) (fun hc => ?_) <;> (try simp only [go_sem] at hc)
        · -- then
          have hck := hc
          obtain ⟨u, hu⟩ := opt_of_lt hck
          have hckv : k < y.beds.length := by omega
          obtain ⟨v, hv⟩ := opt_of_lt hckv
          have bu := hsx u (mem_of_opt hu)
          have bv := hsy v (mem_of_opt hv)
          have htk : (poolA x y).beds.take (k + 1) = (poolA x y).beds.take k ++ [poolB u v] := take_of_opt (by simp [poolA, List.getElem?_zipWith, hu, hv])
          refine awp_skip ?_
          try simp only [go_sem]
          repeat refine awp_seq ?_
          refine awp_block ?_
          repeat refine awp_seq ?_
          refine awp_dreg2 [(10, none), (11, none), (13, none)] follows (by decide +kernel) (by kernel_rfl) (by simp only [keysOk, List.mem_cons, List.not_mem_nil, forall_eq_or_imp, Oc.keyOf, go_sem]; simp) fun K hK => ?_
          simp only [go_sem, hu, hck, hv, hckv, bedR]
          (try simp (disch := omega) only [wrapI])
          repeat first | intro _ | refine ⟨(by omega), ?_⟩ | refine ⟨⟨by omega, by omega⟩, ?_⟩
          refine hK _ ?_
          clear hK K
          refine awp_sub (sub_frzP 14 14 [i64 u.b, i64 u.lo, i64 u.hi] (by omega) rfl rfl) ?_
          refine awp_sub (sub_frzP 15 15 [i64 v.b, i64 v.lo, i64 v.hi] (by omega) rfl rfl) ?_
          refine awp_sub (sub_keep [2, 3, 4, 8, 9, 10, 11, 12, 13, 14, 15]) ?_
          simp only [go_sem]
          by_cases hub : u.b = v.b
          case neg =>
            have hp := badA (by
              have := eqF_bad (p := sameB) hu hv (by simpa [sameB] using hub)
              simp [sameA, this])
            have e3 : (u.b != v.b) = true := by simpa using hub
            repeat refine awp_seq ?_
            refine awp_reg (by kernel_rfl) fun K hK => ?_
            simp only [go_sem, e3]
            (try simp (disch := omega) only [wrapI])
            repeat first | intro _ | refine ⟨(by omega), ?_⟩ | refine ⟨⟨by omega, by omega⟩, ?_⟩
            refine hK _ ?_
            clear hK K
            refine awp_sub (sub_keep [2, 3, 4, 8, 9, 10, 11, 12, 13, 14, 15, 102]) ?_
            simp only [go_sem]
            repeat refine awp_seq ?_
            refine awp_cond rfl (fun hc => ?_) (fun hc => ?_) <;> (try simp only [go_sem] at hc)
            repeat refine awp_seq ?_
            refine awp_reg (by kernel_rfl) fun K hK => ?_
            simp only [go_sem]
            (try simp (disch := omega) only [wrapI])
            repeat first | intro _ | refine ⟨(by omega), ?_⟩ | refine ⟨⟨by omega, by omega⟩, ?_⟩
            refine hK _ ?_
            clear hK K
            refine awp_sub (sub_keep [4, 5]) ?_
            simp only [go_sem]
            refine awp_ret ?_
            simp only [go_sem]
            simp [poolV, hp, leL_refl.le_refl]
          have e3 : (u.b != v.b) = false := by simpa using hub
          repeat refine awp_seq ?_
          refine awp_reg (by kernel_rfl) fun K hK => ?_
          simp only [go_sem, e3]
          (try simp (disch := omega) only [wrapI])
          repeat first | intro _ | refine ⟨(by omega), ?_⟩ | refine ⟨⟨by omega, by omega⟩, ?_⟩
          refine hK _ ?_
          clear hK K
          refine awp_sub (sub_keep [2, 3, 4, 8, 9, 10, 11, 12, 13, 14, 15, 102]) ?_
          simp only [go_sem]
          repeat refine awp_seq ?_
          refine awp_cond rfl (fun hc => ?_) (fun hc => ?_) <;> (try simp only [go_sem] at hc)
          refine awp_skip ?_
          try simp only [go_sem]
          repeat refine awp_seq ?_
          refine awp_reg (by kernel_rfl) fun K hK => ?_
          simp only [go_sem, hlk]
          (try simp (disch := omega) only [wrapI])
          repeat first | intro _ | refine ⟨(by omega), ?_⟩ | refine ⟨⟨by omega, by omega⟩, ?_⟩
          refine hK _ ?_
          clear hK K
          refine awp_sub (sub_keep [2, 3, 4, 8, 9, 10, 11, 12, 13]) ?_
          simp only [go_sem]
          repeat refine awp_seq ?_
          refine awp_reg (by kernel_rfl) fun K hK => ?_
          simp only [go_sem]
          (try simp (disch := omega) only [wrapI])
          repeat first | intro _ | refine ⟨(by omega), ?_⟩ | refine ⟨⟨by omega, by omega⟩, ?_⟩
          refine hK _ ?_
          clear hK K
          try simp only [go_sem]
          refine ⟨hck, ?_, fitV_of [] ?_ ?_⟩
          · rw [take_of_opt hu, take_of_opt hv, eqF_snoc (by simp; omega), hK]; simp [sameB, hub]
          · try simp only [go_sem]
          · try simp only [go_sem]
            rw [htk]
            simp [bedR, poolB]
        · -- else
          have hkk : k = x.beds.length := by omega
          subst hkk
          have ebl : (poolA x y).beds.take x.beds.length = (poolA x y).beds := List.take_of_length_le (by simp [poolA]; omega)
          have ebn : ((poolA x y).beds.map bedR).length = x.beds.length := by simp [poolA]; omega
          have etl : List.take x.beds.length ((poolA x y).beds.map bedR) = (poolA x y).beds.map bedR := List.take_of_length_le (by omega)
          rw [List.take_length, hbl, List.take_length] at hK
          rw [ebl]
          refine awp_exit ?_
          simp only [go_sem]
          refine awp_sub (sub_frzB 12 1 31 (by omega) (by omega) rfl rfl rfl (by rw [ebn]; omega)) ?_
          simp only [go_sem, List.drop_zero, etl, List.set_cons_succ, List.set_cons_zero]
          refine awp_sub (sub_keep [2, 3, 4, 8, 9, 12]) ?_
          simp only [go_sem]
          repeat refine awp_seq ?_
          refine awp_reg (by kernel_rfl) fun K hK => ?_
          simp only [go_sem, hlt]
          (try simp (disch := omega) only [wrapI])
          repeat first | intro _ | refine ⟨(by omega), ?_⟩ | refine ⟨⟨by omega, by omega⟩, ?_⟩
          refine hK _ ?_
          clear hK K
          refine awp_sub (sub_keep [2, 3, 4, 8, 9]) ?_
          simp only [go_sem]
          repeat refine awp_seq ?_
          refine awp_reg (by kernel_rfl) fun K hK => ?_
          simp only [go_sem]
          (try simp (disch := omega) only [wrapI])
          repeat first | intro _ | refine ⟨(by omega), ?_⟩ | refine ⟨⟨by omega, by omega⟩, ?_⟩
          refine hK _ ?_
          clear hK K
          try simp only [go_sem]
          refine ⟨hci, ?_, fitV_of [12] ?_ ?_⟩
          · rw [take_of_opt hx, take_of_opt hy, eqF_snoc (by simp; omega), hI]; simp [sameA, hat, hK]
          · try simp only [go_sem]
          · try simp only [go_sem]
            rw [htx]
            simp [aimR, poolA]
    · -- else
      have hil : i = l.length := by omega
      subst hil
      rw [List.take_length, hlen, List.take_length] at hI
      rw [List.take_of_length_le (l := poolL l m) (by omega)]
      refine awp_exit ?_
      simp only [go_sem]
      repeat refine awp_seq ?_
      refine awp_reg (by kernel_rfl) fun K hK => ?_
      simp only [go_sem]
      (try simp (disch := omega) only [wrapI])
      repeat first | intro _ | refine ⟨(by omega), ?_⟩ | refine ⟨⟨by omega, by omega⟩, ?_⟩
      refine hK _ ?_
      clear hK K
      refine awp_sub (sub_keep [4, 8, 135]) ?_
      simp only [go_sem]
      repeat refine awp_seq ?_
      refine awp_cond rfl (fun hc => ?_) (fun hc => ?_) <;> (try simp only [go_sem] at hc)
      · -- then
        have hp : poolE d l e m = 8 := by
          have : 3000 < d + e := by omega
          simp [poolE, z1, z2, hI, this]
        repeat refine awp_seq ?_
        refine awp_reg (by kernel_rfl) fun K hK => ?_
        simp only [go_sem]
        (try simp (disch := omega) only [wrapI])
        repeat first | intro _ | refine ⟨(by omega), ?_⟩ | refine ⟨⟨by omega, by omega⟩, ?_⟩
        refine hK _ ?_
        clear hK K
        refine awp_sub (sub_keep [4, 5]) ?_
        simp only [go_sem]
        refine awp_ret ?_
        simp only [go_sem]
        simp [poolV, hp, leL_refl.le_refl]
      · -- else
        have hp : poolE d l e m = 0 := by
          have : ¬ 3000 < d + e := by omega
          simp [poolE, z1, z2, hI, this]
        have hpv : poolV d l e m = lawV (d + e) (poolL l m) := by simp [poolV, hp]
        rw [hp, hpv]
        refine awp_skip ?_
        try simp only [go_sem]
        repeat refine awp_seq ?_
        refine awp_reg (by kernel_rfl) fun K hK => ?_
        simp only [go_sem]
        (try simp (disch := omega) only [wrapI])
        repeat first | intro _ | refine ⟨(by omega), ?_⟩ | refine ⟨⟨by omega, by omega⟩, ?_⟩
        refine hK _ ?_
        clear hK K
        refine awp_sub (sub_keep [4, 5]) ?_
        simp only [go_sem]
        refine awp_ret ?_
        simp only [go_sem]
        have hm2 : List.take l.length (List.map aimR (poolL l m)) = List.map aimR (poolL l m) := List.take_of_length_le (by simp [hpll])
        simp [leL_refl.le_refl, hpll, hm2]
end Go.Proofs.Ytgkejinoaommeaa

/- Law ThrowPools: two laws together are what the document says. -/
namespace Go.Proofs.Ytgkejinoaommeaa
open Go Go.Oc
set_option linter.unusedSimpArgs false
set_option linter.unusedVariables false
set_option maxRecDepth 8000
theorem pools_law (d : Int) (l : List Am) (e : Int) (m : List Am) (hw : WfL d l) (hw2 : WfL e m) : ACalls Try.prog 11 [lawV d l, lawV e m] (.bo true) := by
  refine acalls_st (rs := [.bo true]) [.tmp 4] Try.func11 rfl (by kernel_rfl) Try.ntmps11 rfl (by simp) rfl fun C vs => ?_
  repeat refine awp_seq ?_
  refine awp_reg (by kernel_rfl) fun K hK => ?_
  simp only [go_sem]
  (try simp (disch := omega) only [wrapI])
  repeat first | intro _ | refine ⟨(by omega), ?_⟩ | refine ⟨⟨by omega, by omega⟩, ?_⟩
  refine hK _ ?_
  clear hK K
  refine awp_sub (sub_frzP 2 2 [i64 d, aimsR l] (by omega) rfl rfl) ?_
  refine awp_sub (sub_frzP 3 3 [i64 e, aimsR m] (by omega) rfl rfl) ?_
  refine awp_sub (sub_keep [2, 3]) ?_
  simp only [go_sem]
  repeat refine awp_seq ?_
  refine awp_reg (by kernel_rfl) fun K hK => ?_
  simp only [go_sem]
  (try simp (disch := omega) only [wrapI])
  refine xcall_eq (great_ok d l) rfl (by simp only [go_sem, i64, ints]) (by simp only [go_sem, i64, ints]) (by first | exact .inl rfl | exact .inr rfl) ?_
  (try simp only [go_sem])
  (try simp (disch := omega) only [wrapI])
  cases hg : greatL l
  case true =>
    try simp only [go_sem]
    repeat first | intro _ | refine ⟨(by omega), ?_⟩ | refine ⟨⟨by omega, by omega⟩, ?_⟩
    refine hK _ ?_
    clear hK K
    refine awp_sub (sub_keep [2, 3, 16]) ?_
    simp only [go_sem]
    repeat refine awp_seq ?_
    refine awp_cond rfl (fun hc => ?_) (fun hc => ?_) <;> (try simp only [go_sem] at hc)
    repeat refine awp_seq ?_
    refine awp_reg (by kernel_rfl) fun K hK => ?_
    simp only [go_sem]
    (try simp (disch := omega) only [wrapI])
    refine xcall_eq (known14_ok) rfl (by simp only [go_sem, i64, ints]) (by simp only [go_sem, i64, ints]) (by first | exact .inl rfl | exact .inr rfl) ?_
    (try simp only [go_sem])
    (try simp (disch := omega) only [wrapI])
    repeat first | intro _ | refine ⟨(by omega), ?_⟩ | refine ⟨⟨by omega, by omega⟩, ?_⟩
    refine hK _ ?_
    clear hK K
    refine awp_sub (sub_keep [4]) ?_
    simp only [go_sem]
    refine awp_ret ?_
    simp only [go_sem]
  try simp only [go_sem]
  refine xcall_eq (great_ok e m) rfl (by simp only [go_sem, i64, ints]) (by simp only [go_sem, i64, ints]) (by first | exact .inl rfl | exact .inr rfl) ?_
  (try simp only [go_sem])
  (try simp (disch := omega) only [wrapI])
  cases hg2 : greatL m
  case true =>
    try simp only [go_sem]
    repeat first | intro _ | refine ⟨(by omega), ?_⟩ | refine ⟨⟨by omega, by omega⟩, ?_⟩
    refine hK _ ?_
    clear hK K
    refine awp_sub (sub_keep [2, 3, 16]) ?_
    simp only [go_sem]
    repeat refine awp_seq ?_
    refine awp_cond rfl (fun hc => ?_) (fun hc => ?_) <;> (try simp only [go_sem] at hc)
    repeat refine awp_seq ?_
    refine awp_reg (by kernel_rfl) fun K hK => ?_
    simp only [go_sem]
    (try simp (disch := omega) only [wrapI])
    refine xcall_eq (known14_ok) rfl (by simp only [go_sem, i64, ints]) (by simp only [go_sem, i64, ints]) (by first | exact .inl rfl | exact .inr rfl) ?_
    (try simp only [go_sem])
    (try simp (disch := omega) only [wrapI])
    repeat first | intro _ | refine ⟨(by omega), ?_⟩ | refine ⟨⟨by omega, by omega⟩, ?_⟩
    refine hK _ ?_
    clear hK K
    refine awp_sub (sub_keep [4]) ?_
    simp only [go_sem]
    refine awp_ret ?_
    simp only [go_sem]
  try simp only [go_sem]
  obtain ⟨hl, hb⟩ := great_le hg
  obtain ⟨hl2, hb2⟩ := great_le hg2
  have o1 := own_ok d l (by omega) (fun a ha => by have := hb a ha; omega)
  have o2 := own_ok e m (by omega) (fun a ha => by have := hb2 a ha; omega)
  have p1 := pool_ok d l e m hw hw2
  have p2 := refPool_ok d l e m hw hw2
  repeat first | intro _ | refine ⟨(by omega), ?_⟩ | refine ⟨⟨by omega, by omega⟩, ?_⟩
  refine hK _ ?_
  clear hK K
  refine awp_sub (sub_keep [2, 3, 16]) ?_
  simp only [go_sem]
  repeat refine awp_seq ?_
  refine awp_cond rfl (fun hc => ?_) (fun hc => ?_) <;> (try simp only [go_sem] at hc)
  refine awp_skip ?_
  try simp only [go_sem]
  repeat refine awp_seq ?_
  refine awp_dreg2 [(2, none), (3, none)] follows (by decide +kernel) (by kernel_rfl) (by simp only [keysOk, List.mem_cons, List.not_mem_nil, forall_eq_or_imp, Oc.keyOf, go_sem]; simp) fun K hK => ?_
  simp only [go_sem]
  (try simp (disch := omega) only [wrapI])
  refine xcall_eq (o1) rfl (by simp only [go_sem, i64, ints]) (by simp only [go_sem, i64, ints]) (by first | exact .inl rfl | exact .inr rfl) ?_
  (try simp only [go_sem])
  (try simp (disch := omega) only [wrapI])
  try simp only [go_sem]
  refine xcall_eq (o2) rfl (by simp only [go_sem, i64, ints]) (by simp only [go_sem, i64, ints]) (by first | exact .inl rfl | exact .inr rfl) ?_
  (try simp only [go_sem])
  (try simp (disch := omega) only [wrapI])
  repeat first | intro _ | refine ⟨(by omega), ?_⟩ | refine ⟨⟨by omega, by omega⟩, ?_⟩
  refine hK _ ?_
  clear hK K
  refine awp_sub (sub_frzP 5 5 [i64 d, aimsR l] (by omega) rfl rfl) ?_
  refine awp_sub (sub_frzP 6 6 [i64 e, aimsR m] (by omega) rfl rfl) ?_
  refine awp_sub (sub_keep [2, 3, 5, 6]) ?_
  simp only [go_sem]
  by_cases h0 : poolE d l e m = 0
  · have hv : poolV d l e m = lawV (d + e) (poolL l m) := by simp [poolV, h0]
    rw [hv, h0] at p1 p2
    repeat refine awp_seq ?_
    refine awp_reg (by kernel_rfl) fun K hK => ?_
    simp only [go_sem]
    (try simp (disch := omega) only [wrapI])
    refine xcall_eq (p1) rfl (by simp only [go_sem, i64, ints]) (by simp only [go_sem, i64, ints]) (by first | exact .inl rfl | exact .inr rfl) ?_
    (try simp only [go_sem])
    (try simp (disch := omega) only [wrapI])
    repeat first | intro _ | refine ⟨(by omega), ?_⟩ | refine ⟨⟨by omega, by omega⟩, ?_⟩
    refine hK _ ?_
    clear hK K
    refine awp_sub (sub_frzP 7 7 [i64 (d + e), aimsR (poolL l m)] (by omega) rfl rfl) ?_
    refine awp_sub (sub_keep [2, 3, 5, 6, 7, 8]) ?_
    simp only [go_sem]
    repeat refine awp_seq ?_
    refine awp_reg (by kernel_rfl) fun K hK => ?_
    simp only [go_sem]
    (try simp (disch := omega) only [wrapI])
    refine xcall_eq (p2) rfl (by simp only [go_sem, i64, ints]) (by simp only [go_sem, i64, ints]) (by first | exact .inl rfl | exact .inr rfl) ?_
    (try simp only [go_sem])
    (try simp (disch := omega) only [wrapI])
    repeat first | intro _ | refine ⟨(by omega), ?_⟩ | refine ⟨⟨by omega, by omega⟩, ?_⟩
    refine hK _ ?_
    clear hK K
    refine awp_sub (sub_frzP 9 9 [i64 (d + e), aimsR (poolL l m)] (by omega) rfl rfl) ?_
    refine awp_sub (sub_keep [2, 3, 5, 6, 7, 8, 9, 10]) ?_
    simp only [go_sem]
    repeat refine awp_seq ?_
    refine awp_reg (by kernel_rfl) fun K hK => ?_
    simp only [go_sem, beq_self_eq_true]
    (try simp (disch := omega) only [wrapI])
    refine xcall_eq (equal_ok d d l l) rfl (by simp only [go_sem, i64, ints, beq_self_eq_true]) (by simp only [go_sem, i64, ints, beq_self_eq_true]) (by first | exact .inl rfl | exact .inr rfl) ?_
    (try simp only [go_sem, beq_self_eq_true])
    (try simp (disch := omega) only [wrapI])
    try simp only [go_sem]
    refine xcall_eq (equal_ok e e m m) rfl (by simp only [go_sem, i64, ints, beq_self_eq_true]) (by simp only [go_sem, i64, ints, beq_self_eq_true]) (by first | exact .inl rfl | exact .inr rfl) ?_
    (try simp only [go_sem, beq_self_eq_true])
    (try simp (disch := omega) only [wrapI])
    try simp only [go_sem]
    refine xcall_eq (equal_ok (d + e) (d + e) (poolL l m) (poolL l m)) rfl (by simp only [go_sem, i64, ints, beq_self_eq_true]) (by simp only [go_sem, i64, ints, beq_self_eq_true]) (by first | exact .inl rfl | exact .inr rfl) ?_
    (try simp only [go_sem, beq_self_eq_true])
    (try simp (disch := omega) only [wrapI])
    try simp only [go_sem]
    refine xcall_eq (known14_ok) rfl (by simp only [go_sem, i64, ints]) (by simp only [go_sem, i64, ints]) (by first | exact .inl rfl | exact .inr rfl) ?_
    (try simp only [go_sem])
    (try simp (disch := omega) only [wrapI])
    repeat first | intro _ | refine ⟨(by omega), ?_⟩ | refine ⟨⟨by omega, by omega⟩, ?_⟩
    refine hK _ ?_
    clear hK K
    refine awp_sub (sub_keep [4]) ?_
    simp only [go_sem]
    refine awp_ret ?_
    simp only [go_sem]
  · have hv : poolV d l e m = .ag [i64 0, .ns] := by simp [poolV, h0]
    rw [hv] at p1 p2
    generalize poolE d l e m = c at p1 p2 h0
    repeat refine awp_seq ?_
    refine awp_reg (by kernel_rfl) fun K hK => ?_
    simp only [go_sem]
    (try simp (disch := omega) only [wrapI])
    refine xcall_eq (p1) rfl (by simp only [go_sem, i64, ints]) (by simp only [go_sem, i64, ints]) (by first | exact .inl rfl | exact .inr rfl) ?_
    (try simp only [go_sem])
    (try simp (disch := omega) only [wrapI])
    repeat first | intro _ | refine ⟨(by omega), ?_⟩ | refine ⟨⟨by omega, by omega⟩, ?_⟩
    refine hK _ ?_
    clear hK K
    refine awp_sub (sub_frzP 7 7 [i64 0, .ns] (by omega) rfl rfl) ?_
    refine awp_sub (sub_keep [2, 3, 5, 6, 7, 8]) ?_
    simp only [go_sem]
    repeat refine awp_seq ?_
    refine awp_reg (by kernel_rfl) fun K hK => ?_
    simp only [go_sem]
    (try simp (disch := omega) only [wrapI])
    refine xcall_eq (p2) rfl (by simp only [go_sem, i64, ints]) (by simp only [go_sem, i64, ints]) (by first | exact .inl rfl | exact .inr rfl) ?_
    (try simp only [go_sem])
    (try simp (disch := omega) only [wrapI])
    repeat first | intro _ | refine ⟨(by omega), ?_⟩ | refine ⟨⟨by omega, by omega⟩, ?_⟩
    refine hK _ ?_
    clear hK K
    refine awp_sub (sub_frzP 9 9 [i64 0, .ns] (by omega) rfl rfl) ?_
    refine awp_sub (sub_keep [2, 3, 5, 6, 7, 8, 9, 10]) ?_
    simp only [go_sem]
    repeat refine awp_seq ?_
    refine awp_reg (by kernel_rfl) fun K hK => ?_
    simp only [go_sem, beq_self_eq_true]
    (try simp (disch := omega) only [wrapI])
    refine xcall_eq (equal_ok d d l l) rfl (by simp only [go_sem, i64, ints, beq_self_eq_true]) (by simp only [go_sem, i64, ints, beq_self_eq_true]) (by first | exact .inl rfl | exact .inr rfl) ?_
    (try simp only [go_sem, beq_self_eq_true])
    (try simp (disch := omega) only [wrapI])
    try simp only [go_sem]
    refine xcall_eq (equal_ok e e m m) rfl (by simp only [go_sem, i64, ints, beq_self_eq_true]) (by simp only [go_sem, i64, ints, beq_self_eq_true]) (by first | exact .inl rfl | exact .inr rfl) ?_
    (try simp only [go_sem, beq_self_eq_true])
    (try simp (disch := omega) only [wrapI])
    try simp only [go_sem]
    refine .inl (acall_of (equal_ok 0 0 [] []) rfl (by simp only [go_sem, i64, ints, beq_self_eq_true]) (by simp only [go_sem, i64, ints, beq_self_eq_true]; try simp) (by first | exact .inl rfl | exact .inr rfl) ?_)
    (try simp only [go_sem, beq_self_eq_true])
    (try simp (disch := omega) only [wrapI])
    try simp only [go_sem]
    refine xcall_eq (known14_ok) rfl (by simp only [go_sem, i64, ints]) (by simp only [go_sem, i64, ints]) (by first | exact .inl rfl | exact .inr rfl) ?_
    (try simp only [go_sem])
    (try simp (disch := omega) only [wrapI])
    repeat first | intro _ | refine ⟨(by omega), ?_⟩ | refine ⟨⟨by omega, by omega⟩, ?_⟩
    refine hK _ ?_
    clear hK K
    refine awp_sub (sub_keep [4]) ?_
    simp only [go_sem]
    refine awp_ret ?_
    simp only [go_sem]
end Go.Proofs.Ytgkejinoaommeaa

/- What a reading of the arguments says of them: plain data of a shape. -/
namespace Go.Oc
open Go Go.RowKit Go.ChangeShapes Go.WideShapes

inductive Sh where
  | int (k : IntKind)
  | bool
  | sl (es : List Sh)
def fieldsSh (P : Program) (sh : TypeId → Option (List Sh)) : List Field → Nat → Option (List Sh)
  | [], _ => some []
  | f :: fs, o =>
    match sh f.type with
    | some ss => if f.offset == o && ss.length == P.cellsOf f.type then match fieldsSh P sh fs (o + ss.length) with | some q => some (ss ++ q) | none => none else none
    | none => none
/-- The cells of a type. -/
def shape (P : Program) : Nat → TypeId → Option (List Sh)
  | 0, _ => none
  | n + 1, t =>
    match P.underlying t with
    | some (.int k) => some [.int k]
    | some .bool => some [.bool]
    | some (.slice e) =>
      match shape P n e with
      | some ss => if ss.length == P.cellsOf e && decide (0 < ss.length) then some [.sl ss] else none
      | none => none
    | some (.array m e) =>
      match shape P n e with
      | some ss => if ss.length == P.cellsOf e && P.cellsOf t == m * ss.length then some (List.replicate m ss).flatten else none
      | none => none
    | some (.struct fs) =>
      match fieldsSh P (shape P n) fs.toList 0 with
      | some ss => if ss.length == P.cellsOf t then some ss else none
      | none => none
    | _ => none
mutual
def Fits : Sh → RV → Prop
  | .int k, x => ∃ n, x = .it k n ∧ (Lit.int k n).wf = true
  | .bool, x => ∃ b, x = .bo b
  | .sl ss, x => ∃ es, x = .sl ss.length es ∧ FitsE ss es
def FitsL : List Sh → List RV → Prop
  | [], xs => xs = []
  | s :: ss, xs => ∃ y ys, xs = y :: ys ∧ Fits s y ∧ FitsL ss ys
def FitsE (ss : List Sh) : List (List RV) → Prop
  | [] => True
  | e :: es => FitsL ss e ∧ FitsE ss es
end

theorem fitsL_append : ∀ {s1 s2 : List Sh} {x1 x2 : List RV}, FitsL s1 x1 → FitsL s2 x2 → FitsL (s1 ++ s2) (x1 ++ x2)
  | [], _, _, _, h1, h2 => by simp only [FitsL] at h1; subst h1; simpa using h2
  | s :: ss, s2, x1, x2, h1, h2 => by
    simp only [FitsL] at h1
    obtain ⟨y, ys, rfl, h3, h4⟩ := h1
    simp only [List.cons_append, FitsL]
    exact ⟨y, _, rfl, h3, fitsL_append h4 h2⟩
theorem fitsL_length : ∀ {ss : List Sh} {xs : List RV}, FitsL ss xs → xs.length = ss.length
  | [], _, h => by simp only [FitsL] at h; subst h; rfl
  | s :: ss, _, h => by
    simp only [FitsL] at h
    obtain ⟨y, ys, rfl, _, h⟩ := h
    simp [fitsL_length h]
theorem fitsE_of : ∀ {ss : List Sh} {es : List (List RV)}, (∀ e ∈ es, FitsL ss e) → FitsE ss es
  | _, [], _ => by simp only [FitsE]
  | ss, e :: es, h => by simp only [FitsE]; exact ⟨h e (by simp), fitsE_of fun x hx => h x (by simp [hx])⟩
theorem choice {α : Type} {Q : Nat → α → Prop} : ∀ (n : Nat), (∀ i, i < n → ∃ x, Q i x) → ∃ xs : List α, xs.length = n ∧ ∀ i x, xs[i]? = some x → Q i x
  | 0, _ => ⟨[], rfl, by simp⟩
  | n + 1, h => by
    obtain ⟨xs, hl, hx⟩ := choice n fun i hi => h i (by omega)
    obtain ⟨y, hy⟩ := h n (by omega)
    refine ⟨xs ++ [y], by simp [hl], fun i x hi => ?_⟩
    by_cases h1 : i < n
    · rw [List.getElem?_append_left (by omega)] at hi; exact hx i x hi
    · rw [List.getElem?_append_right (by omega)] at hi
      have : i = n := by have := (List.getElem?_eq_some_iff.1 hi).1; simp at this; omega
      subst this
      simp [hl] at hi
      exact hi ▸ hy
section
variable {w : World} {P : Program}
theorem cells?_get {base n : Nat} {a : Addr} {cs : List Value} (h : w.cells? base a n = some cs) : cs.length = n ∧ ∀ i, i < n → w.cell? (a.add i) = cs[i]? := by
  unfold World.cells? at h
  split at h
  · exact ⟨by simpa using mapM_some_length h, fun i hi => mapM_some_get h i i (by simp [hi])⟩
  · cases h
theorem cell_lt {a : Addr} {v : Value} (h : w.cell? a = some v) : a.block < w.heap.size := by
  refine Decidable.byContradiction fun hn => ?_
  have : w.heap[a.block]? = none := by simp; omega
  simp [World.cell?, this] at h
/-- All that was there. -/
def old (w : World) : Nat → Prop := fun b => b < w.heap.size
theorem relC_of_cells {xs : List RV} {cs : List Value} {ad : Addr} (hV : RV.relV w (old w) xs cs) (hone : ∀ u ∈ cs, u.oneCell' = true) (hc : ∀ i, i < cs.length → w.cell? (ad.add i) = cs[i]?) : RV.relC w (old w) xs ad 0 := by
  refine RV.relC_of_get fun i x hx => ?_
  obtain ⟨u, hu, hr⟩ := RV.relV_get hV hx
  have hi := (List.getElem?_eq_some_iff.1 hu).1
  refine ⟨u, ?_, hone u (List.mem_of_getElem? hu), hr⟩
  rw [Nat.zero_add, hc i hi, hu]

variable {H : Type} {enc : TypeId × Value → H} {base : Nat} {spare : Nat → Bool} {held : Bool}
def Good3 (w : World) (ss : List Sh) (cs : List Value) : Prop := ∃ xs, FitsL ss xs ∧ RV.relV w (old w) xs cs ∧ ∀ u ∈ cs, u.oneCell' = true
theorem good3_append {s1 s2 : List Sh} {c1 c2 : List Value} (h1 : Good3 w s1 c1) (h2 : Good3 w s2 c2) : Good3 w (s1 ++ s2) (c1 ++ c2) := by
  obtain ⟨x1, f1, r1, o1⟩ := h1
  obtain ⟨x2, f2, r2, o2⟩ := h2
  refine ⟨x1 ++ x2, fitsL_append f1 f2, RV.relV_append r1 r2, fun u hu => ?_⟩
  rcases List.mem_append.1 hu with hu | hu
  · exact o1 u hu
  · exact o2 u hu
theorem good3_length {ss : List Sh} {cs : List Value} (h : Good3 w ss cs) : cs.length = ss.length := by
  obtain ⟨xs, f, r, _⟩ := h
  rw [RV.relV_length r, fitsL_length f]
theorem trod_fits : ∀ (fuel n : Nat) (t : TypeId) (cs : List Value) (x : DataW H × List MemPlace) (ss : List Sh), DataW.trod enc P w base spare held fuel t cs = some x → shape P n t = some ss → Good3 w ss cs := by
  intro fuel
  induction fuel with
  | zero => intro n t cs x ss h; simp [DataW.trod] at h
  | succ fuel ih =>
    intro n t cs x ss h hs
    cases n with
    | zero => simp [shape] at hs
    | succ n =>
      unfold shape at hs
      split at hs
      · rename_i k ht
        injection hs with hs; subst hs
        obtain ⟨m, rfl, _, hw⟩ := DataW.trod_int ht h
        exact ⟨[.it k m], by simp only [FitsL, Fits]; exact ⟨_, [], rfl, ⟨m, rfl, hw⟩, rfl⟩, by simp only [RV.relV, RV.rel]; exact ⟨_, [], rfl, rfl, rfl⟩, by simp [Value.oneCell']⟩
      · rename_i ht
        injection hs with hs; subst hs
        obtain ⟨b, rfl, _⟩ := DataW.trod_bool ht h
        exact ⟨[.bo b], by simp only [FitsL, Fits]; exact ⟨_, [], rfl, ⟨b, rfl⟩, rfl⟩, by simp only [RV.relV, RV.rel]; exact ⟨_, [], rfl, rfl, rfl⟩, by simp [Value.oneCell']⟩
      · rename_i e ht
        split at hs
        · rename_i es hes
          split at hs
          · rename_i hc
            simp only [Bool.and_eq_true, beq_iff_eq, decide_eq_true_eq] at hc
            injection hs with hs; subst hs
            rcases DataW.trod_slice ht h with ⟨rfl, _⟩ | ⟨a, len, cap, elems, rest, m, hm, rfl, _, _, hlc, hcm, hel, hget, _⟩
            · refine ⟨[.sl es.length []], ?_, ?_, by simp [Value.oneCell']⟩
              · simp only [FitsL, Fits]
                exact ⟨_, [], rfl, ⟨[], rfl, by simp only [FitsE]⟩, rfl⟩
              · simp only [RV.relV, RV.rel]
                exact ⟨_, [], rfl, ⟨none, 0, rfl, Nat.le_refl _, Nat.zero_le _, fun h => absurd rfl h⟩, rfl⟩
            · injection hm with hm; subst hm
              have hall : ∀ i, i < len → ∃ e', FitsL es e' ∧ e'.length = es.length ∧ RV.relC w (old w) e' (a.add (i * es.length)) 0 ∧ a.block < w.heap.size := fun i hi => by
                have h1 := hget i hi
                have h2 : i < elems.length := by omega
                rw [List.getElem?_eq_getElem h2] at h1
                obtain ⟨ci, hci, htr⟩ := Option.bind_eq_some_iff.1 h1
                rw [← hc.1] at hci
                obtain ⟨hl, hcell⟩ := cells?_get hci
                obtain ⟨xs, f, r, o⟩ := ih n e ci _ es htr hes
                refine ⟨xs, f, fitsL_length f, relC_of_cells r o (fun j hj => hcell j (by omega)), ?_⟩
                have h3 := hcell 0 hc.2
                have h4 : 0 < ci.length := by omega
                rw [List.getElem?_eq_getElem h4] at h3
                have := cell_lt h3
                rwa [block_add, block_add] at this
              obtain ⟨els, hlen, hels⟩ := choice len hall
              refine ⟨[.sl es.length els], ?_, ?_, by simp [Value.oneCell']⟩
              · simp only [FitsL, Fits]
                refine ⟨_, [], rfl, ⟨els, rfl, fitsE_of fun e' he' => ?_⟩, rfl⟩
                obtain ⟨i, hi⟩ := List.getElem?_of_mem he'
                exact (hels i e' hi).1
              · simp only [RV.relV, RV.rel]
                refine ⟨_, [], rfl, ⟨some a, cap, by rw [hlen], by omega, hcm, fun hne => ?_⟩, rfl⟩
                obtain ⟨e0, he0⟩ : ∃ e0, els[0]? = some e0 := by
                  cases els with
                  | nil => exact absurd rfl hne
                  | cons a l => exact ⟨a, rfl⟩
                refine ⟨a, rfl, (hels 0 e0 he0).2.2.2, RV.relE_of_get fun i e' he' => ?_⟩
                obtain ⟨_, q1, q2, _⟩ := hels i e' he'
                exact ⟨q1, RV.relC_unbase _ q2⟩
          · cases hs
        · cases hs
      · rename_i m e ht
        split at hs
        · rename_i es hes
          split at hs
          · rename_i hc
            simp only [Bool.and_eq_true, beq_iff_eq] at hc
            injection hs with hs; subst hs
            obtain ⟨xs, fm, hm, _, hcl, hxl, hget⟩ := DataW.trod_array ht h
            injection hm with hm; subst hm
            have key : ∀ j, j ≤ m → Good3 w (List.replicate j es).flatten (cs.take (j * es.length)) := by
              intro j
              induction j with
              | zero => intro _; exact ⟨[], by simp [FitsL], by simp [RV.relV], by simp⟩
              | succ j ihj =>
                intro hj
                have h1 := hget j (by omega)
                have h2 : j < xs.length := by omega
                rw [List.getElem?_eq_getElem h2, ← hc.1] at h1
                have h3 := ih n e _ _ es h1 hes
                have := good3_append (ihj (by omega)) h3
                rw [← List.take_add] at this
                rw [List.replicate_succ', List.flatten_append, Nat.add_mul]
                simpa using this
            have := key m (Nat.le_refl _)
            rwa [← hc.2, ← hcl, List.take_length] at this
          · cases hs
        · cases hs
      · rename_i fs ht
        split at hs
        · rename_i q hq
          split at hs
          · rename_i hc
            simp only [beq_iff_eq] at hc
            injection hs with hs; subst hs
            obtain ⟨xs, fm, hm, _, hcl, hxl, hget⟩ := DataW.trod_struct ht h
            injection hm with hm; subst hm
            have key : ∀ (l : List Field) (o : Nat) (q : List Sh), (∀ f ∈ l, ∃ y, DataW.trod enc P w base spare held fuel f.type ((cs.drop f.offset).take (P.cellsOf f.type)) = some y) → fieldsSh P (shape P n) l o = some q → Good3 w q ((cs.drop o).take q.length) := by
              intro l
              induction l with
              | nil =>
                intro o q _ hq
                simp only [fieldsSh, Option.some.injEq] at hq
                subst hq
                exact ⟨[], by simp [FitsL], by simp [RV.relV], by simp⟩
              | cons f l ihl =>
                intro o q hall hq
                simp only [fieldsSh] at hq
                split at hq
                · rename_i s1 hs1
                  split at hq
                  · rename_i hc1
                    simp only [Bool.and_eq_true, beq_iff_eq] at hc1
                    split at hq
                    · rename_i q2 hq2
                      injection hq with hq; subst hq
                      obtain ⟨y, hy⟩ := hall f (by simp)
                      have g1 := ih n f.type _ _ s1 hy hs1
                      have g2 := ihl (o + s1.length) q2 (fun f' hf' => hall f' (by simp [hf'])) hq2
                      rw [hc1.1, ← hc1.2] at g1
                      have := good3_append g1 g2
                      rw [← List.drop_drop, ← List.take_add] at this
                      simpa using this
                    · cases hq
                  · cases hq
                · cases hq
            have := key fs.toList 0 q (fun f hf => by
              obtain ⟨i, hi⟩ := List.getElem?_of_mem hf
              have hi' : fs[i]? = some f := by simpa using hi
              have h1 := hget i f hi'
              have h2 : i < xs.length := by have := (Array.getElem?_eq_some_iff.1 hi').1; omega
              exact ⟨xs[i], by rw [h1]; exact List.getElem?_eq_getElem h2⟩) hq
            rwa [List.drop_zero, hc, ← hcl, List.take_length] at this
          · cases hs
        · cases hs
      · cases hs

/-- An argument of a type. -/
def FitsT (P : Program) (n : Nat) (t : TypeId) (x : RV) : Prop := ∃ ss, shape P n t = some ss ∧ if aggOf P t then ∃ xs, x = .ag xs ∧ FitsL ss xs else FitsL ss [x]
theorem arg_fits {n : Nat} {t : TypeId} {v : Value} {d : DataW H} {ps : List MemPlace} {r : Reach} {b0 : Nat} (hs : (shape P n t).isSome = true) (hval : Value.okWide P w r b0 t v) (h : DataW.Trod enc P w base spare held t v d ps) :
    ∃ x, FitsT P n t x ∧ x.rel w (old w) v := by
  obtain ⟨ss, hss⟩ := Option.isSome_iff_exists.1 hs
  obtain ⟨fuel, hf⟩ := h
  obtain ⟨xs, f, r, o⟩ := trod_fits fuel n t _ _ ss hf hss
  have one : aggOf P t = false → v.cells.toList = [v] → ∃ x, FitsT P n t x ∧ x.rel w (old w) v := fun ha hc => by
    rw [hc] at r
    match xs, r with
    | [x], r =>
      simp only [RV.relV] at r
      obtain ⟨u, us, e, hr, _⟩ := r
      injection e with e1 e2
      subst e1
      exact ⟨x, ⟨ss, hss, by rw [ha]; exact f⟩, hr⟩
    | [], r => simp [RV.relV] at r
    | _ :: _ :: _, r =>
      simp only [RV.relV] at r
      obtain ⟨u, us, e, _, u2, us2, e2, _⟩ := r
      injection e with _ e
      rw [e2] at e; cases e
  cases n with
  | zero => simp [shape] at hss
  | succ n =>
    have hss' := hss
    unfold shape at hss'
    split at hss'
    · rename_i k ht
      obtain ⟨m, rfl⟩ := okWide_int ht hval
      exact one (by simp [aggOf, ht]) rfl
    · rename_i ht
      obtain ⟨b, rfl⟩ := okWide_bool ht hval
      exact one (by simp [aggOf, ht]) rfl
    · rename_i e ht
      obtain ⟨a, l, c, rfl⟩ := okWide_slice ht hval
      exact one (by simp [aggOf, ht]) rfl
    · rename_i m e ht
      obtain ⟨cs, rfl⟩ : ∃ cs, v = .agg cs := by
        simp only [Value.okWide, ht] at hval
        obtain ⟨cs, h1, _⟩ := hval
        exact ⟨cs, h1⟩
      exact ⟨.ag xs, ⟨ss, hss, by simp only [aggOf, ht, if_true]; exact ⟨xs, rfl, f⟩⟩, by simp only [RV.rel]; exact ⟨cs, rfl, o, r⟩⟩
    · rename_i fs ht
      obtain ⟨cs, rfl, _⟩ := okWide_struct ht hval
      exact ⟨.ag xs, ⟨ss, hss, by simp only [aggOf, ht, if_true]; exact ⟨xs, rfl, f⟩⟩, by simp only [RV.rel]; exact ⟨cs, rfl, o, r⟩⟩
    · cases hss'

theorem wf_i64 {n : Int} (h : (Lit.int .i64 n).wf = true) : -9223372036854775808 ≤ n ∧ n ≤ 9223372036854775807 := by
  simp only [Lit.wf, Bool.and_eq_true, decide_eq_true_eq] at h
  have h1 : IntKind.min .i64 = -9223372036854775808 := by decide
  have h2 : IntKind.max .i64 = 9223372036854775807 := by decide
  rw [h1, h2] at h
  exact h
theorem fitsE_ints : ∀ {es : List (List RV)}, FitsE [.int .i64] es → ∃ l : List Int, es = l.map (fun x => [.it .i64 x]) ∧ ∀ x ∈ l, -9223372036854775808 ≤ x ∧ x ≤ 9223372036854775807
  | [], _ => ⟨[], rfl, by simp⟩
  | e :: es, h => by
    simp only [FitsE, FitsL, Fits] at h
    obtain ⟨⟨y, ys, rfl, ⟨n, rfl, hn⟩, rfl⟩, h⟩ := h
    obtain ⟨l, rfl, hl⟩ := fitsE_ints h
    refine ⟨n :: l, rfl, fun x hx => ?_⟩
    rcases List.mem_cons.1 hx with rfl | hx
    · exact wf_i64 hn
    · exact hl x hx
theorem fitsT_ag {n : Nat} {t : TypeId} {x : RV} {ss : List Sh} (h : FitsT P n t x) (hs : shape P n t = some ss) (ha : aggOf P t = true) : ∃ xs, x = .ag xs ∧ FitsL ss xs := by
  obtain ⟨s', h1, h2⟩ := h
  rw [hs] at h1; injection h1 with h1; subst h1
  rw [ha] at h2
  exact h2
theorem fitsT_one {n : Nat} {t : TypeId} {x : RV} {s : Sh} (h : FitsT P n t x) (hs : shape P n t = some [s]) (ha : aggOf P t = false) : Fits s x := by
  obtain ⟨s', h1, h2⟩ := h
  rw [hs] at h1; injection h1 with h1; subst h1
  rw [ha] at h2
  simp only [Bool.false_eq_true, if_false, FitsL] at h2
  obtain ⟨y, ys, e, h3, _⟩ := h2
  injection e with e1 e2
  subst e1
  exact h3
theorem fitsT_int {n : Nat} {t : TypeId} {x : RV} (h : FitsT P n t x) (hs : shape P n t = some [.int .i64]) (ha : aggOf P t = false) : ∃ m, x = .it .i64 m ∧ -9223372036854775808 ≤ m ∧ m ≤ 9223372036854775807 := by
  have := fitsT_one h hs ha
  simp only [Fits] at this
  obtain ⟨m, h1, h2⟩ := this
  exact ⟨m, h1, wf_i64 h2⟩
theorem fitsT_ints {n : Nat} {t : TypeId} {x : RV} (h : FitsT P n t x) (hs : shape P n t = some [.sl [.int .i64]]) (ha : aggOf P t = false) : ∃ l : List Int, x = .sl 1 (l.map (fun x => [.it .i64 x])) ∧ ∀ x ∈ l, -9223372036854775808 ≤ x ∧ x ≤ 9223372036854775807 := by
  have := fitsT_one h hs ha
  simp only [Fits] at this
  obtain ⟨es, h1, h2⟩ := this
  obtain ⟨l, rfl, hl⟩ := fitsE_ints h2
  exact ⟨l, h1, hl⟩
end
end Go.Oc

/- Arguments of the types of chapter 7. -/
namespace Go.Proofs.Ytgkejinoaommeaa
open Go Go.Oc
theorem fitsE_bed : ∀ {es : List (List RV)}, FitsE [.int .i64, .int .i64, .int .i64] es → ∃ l : List Bd, es = l.map bedR ∧ Wf l
  | [], _ => ⟨[], rfl, by simp [Wf]⟩
  | e :: es, h => by
    simp only [Oc.FitsE, Oc.FitsL, Oc.Fits] at h
    obtain ⟨⟨_, _, rfl, ⟨a, rfl, ha⟩, _, _, rfl, ⟨b, rfl, hb⟩, _, _, rfl, ⟨c, rfl, hc⟩, rfl⟩, h⟩ := h
    obtain ⟨l, rfl, hl⟩ := fitsE_bed h
    refine ⟨⟨a, b, c⟩ :: l, rfl, fun x hx => ?_⟩
    rcases List.mem_cons.1 hx with rfl | hx
    · exact ⟨wf_i64 ha, wf_i64 hb, wf_i64 hc⟩
    · exact hl x hx
theorem fitsE_aim : ∀ {es : List (List RV)}, FitsE [.int .i64, .sl [.int .i64, .int .i64, .int .i64]] es → ∃ l : List Am, es = l.map aimR ∧ ∀ a ∈ l, WfA a
  | [], _ => ⟨[], rfl, by simp⟩
  | e :: es, h => by
    simp only [Oc.FitsE, Oc.FitsL, Oc.Fits] at h
    obtain ⟨⟨_, _, rfl, ⟨a, rfl, ha⟩, _, _, rfl, ⟨q, rfl, hq⟩, rfl⟩, h⟩ := h
    obtain ⟨l, rfl, hl⟩ := fitsE_aim h
    obtain ⟨b, rfl, hb⟩ := fitsE_bed hq
    refine ⟨⟨a, b⟩ :: l, rfl, fun x hx => ?_⟩
    rcases List.mem_cons.1 hx with rfl | hx
    · exact ⟨wf_i64 ha, hb⟩
    · exact hl x hx
theorem fits24 {x : RV} (h : FitsT Try.prog 9 24 x) : ∃ d l, x = lawV d l ∧ WfL d l := by
  obtain ⟨xs, rfl, hx⟩ := fitsT_ag (ss := [.int .i64, .sl [.int .i64, .sl [.int .i64, .int .i64, .int .i64]]]) h (by kernel_rfl) (by kernel_rfl)
  simp only [Oc.FitsL, Oc.Fits] at hx
  obtain ⟨_, _, rfl, ⟨d, rfl, hd⟩, _, _, rfl, ⟨es, rfl, hes⟩, rfl⟩ := hx
  obtain ⟨l, rfl, hl⟩ := fitsE_aim hes
  exact ⟨d, l, rfl, wf_i64 hd, hl⟩
theorem fits36 {x : RV} (h : FitsT Try.prog 9 36 x) : ∃ a, x = aimV a ∧ WfA a := by
  obtain ⟨xs, rfl, hx⟩ := fitsT_ag (ss := [.int .i64, .sl [.int .i64, .int .i64, .int .i64]]) h (by kernel_rfl) (by kernel_rfl)
  simp only [Oc.FitsL, Oc.Fits] at hx
  obtain ⟨_, _, rfl, ⟨a, rfl, ha⟩, _, _, rfl, ⟨es, rfl, hes⟩, rfl⟩ := hx
  obtain ⟨l, rfl, hl⟩ := fitsE_bed hes
  exact ⟨⟨a, l⟩, rfl, wf_i64 ha, hl⟩
end Go.Proofs.Ytgkejinoaommeaa

/- The bounds of the small kinds of integers. -/
namespace Go.Oc
open Go Go.RowKit
theorem wf_u8 {n : Int} (h : (Lit.int .u8 n).wf = true) : 0 ≤ n ∧ n ≤ 255 := by
  simp only [Lit.wf, Bool.and_eq_true, decide_eq_true_eq] at h
  have h1 : IntKind.min .u8 = 0 := by decide
  have h2 : IntKind.max .u8 = 255 := by decide
  rw [h1, h2] at h
  exact h
theorem wf_u16 {n : Int} (h : (Lit.int .u16 n).wf = true) : 0 ≤ n ∧ n ≤ 65535 := by
  simp only [Lit.wf, Bool.and_eq_true, decide_eq_true_eq] at h
  have h1 : IntKind.min .u16 = 0 := by decide
  have h2 : IntKind.max .u16 = 65535 := by decide
  rw [h1, h2] at h
  exact h
theorem wf_u32 {n : Int} (h : (Lit.int .u32 n).wf = true) : 0 ≤ n ∧ n ≤ 4294967295 := by
  simp only [Lit.wf, Bool.and_eq_true, decide_eq_true_eq] at h
  have h1 : IntKind.min .u32 = 0 := by decide
  have h2 : IntKind.max .u32 = 4294967295 := by decide
  rw [h1, h2] at h
  exact h
theorem fitsE_u8 : ∀ {es : List (List RV)}, FitsE [.int .u8] es → ∃ l : List Int, es = l.map (fun x => [.it .u8 x]) ∧ ∀ x ∈ l, 0 ≤ x ∧ x ≤ 255
  | [], _ => ⟨[], rfl, by simp⟩
  | e :: es, h => by
    simp only [FitsE, FitsL, Fits] at h
    obtain ⟨⟨y, ys, rfl, ⟨n, rfl, hn⟩, rfl⟩, h⟩ := h
    obtain ⟨l, rfl, hl⟩ := fitsE_u8 h
    refine ⟨n :: l, rfl, fun x hx => ?_⟩
    rcases List.mem_cons.1 hx with rfl | hx
    · exact wf_u8 hn
    · exact hl x hx
theorem fitsE_u16 : ∀ {es : List (List RV)}, FitsE [.int .u16] es → ∃ l : List Int, es = l.map (fun x => [.it .u16 x]) ∧ ∀ x ∈ l, 0 ≤ x ∧ x ≤ 65535
  | [], _ => ⟨[], rfl, by simp⟩
  | e :: es, h => by
    simp only [FitsE, FitsL, Fits] at h
    obtain ⟨⟨y, ys, rfl, ⟨n, rfl, hn⟩, rfl⟩, h⟩ := h
    obtain ⟨l, rfl, hl⟩ := fitsE_u16 h
    refine ⟨n :: l, rfl, fun x hx => ?_⟩
    rcases List.mem_cons.1 hx with rfl | hx
    · exact wf_u16 hn
    · exact hl x hx
end Go.Oc

/- The law of two laws together returns true for all arguments of its types. -/
namespace Go.Proofs.Ytgkejinoaommeaa
open Go Go.Oc
theorem law11' {x0 x1 : RV} (h0 : FitsT Try.prog 9 24 x0) (h1 : FitsT Try.prog 9 24 x1) : ACalls Try.prog 11 [x0, x1] (.bo true) := by
  obtain ⟨d, l, rfl, hw⟩ := fits24 h0
  obtain ⟨e, m, rfl, hw2⟩ := fits24 h1
  exact pools_law d l e m hw hw2
end Go.Proofs.Ytgkejinoaommeaa


namespace Go.Proofs.Ytgkejinoaommeaa
open Go Go.Oc Go.ChangeShapes Go.WideShapes Go.RowKit
set_option linter.unusedVariables false
theorem own : ownKnob Try.prog.godebug = none := by kernel_rfl
theorem laidOut : laidOutB Try.prog = true := by kernel_rfl
set_option maxRecDepth 100000 in
theorem lifted (os : Os) (started : os.Started) (H : Type) (enc : TypeId × Value → H) :
    ReturnsInHanded {} Try.checked os 11 .any (Rows.throwPoolsSpec.pre6 enc Try.prog Try.f11 Rows.throwPoolsRow.domain false) (Rows.throwPoolsSpec.post enc Try.prog Try.f11 false true false false) := by
  refine returnsInHanded_of_change (C := Try.checked) own started (by kernel_rfl) Try.func11
    (ChangeSpec.witness6 (enc := enc) (C := Try.checked) false ⟨#[], #[.agg #[.int .i64 0, .slice none 0 0], .agg #[.int .i64 0, .slice none 0 0]], []⟩ 8 (by kernel_rfl) (by kernel_rfl) (by kernel_rfl) (by kernel_rfl)) ?_
  intro W base args ds gs before hval0 hW hcnd _
  have hval : ∀ (j : Nat) t v, Try.f11.params[j]? = some t → args[j]? = some v → Value.okWide Try.prog W .any base t v := hval0
  have hW' := hW
  obtain ⟨p, q, hA0, hV, rfl, hfz, hnd⟩ := hW
  have hA : DataW.TrodAll enc Try.prog W 0 (fun _ => true) true Try.f11.params.toList args.toList ds p := hA0
  rw [Try.params11] at hA hval
  obtain ⟨v0, vs0, d0, ds0, p0, q0, hargs, rfl, rfl, h0, r0⟩ := trodAll_cons hA
  obtain ⟨v1, vs1, d1, ds1, p1, q1, rfl, rfl, rfl, h1, r1⟩ := trodAll_cons r0
  obtain ⟨rfl, rfl, rfl⟩ := trodAll_nil r1
  obtain rfl : args = #[v0, v1] := by cases args; simp_all
  obtain ⟨rfl, rfl⟩ := trodVars_none hV
  have lt0 : ∀ x ∈ p0, x.block < W.heap.size := by obtain ⟨m, hm⟩ := h0; exact DataW.trod_lt m _ _ _ hm
  have lt1 : ∀ x ∈ p1, x.block < W.heap.size := by obtain ⟨m, hm⟩ := h1; exact DataW.trod_lt m _ _ _ hm
  obtain ⟨x0, g0, e0⟩ := arg_fits (n := 9) (by kernel_rfl) (hval 0 24 v0 rfl rfl) h0
  obtain ⟨x1, g1, e1⟩ := arg_fits (n := 9) (by kernel_rfl) (hval 1 24 v1 rfl rfl) h1
  clear hA0 hval0
  refine ((law11' g0 g1).2 W (old W) #[v0, v1] (fun _ h => h) (by simp only [RV.relV]; exact ⟨_, _, rfl, e0, _, _, rfl, e1, rfl⟩)).mono fun e W' he => ?_
  obtain ⟨v, R', rfl, bel, _, _, _, hr⟩ := he
  simp only [RV.rel] at hr
  subst hr
  exact ⟨_, rfl, _, _, _, [], _, [], hW', trodAll_mk1 (shut_bool Try.underlying4 _), (trodAll_cons_mk (Below.trod laidOut (by kernel_rfl) (of_decide_eq_true (by kernel_rfl)) h0 bel lt0) (trodAll_cons_mk (Below.trod laidOut (by kernel_rfl) (of_decide_eq_true (by kernel_rfl)) h1 bel lt1) trodAll_mk0)), rfl, bel.frame _, fun h => by cases h⟩
theorem over : Rows.throwPoolsRow.holds Try.pinned (OpenSpec.ofChange Rows.throwPoolsSpec) :=
  OpenClaim.holds_of_wide 11 Try.f11 rfl rfl rfl rfl rfl rfl rfl ⟨rfl, rfl, rfl, rfl, rfl⟩ rfl rfl rfl rfl rfl (by kernel_rfl) Try.func11 (by kernel_rfl)
    (of_decide_eq_true (by kernel_rfl)) (by unfold Func.isWrapper; first | (rw [if_pos (by decide +kernel)]; kernel_rfl) | (rw [if_neg (by decide +kernel)]; exact ⟨rfl, rfl⟩))
    (fun os started H enc _ => lifted os started H enc)
theorem throwPools_holds : Rows.ThrowPoolsSaid := over
#print axioms throwPools_holds
end Go.Proofs.Ytgkejinoaommeaa
