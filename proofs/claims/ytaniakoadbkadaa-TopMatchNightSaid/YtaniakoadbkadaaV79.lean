/- For every input the law of nights whose games are matches, 'TopMatchNight', returns true, and each argument reads afterwards as it read before; without conditions. -/
import Derived.Test.YtaniakoadbkadaaV78
import Derived.Test.YtaniakoadbkadaaV77
import Derived.Test.YtaniakoadbkadaaV76
import Derived.Test.YtaniakoadbkadaaV75
import Derived.ChangeShapes
import Derived.WideShapes
import Derived.OpenShut
import Derived.ShutString
import Derived.ChangeOld
import Derived.Carry
import Derived.Below
import Derived.Test.YtaniakoadbkadaaRows
import Derived.JoinedOf
/- The calls of the documents' examples return what the documents say: reckoned out. -/
namespace Go.Proofs.Ytaniakoadbkadaa
open Go Go.Oc
def fsL : List (FuncId × Nat) := [(9, 0), (23, 0), (43, 0), (44, 0), (67, 0), (68, 0), (69, 0), (70, 2), (77, 0), (78, 0), (79, 0), (80, 0), (81, 0), (83, 0), (18, 0), (35, 0), (34, 0), (61, 0)]
theorem fsL_ok : allOk Try.prog fsL = true := by kernel_rfl
theorem pubLeg_ok : ACalls Try.prog 9 [] (.bo true) := evalA_ok follows fsL_ok (k := 2000) (by kernel_rfl) (by kernel_rfl)
end Go.Proofs.Ytaniakoadbkadaa

/- A match of one set, by the program. -/
namespace Go.Proofs.Ytaniakoadbkadaa
open Go Go.Oc
set_option linter.unusedSimpArgs false
set_option linter.unusedVariables false
set_option maxRecDepth 8000
theorem lWithin1_ok (n a b : Int) : ACalls Try.prog 35 [i64 n, .rp [i64 a], .rp [i64 b]] (.bo (decide (n < a) || decide (b < n))) := by
  refine acalls_st (rs := [.bo (decide (n < a) || decide (b < n))]) [.tmp 4] Try.func35 rfl (by kernel_rfl) Try.ntmps35 rfl (by simp) rfl fun C vs => ?_
  repeat refine awp_seq ?_
  refine awp_reg (by kernel_rfl) fun K hK => ?_
  simp only [go_sem]
  (try simp (disch := omega) only [wrapI])
  repeat first | intro _ | refine ⟨(by omega), ?_⟩ | refine ⟨⟨by omega, by omega⟩, ?_⟩
  refine hK _ ?_
  clear hK K
  repeat refine awp_seq ?_
  refine awp_reg (by kernel_rfl) fun K hK => ?_
  simp only [go_sem]
  (try simp (disch := omega) only [wrapI])
  refine ⟨fun h => ?_, fun h => ?_⟩ <;>
  · repeat first | intro _ | refine ⟨(by omega), ?_⟩ | refine ⟨⟨by omega, by omega⟩, ?_⟩
    refine hK _ ?_
    clear hK K
    refine awp_ret ?_
    simp only [go_sem]
    try simp [h]
theorem lWithin_ok (a b : Int) (l : List Int) : ACalls Try.prog 18 [i64 a, i64 b, ints l] (.bo (withinL a b l)) := by
  refine acalls_st (rs := [.bo (withinL a b l)]) [.tmp 6] Try.func18 rfl (by kernel_rfl) Try.ntmps18 rfl (by simp) rfl fun C vs => ?_
  repeat refine awp_seq ?_
  refine awp_reg (by kernel_rfl) fun K hK => ?_
  simp only [go_sem]
  (try simp (disch := omega) only [wrapI])
  repeat first | intro _ | refine ⟨(by omega), ?_⟩ | refine ⟨⟨by omega, by omega⟩, ?_⟩
  refine hK _ ?_
  clear hK K
  repeat refine awp_seq ?_
  refine awp_reg (by kernel_rfl) fun K hK => ?_
  simp only [go_sem]
  (try simp (disch := omega) only [wrapI])
  refine xcall_eq (contains_ok (fun n => decide (n < a) || decide (b < n)) 35 [.rp [i64 a], .rp [i64 b]] l fun x _ => lWithin1_ok x a b) rfl (by simp only [go_sem, i64, ints]) (by simp only [go_sem, i64, ints]) (by first | exact .inl rfl | exact .inr rfl) ?_
  (try simp only [go_sem])
  (try simp (disch := omega) only [wrapI])
  repeat first | intro _ | refine ⟨(by omega), ?_⟩ | refine ⟨⟨by omega, by omega⟩, ?_⟩
  refine hK _ ?_
  clear hK K
  refine awp_ret ?_
  simp only [go_sem]
  rw [← withinL_not]
/-- A match: what it has of legs and sets, who throws first, who has won. -/
structure Sc where
  s0 : Int
  s1 : Int
  l0 : Int
  l1 : Int
  fi : Int
  wi : Int
abbrev scC (x : Sc) : List RV := [i64 x.s0, i64 x.s1, i64 x.l0, i64 x.l1, i64 x.fi, i64 x.wi]
abbrev maC (L f : Int) : List RV := [i64 L, i64 1, i64 1, i64 0, i64 f]
abbrev matchC (L f : Int) (x : Sc) (st : Int) : List RV := [i64 L, i64 1, i64 1, i64 0, i64 f, i64 x.s0, i64 x.s1, i64 x.l0, i64 x.l1, i64 x.fi, i64 x.wi, i64 st]
abbrev matchA (L f : Int) (x : Sc) (st : Int) : List AV := [.r (i64 L), .r (i64 1), .r (i64 1), .r (i64 0), .r (i64 f), .r (i64 x.s0), .r (i64 x.s1), .r (i64 x.l0), .r (i64 x.l1), .r (i64 x.fi), .r (i64 x.wi), .r (i64 st)]
theorem isMatch_ok (L f : Int) (hL : 1 ≤ L ∧ L ≤ 15) (hf : f = 0 ∨ f = 1) : ACalls Try.prog 17 [.ag (maC L f)] (.bo true) := by
  have w1 : withinL 1 25 [L] = true := by simp [withinL]; omega
  have w2 : withinL 1 25 [1] = true := by decide
  have w3 : withinL 1 2 [1] = true := by decide
  have w4 : withinL 0 25 [0] = true := by decide
  have w5 : withinL 0 1 [f] = true := by simp [withinL]; omega
  refine acalls_st (rs := [.bo true]) [.tmp 2] Try.func17 rfl (by kernel_rfl) Try.ntmps17 rfl (by simp) rfl fun C vs => ?_
  repeat refine awp_seq ?_
  refine awp_reg (by kernel_rfl) fun K hK => ?_
  simp only [go_sem]
  (try simp (disch := omega) only [wrapI])
  repeat first | intro _ | refine ⟨(by omega), ?_⟩ | refine ⟨⟨by omega, by omega⟩, ?_⟩
  refine hK _ ?_
  clear hK K
  refine awp_sub (sub_keep [1]) ?_
  simp only [go_sem]
  repeat refine awp_seq ?_
  refine awp_reg (by kernel_rfl) fun K hK => ?_
  simp only [go_sem]
  (try simp (disch := omega) only [wrapI])
  refine xcall_eq (lWithin_ok 1 25 [L]) rfl (by simp only [go_sem, i64, ints, w1]) (by simp only [go_sem, i64, ints, w1]) (by first | exact .inl rfl | exact .inr rfl) ?_
  (try simp only [go_sem, w1])
  (try simp (disch := omega) only [wrapI])
  refine xcall_eq (lWithin_ok 1 25 [1]) rfl (by simp only [go_sem, i64, ints, w2]) (by simp only [go_sem, i64, ints, w2]) (by first | exact .inl rfl | exact .inr rfl) ?_
  (try simp only [go_sem, w2])
  (try simp (disch := omega) only [wrapI])
  refine xcall_eq (lWithin_ok 1 2 [1]) rfl (by simp only [go_sem, i64, ints, w3]) (by simp only [go_sem, i64, ints, w3]) (by first | exact .inl rfl | exact .inr rfl) ?_
  (try simp only [go_sem, w3])
  (try simp (disch := omega) only [wrapI])
  refine xcall_eq (lWithin_ok 0 25 [0]) rfl (by simp only [go_sem, i64, ints, w4]) (by simp only [go_sem, i64, ints, w4]) (by first | exact .inl rfl | exact .inr rfl) ?_
  (try simp only [go_sem, w4])
  (try simp (disch := omega) only [wrapI])
  refine xcall_eq (lWithin_ok 0 1 [f]) rfl (by simp only [go_sem, i64, ints, w5]) (by simp only [go_sem, i64, ints, w5]) (by first | exact .inl rfl | exact .inr rfl) ?_
  (try simp only [go_sem, w5])
  (try simp (disch := omega) only [wrapI])
  repeat first | intro _ | refine ⟨(by omega), ?_⟩ | refine ⟨⟨by omega, by omega⟩, ?_⟩
  refine hK _ ?_
  clear hK K
  refine awp_ret ?_
  simp only [go_sem]
theorem isLast_ok (L f : Int) (x : Sc) (st : Int) (h0 : x.s0 = 0) (h1 : x.s1 = 0) : ACalls Try.prog 62 [.rp (matchC L f x st)] (.bo true) := by
  refine acalls_st (rs := [.bo true]) [.tmp 2] Try.func62 rfl (by kernel_rfl) Try.ntmps62 rfl (by simp) rfl fun C vs => ?_
  repeat refine awp_seq ?_
  refine awp_reg (by kernel_rfl) fun K hK => ?_
  simp only [go_sem]
  (try simp (disch := omega) only [wrapI])
  repeat first | intro _ | refine ⟨(by omega), ?_⟩ | refine ⟨⟨by omega, by omega⟩, ?_⟩
  refine hK _ ?_
  clear hK K
  refine awp_sub (sub_keep [0]) ?_
  simp only [go_sem]
  repeat refine awp_seq ?_
  refine awp_dreg follows (by decide +kernel) (by kernel_rfl) fun K hK => ?_
  simp only [go_sem, h0, h1]
  (try simp (disch := omega) only [wrapI])
  repeat first | intro _ | refine ⟨(by omega), ?_⟩ | refine ⟨⟨by omega, by omega⟩, ?_⟩
  refine hK _ ?_
  clear hK K
  refine awp_ret ?_
  simp only [go_sem]
  simp [h0, h1]
theorem hasSet0_ok (L f : Int) (x : Sc) (st : Int) (hL : 1 ≤ L ∧ L ≤ 15) (h0 : x.s0 = 0) (h1 : x.s1 = 0) (hm : 0 ≤ x.l0 ∧ x.l0 ≤ L) (hy : 0 ≤ x.l1 ∧ x.l1 < L) : ACalls Try.prog 36 [.rp (matchC L f x st), i64 0] (.bo (decide (x.l0 = L))) := by
  refine acalls_st (rs := [.bo (decide (x.l0 = L))]) [.tmp 4] Try.func36 rfl (by kernel_rfl) Try.ntmps36 rfl (by simp) rfl fun C vs => ?_
  repeat refine awp_seq ?_
  refine awp_reg (by kernel_rfl) fun K hK => ?_
  simp only [go_sem]
  (try simp (disch := omega) only [wrapI])
  repeat first | intro _ | refine ⟨(by omega), ?_⟩ | refine ⟨⟨by omega, by omega⟩, ?_⟩
  refine hK _ ?_
  clear hK K
  refine awp_sub (sub_keep [0, 1]) ?_
  simp only [go_sem]
  repeat refine awp_seq ?_
  refine awp_dreg follows (by decide +kernel) (by kernel_rfl) fun K hK => ?_
  simp only [go_sem]
  (try simp (disch := omega) only [wrapI])
  repeat first | intro _ | refine ⟨(by omega), ?_⟩ | refine ⟨⟨by omega, by omega⟩, ?_⟩
  refine hK _ ?_
  clear hK K
  refine awp_sub (sub_keep [0, 5, 6]) ?_
  simp only [go_sem]
  repeat refine awp_seq ?_
  refine awp_block ?_
  repeat refine awp_seq ?_
  refine awp_reg (by kernel_rfl) fun K hK => ?_
  simp only [go_sem]
  (try simp (disch := omega) only [wrapI])
  repeat first | intro _ | refine ⟨(by omega), ?_⟩ | refine ⟨⟨by omega, by omega⟩, ?_⟩
  refine hK _ ?_
  clear hK K
  refine awp_sub (sub_keep [0, 5, 6, 22]) ?_
  simp only [go_sem]
  by_cases hc0 : x.l0 < L
  · have e : decide (x.l0 < L) = true := by simp [hc0]
    rw [e]
    repeat refine awp_seq ?_
    refine awp_cond rfl (fun hc => ?_) (fun hc => ?_) <;> (try simp only [go_sem] at hc)
    repeat refine awp_seq ?_
    refine awp_reg (by kernel_rfl) fun K hK => ?_
    simp only [go_sem]
    (try simp (disch := omega) only [wrapI])
    repeat first | intro _ | refine ⟨(by omega), ?_⟩ | refine ⟨⟨by omega, by omega⟩, ?_⟩
    refine hK _ ?_
    clear hK K
    refine awp_ret ?_
    simp only [go_sem]
    simp; omega
  · have e : decide (x.l0 < L) = false := by simp [hc0]
    have e2 : decide (1 ≤ x.l0 - x.l1) = true := by simp; omega
    rw [e]
    repeat refine awp_seq ?_
    refine awp_cond rfl (fun hc => ?_) (fun hc => ?_) <;> (try simp only [go_sem] at hc)
    repeat refine awp_seq ?_
    refine awp_reg (by kernel_rfl) fun K hK => ?_
    simp only [go_sem]
    (try simp (disch := omega) only [wrapI])
    refine xcall_eq (isLast_ok L f x st h0 h1) rfl (by simp only [go_sem, i64, ints]) (by simp only [go_sem, i64, ints]) (by first | exact .inl rfl | exact .inr rfl) ?_
    (try simp only [go_sem])
    (try simp (disch := omega) only [wrapI])
    repeat first | intro _ | refine ⟨(by omega), ?_⟩ | refine ⟨⟨by omega, by omega⟩, ?_⟩
    refine hK _ ?_
    clear hK K
    repeat refine awp_seq ?_
    refine awp_cond rfl (fun hc => ?_) (fun hc => ?_) <;> (try simp only [go_sem] at hc)
    repeat refine awp_seq ?_
    refine awp_dreg follows (by decide +kernel) (by kernel_rfl) fun K hK => ?_
    simp only [go_sem, e2]
    (try simp (disch := omega) only [wrapI])
    repeat first | intro _ | refine ⟨(by omega), ?_⟩ | refine ⟨⟨by omega, by omega⟩, ?_⟩
    refine hK _ ?_
    clear hK K
    refine awp_ret ?_
    simp only [go_sem]
    simp; omega
theorem hasSet1_ok (L f : Int) (x : Sc) (st : Int) (hL : 1 ≤ L ∧ L ≤ 15) (h0 : x.s0 = 0) (h1 : x.s1 = 0) (hm : 0 ≤ x.l1 ∧ x.l1 ≤ L) (hy : 0 ≤ x.l0 ∧ x.l0 < L) : ACalls Try.prog 36 [.rp (matchC L f x st), i64 1] (.bo (decide (x.l1 = L))) := by
  refine acalls_st (rs := [.bo (decide (x.l1 = L))]) [.tmp 4] Try.func36 rfl (by kernel_rfl) Try.ntmps36 rfl (by simp) rfl fun C vs => ?_
  repeat refine awp_seq ?_
  refine awp_reg (by kernel_rfl) fun K hK => ?_
  simp only [go_sem]
  (try simp (disch := omega) only [wrapI])
  repeat first | intro _ | refine ⟨(by omega), ?_⟩ | refine ⟨⟨by omega, by omega⟩, ?_⟩
  refine hK _ ?_
  clear hK K
  refine awp_sub (sub_keep [0, 1]) ?_
  simp only [go_sem]
  repeat refine awp_seq ?_
  refine awp_dreg follows (by decide +kernel) (by kernel_rfl) fun K hK => ?_
  simp only [go_sem]
  (try simp (disch := omega) only [wrapI])
  repeat first | intro _ | refine ⟨(by omega), ?_⟩ | refine ⟨⟨by omega, by omega⟩, ?_⟩
  refine hK _ ?_
  clear hK K
  refine awp_sub (sub_keep [0, 5, 6]) ?_
  simp only [go_sem]
  repeat refine awp_seq ?_
  refine awp_block ?_
  repeat refine awp_seq ?_
  refine awp_reg (by kernel_rfl) fun K hK => ?_
  simp only [go_sem]
  (try simp (disch := omega) only [wrapI])
  repeat first | intro _ | refine ⟨(by omega), ?_⟩ | refine ⟨⟨by omega, by omega⟩, ?_⟩
  refine hK _ ?_
  clear hK K
  refine awp_sub (sub_keep [0, 5, 6, 22]) ?_
  simp only [go_sem]
  by_cases hc0 : x.l1 < L
  · have e : decide (x.l1 < L) = true := by simp [hc0]
    rw [e]
    repeat refine awp_seq ?_
    refine awp_cond rfl (fun hc => ?_) (fun hc => ?_) <;> (try simp only [go_sem] at hc)
    repeat refine awp_seq ?_
    refine awp_reg (by kernel_rfl) fun K hK => ?_
    simp only [go_sem]
    (try simp (disch := omega) only [wrapI])
    repeat first | intro _ | refine ⟨(by omega), ?_⟩ | refine ⟨⟨by omega, by omega⟩, ?_⟩
    refine hK _ ?_
    clear hK K
    refine awp_ret ?_
    simp only [go_sem]
    simp; omega
  · have e : decide (x.l1 < L) = false := by simp [hc0]
    have e2 : decide (1 ≤ x.l1 - x.l0) = true := by simp; omega
    rw [e]
    repeat refine awp_seq ?_
    refine awp_cond rfl (fun hc => ?_) (fun hc => ?_) <;> (try simp only [go_sem] at hc)
    repeat refine awp_seq ?_
    refine awp_reg (by kernel_rfl) fun K hK => ?_
    simp only [go_sem]
    (try simp (disch := omega) only [wrapI])
    refine xcall_eq (isLast_ok L f x st h0 h1) rfl (by simp only [go_sem, i64, ints]) (by simp only [go_sem, i64, ints]) (by first | exact .inl rfl | exact .inr rfl) ?_
    (try simp only [go_sem])
    (try simp (disch := omega) only [wrapI])
    repeat first | intro _ | refine ⟨(by omega), ?_⟩ | refine ⟨⟨by omega, by omega⟩, ?_⟩
    refine hK _ ?_
    clear hK K
    repeat refine awp_seq ?_
    refine awp_cond rfl (fun hc => ?_) (fun hc => ?_) <;> (try simp only [go_sem] at hc)
    repeat refine awp_seq ?_
    refine awp_dreg follows (by decide +kernel) (by kernel_rfl) fun K hK => ?_
    simp only [go_sem, e2]
    (try simp (disch := omega) only [wrapI])
    repeat first | intro _ | refine ⟨(by omega), ?_⟩ | refine ⟨⟨by omega, by omega⟩, ?_⟩
    refine hK _ ?_
    clear hK K
    refine awp_ret ?_
    simp only [go_sem]
    simp; omega
end Go.Proofs.Ytaniakoadbkadaa

/- A leg of a match of one set. -/
namespace Go.Proofs.Ytaniakoadbkadaa
open Go Go.Oc
set_option linter.unusedSimpArgs false
set_option linter.unusedVariables false
set_option maxRecDepth 8000
def addX (L p : Int) (x : Sc) : Sc :=
  if p = 0 then (if x.l0 + 1 = L then ⟨1, 0, x.l0 + 1, x.l1, -1, 0⟩ else ⟨0, 0, x.l0 + 1, x.l1, 1 - x.fi, -1⟩)
  else (if x.l1 + 1 = L then ⟨0, 1, x.l0, x.l1 + 1, -1, 1⟩ else ⟨0, 0, x.l0, x.l1 + 1, 1 - x.fi, -1⟩)
theorem add0_ok (L f l0 l1 fi st : Int) (hL : 1 ≤ L ∧ L ≤ 15) (h0 : 0 ≤ l0 ∧ l0 < L) (h1 : 0 ≤ l1 ∧ l1 < L) (hfi : 0 ≤ fi ∧ fi ≤ 1) :
    MCalls Try.prog 19 [(1000, .box (matchA L f ⟨0, 0, l0, l1, fi, -1⟩ st))] [(1000, .box (matchA L f (addX L 0 ⟨0, 0, l0, l1, fi, -1⟩) st))] [.pt 1000 0 0, .r (i64 0)] (.tu []) := by
  refine mcalls_st (n := 85) (rs := []) _ _ [] Try.func19 rfl (by kernel_rfl) Try.ntmps19 rfl (by simp) rfl rfl fun C => ?_
  repeat refine awp_seq ?_
  refine awp_dreg follows (by decide +kernel) (by kernel_rfl) fun K hK => ?_
  simp only [go_sem]
  (try simp (disch := omega) only [wrapI])
  repeat first | intro _ | refine ⟨(by omega), ?_⟩ | refine ⟨⟨by omega, by omega⟩, ?_⟩
  refine hK _ ?_
  clear hK K
  try simp only [go_sem]
  repeat refine awp_seq ?_
  refine awp_reg (by kernel_rfl) fun K hK => ?_
  simp only [go_sem]
  (try simp (disch := omega) only [wrapI])
  repeat first | intro _ | refine ⟨(by omega), ?_⟩ | refine ⟨⟨by omega, by omega⟩, ?_⟩
  refine hK _ ?_
  clear hK K
  try simp only [go_sem]
  repeat refine awp_seq ?_
  refine awp_reg (by kernel_rfl) fun K hK => ?_
  simp only [go_sem]
  (try simp (disch := omega) only [wrapI])
  refine xcall_eq (hasSet0_ok L f ⟨0, 0, l0 + 1, l1, 1 - fi, -1⟩ st hL rfl rfl (by simp only; omega) (by simp only; omega)) rfl (by simp only [go_sem, i64, ints]) (by simp only [go_sem, i64, ints]) (by first | exact .inl rfl | exact .inr rfl) ?_
  (try simp only [go_sem])
  (try simp (disch := omega) only [wrapI])
  repeat first | intro _ | refine ⟨(by omega), ?_⟩ | refine ⟨⟨by omega, by omega⟩, ?_⟩
  refine hK _ ?_
  clear hK K
  by_cases hc0 : l0 + 1 = L
  · have e : decide (l0 + 1 = L) = true := by simp [hc0]
    rw [e]
    repeat refine awp_seq ?_
    refine awp_cond rfl (fun hc => ?_) (fun hc => ?_) <;> (try simp only [go_sem] at hc)
    refine awp_skip ?_
    try simp only [go_sem]
    repeat refine awp_seq ?_
    refine awp_dreg follows (by decide +kernel) (by kernel_rfl) fun K hK => ?_
    simp only [go_sem]
    (try simp (disch := omega) only [wrapI])
    repeat first | intro _ | refine ⟨(by omega), ?_⟩ | refine ⟨⟨by omega, by omega⟩, ?_⟩
    refine hK _ ?_
    clear hK K
    try simp only [go_sem]
    repeat refine awp_seq ?_
    refine awp_dreg follows (by decide +kernel) (by kernel_rfl) fun K hK => ?_
    simp only [go_sem]
    (try simp (disch := omega) only [wrapI])
    repeat first | intro _ | refine ⟨(by omega), ?_⟩ | refine ⟨⟨by omega, by omega⟩, ?_⟩
    refine hK _ ?_
    clear hK K
    repeat refine awp_seq ?_
    refine awp_cond rfl (fun hc => ?_) (fun hc => ?_) <;> (try simp only [go_sem] at hc)
    repeat refine awp_seq ?_
    refine awp_reg (by kernel_rfl) fun K hK => ?_
    simp only [go_sem]
    (try simp (disch := omega) only [wrapI])
    repeat first | intro _ | refine ⟨(by omega), ?_⟩ | refine ⟨⟨by omega, by omega⟩, ?_⟩
    refine hK _ ?_
    clear hK K
    all_goals (refine awp_ret ?_; simp only [go_sem])
    all_goals simp [addX, hc0]
  · have e : decide (l0 + 1 = L) = false := by simp [hc0]
    rw [e]
    repeat refine awp_seq ?_
    refine awp_cond rfl (fun hc => ?_) (fun hc => ?_) <;> (try simp only [go_sem] at hc)
    all_goals (refine awp_ret ?_; simp only [go_sem])
    all_goals simp [addX, hc0]
theorem add1_ok (L f l0 l1 fi st : Int) (hL : 1 ≤ L ∧ L ≤ 15) (h0 : 0 ≤ l0 ∧ l0 < L) (h1 : 0 ≤ l1 ∧ l1 < L) (hfi : 0 ≤ fi ∧ fi ≤ 1) :
    MCalls Try.prog 19 [(1000, .box (matchA L f ⟨0, 0, l0, l1, fi, -1⟩ st))] [(1000, .box (matchA L f (addX L 1 ⟨0, 0, l0, l1, fi, -1⟩) st))] [.pt 1000 0 0, .r (i64 1)] (.tu []) := by
  refine mcalls_st (n := 85) (rs := []) _ _ [] Try.func19 rfl (by kernel_rfl) Try.ntmps19 rfl (by simp) rfl rfl fun C => ?_
  repeat refine awp_seq ?_
  refine awp_dreg follows (by decide +kernel) (by kernel_rfl) fun K hK => ?_
  simp only [go_sem]
  (try simp (disch := omega) only [wrapI])
  repeat first | intro _ | refine ⟨(by omega), ?_⟩ | refine ⟨⟨by omega, by omega⟩, ?_⟩
  refine hK _ ?_
  clear hK K
  try simp only [go_sem]
  repeat refine awp_seq ?_
  refine awp_reg (by kernel_rfl) fun K hK => ?_
  simp only [go_sem]
  (try simp (disch := omega) only [wrapI])
  repeat first | intro _ | refine ⟨(by omega), ?_⟩ | refine ⟨⟨by omega, by omega⟩, ?_⟩
  refine hK _ ?_
  clear hK K
  try simp only [go_sem]
  repeat refine awp_seq ?_
  refine awp_reg (by kernel_rfl) fun K hK => ?_
  simp only [go_sem]
  (try simp (disch := omega) only [wrapI])
  refine xcall_eq (hasSet1_ok L f ⟨0, 0, l0, l1 + 1, 1 - fi, -1⟩ st hL rfl rfl (by simp only; omega) (by simp only; omega)) rfl (by simp only [go_sem, i64, ints]) (by simp only [go_sem, i64, ints]) (by first | exact .inl rfl | exact .inr rfl) ?_
  (try simp only [go_sem])
  (try simp (disch := omega) only [wrapI])
  repeat first | intro _ | refine ⟨(by omega), ?_⟩ | refine ⟨⟨by omega, by omega⟩, ?_⟩
  refine hK _ ?_
  clear hK K
  by_cases hc0 : l1 + 1 = L
  · have e : decide (l1 + 1 = L) = true := by simp [hc0]
    rw [e]
    repeat refine awp_seq ?_
    refine awp_cond rfl (fun hc => ?_) (fun hc => ?_) <;> (try simp only [go_sem] at hc)
    refine awp_skip ?_
    try simp only [go_sem]
    repeat refine awp_seq ?_
    refine awp_dreg follows (by decide +kernel) (by kernel_rfl) fun K hK => ?_
    simp only [go_sem]
    (try simp (disch := omega) only [wrapI])
    repeat first | intro _ | refine ⟨(by omega), ?_⟩ | refine ⟨⟨by omega, by omega⟩, ?_⟩
    refine hK _ ?_
    clear hK K
    try simp only [go_sem]
    repeat refine awp_seq ?_
    refine awp_dreg follows (by decide +kernel) (by kernel_rfl) fun K hK => ?_
    simp only [go_sem]
    (try simp (disch := omega) only [wrapI])
    repeat first | intro _ | refine ⟨(by omega), ?_⟩ | refine ⟨⟨by omega, by omega⟩, ?_⟩
    refine hK _ ?_
    clear hK K
    repeat refine awp_seq ?_
    refine awp_cond rfl (fun hc => ?_) (fun hc => ?_) <;> (try simp only [go_sem] at hc)
    repeat refine awp_seq ?_
    refine awp_reg (by kernel_rfl) fun K hK => ?_
    simp only [go_sem]
    (try simp (disch := omega) only [wrapI])
    repeat first | intro _ | refine ⟨(by omega), ?_⟩ | refine ⟨⟨by omega, by omega⟩, ?_⟩
    refine hK _ ?_
    clear hK K
    all_goals (refine awp_ret ?_; simp only [go_sem])
    all_goals simp [addX, hc0]
  · have e : decide (l1 + 1 = L) = false := by simp [hc0]
    rw [e]
    repeat refine awp_seq ?_
    refine awp_cond rfl (fun hc => ?_) (fun hc => ?_) <;> (try simp only [go_sem] at hc)
    all_goals (refine awp_ret ?_; simp only [go_sem])
    all_goals simp [addX, hc0]
end Go.Proofs.Ytaniakoadbkadaa

/- A match of one set after legs, by the program. -/
namespace Go.Proofs.Ytaniakoadbkadaa
open Go Go.Oc
set_option linter.unusedSimpArgs false
set_option linter.unusedVariables false
set_option maxRecDepth 8000
def startX (f : Int) : Sc := ⟨0, 0, 0, 0, f, -1⟩
def playX (L f : Int) (ws : List Int) : Sc := ws.foldl (fun x p => addX L p x) (startX f)
def goV (L : Int) : Sc → Nat → List Int → Sc × Int × Int
  | x, _, [] => (x, 0, 0)
  | x, i, p :: ws => if 0 ≤ x.wi then (⟨0, 0, 0, 0, 0, 0⟩, i, 33) else goV L (addX L p x) (i + 1) ws
def matchV (L f : Int) (ws : List Int) : Sc × Int × Int := goV L (startX f) 0 ws
def OpenX (L : Int) (x : Sc) : Prop := x.s0 = 0 ∧ x.s1 = 0 ∧ (0 ≤ x.l0 ∧ x.l0 < L) ∧ (0 ≤ x.l1 ∧ x.l1 < L) ∧ (0 ≤ x.fi ∧ x.fi ≤ 1) ∧ x.wi = -1
def OkX (L : Int) (x : Sc) : Prop := 0 ≤ x.wi ∨ OpenX L x
theorem startX_ok {L f : Int} (hL : 1 ≤ L) (hf : 0 ≤ f ∧ f ≤ 1) : OpenX L (startX f) := by
  refine ⟨rfl, rfl, ⟨Int.le_refl _, ?_⟩, ⟨Int.le_refl _, ?_⟩, hf, rfl⟩
  · show (0 : Int) < L; omega
  · show (0 : Int) < L; omega
theorem addX_ok {L p : Int} {x : Sc} (h : OpenX L x) : OkX L (addX L p x) := by
  obtain ⟨h1, h2, h3, h4, h5, h6⟩ := h
  unfold addX
  split <;> split
  · exact .inl (by show (0 : Int) ≤ 0; omega)
  · refine .inr ⟨rfl, rfl, ?_, h4, ?_, rfl⟩
    · show 0 ≤ x.l0 + 1 ∧ x.l0 + 1 < L; omega
    · show 0 ≤ 1 - x.fi ∧ 1 - x.fi ≤ 1; omega
  · exact .inl (by show (0 : Int) ≤ 1; omega)
  · refine .inr ⟨rfl, rfl, h3, ?_, ?_, rfl⟩
    · show 0 ≤ x.l1 + 1 ∧ x.l1 + 1 < L; omega
    · show 0 ≤ 1 - x.fi ∧ 1 - x.fi ≤ 1; omega
theorem playX_snoc (L f : Int) (ws : List Int) (p : Int) : playX L f (ws ++ [p]) = addX L p (playX L f ws) := by simp [playX]
theorem open_eq {L : Int} {x : Sc} (h : OpenX L x) : x = ⟨0, 0, x.l0, x.l1, x.fi, -1⟩ := by
  obtain ⟨h1, h2, _, _, _, h6⟩ := h
  cases x
  simp only at h1 h2 h6
  subst h1 h2 h6
  rfl
theorem add_ok_any (L f st : Int) (x : Sc) (p : Int) (hL : 1 ≤ L ∧ L ≤ 15) (hx : OpenX L x) (hp : p = 0 ∨ p = 1) :
    MCalls Try.prog 19 [(1000, .box (matchA L f x st))] [(1000, .box (matchA L f (addX L p x) st))] [.pt 1000 0 0, .r (i64 p)] (.tu []) := by
  have e := open_eq hx
  obtain ⟨_, _, h3, h4, h5, _⟩ := hx
  generalize x.l0 = a at *
  generalize x.l1 = b at *
  generalize x.fi = c at *
  subst e
  rcases hp with rfl | rfl
  · exact add0_ok L f a b c st hL h3 h4 h5
  · exact add1_ok L f a b c st hL h3 h4 h5
theorem match_ok (L f : Int) (ws : List Int) (hL : 1 ≤ L ∧ L ≤ 15) (hf : f = 0 ∨ f = 1) (hw : ∀ p ∈ ws, p = 0 ∨ p = 1) :
    ACalls Try.prog 7 [.ag (maC L f), ints ws] (.tu [.ag (scC (matchV L f ws).1), i64 (matchV L f ws).2.1, i64 (matchV L f ws).2.2]) := by
  have hf2 : 0 ≤ f ∧ f ≤ 1 := by omega
  refine acalls_st (rs := [.ag (scC (matchV L f ws).1), i64 (matchV L f ws).2.1, i64 (matchV L f ws).2.2]) [.cell 4 36, .tmp 5, .tmp 6] Try.func7 rfl (by kernel_rfl) Try.ntmps7 rfl (by simp) rfl fun C vs => ?_
  repeat refine awp_seq ?_
  refine awp_reg (by kernel_rfl) fun K hK => ?_
  simp only [go_sem]
  (try simp (disch := omega) only [wrapI])
  repeat first | intro _ | refine ⟨(by omega), ?_⟩ | refine ⟨⟨by omega, by omega⟩, ?_⟩
  refine hK _ ?_
  clear hK K
  refine awp_sub (sub_keep [1, 2, 4]) ?_
  simp only [go_sem]
  repeat refine awp_seq ?_
  refine awp_reg (by kernel_rfl) fun K hK => ?_
  simp only [go_sem]
  (try simp (disch := omega) only [wrapI])
  refine xcall_eq (isMatch_ok L f hL hf) rfl (by simp only [go_sem, i64, ints]) (by simp only [go_sem, i64, ints]) (by first | exact .inl rfl | exact .inr rfl) ?_
  (try simp only [go_sem])
  (try simp (disch := omega) only [wrapI])
  repeat first | intro _ | refine ⟨(by omega), ?_⟩ | refine ⟨⟨by omega, by omega⟩, ?_⟩
  refine hK _ ?_
  clear hK K
  refine awp_sub (sub_keep [1, 2, 4, 12]) ?_
  simp only [go_sem]
  repeat refine awp_seq ?_
  refine awp_cond rfl (fun hc => ?_) (fun hc => ?_) <;> (try simp only [go_sem] at hc)
  refine awp_skip ?_
  try simp only [go_sem]
  repeat refine awp_seq ?_
  refine awp_reg (by kernel_rfl) fun K hK => ?_
  simp only [go_sem]
  (try simp (disch := omega) only [wrapI])
  repeat first | intro _ | refine ⟨(by omega), ?_⟩ | refine ⟨⟨by omega, by omega⟩, ?_⟩
  refine hK _ ?_
  clear hK K
  refine awp_sub (sub_keep [1, 4, 7]) ?_
  simp only [go_sem]
  repeat refine awp_seq ?_
  refine awp_reg (by kernel_rfl) fun K hK => ?_
  simp only [go_sem]
  (try simp (disch := omega) only [wrapI])
  intro _
  repeat first | intro _ | refine ⟨(by omega), ?_⟩ | refine ⟨⟨by omega, by omega⟩, ?_⟩
  refine hK _ ?_
  clear hK K
  refine awp_sub (sub_keep [4, 7, 22, 23, 24]) ?_
  simp only [go_sem]
  repeat refine awp_seq ?_
  refine awp_block ?_
  refine awp_upto (n := 53) ws.length (fun i vs => [(4, .pt 4 (vs 4) 0), (7, .pt 21 (vs 21) 0), (22, .r (ints ws)), (23, .r (i64 ws.length)), (24, .r (i64 i))])
    (fun i => [(4, .box [.r (i64 0), .r (i64 0), .r (i64 0), .r (i64 0), .r (i64 0), .r (i64 0)]), (21, .box (matchA L f (playX L f (ws.take i)) f))])
    (fun i => OkX L (playX L f (ws.take i)) ∧ matchV L f ws = goV L (playX L f (ws.take i)) i (ws.drop i)) 0 (fit_of [2] ?_ ?_) (Nat.zero_le _) ⟨.inr (startX_ok hL.1 hf2), rfl⟩ ?_
  · try simp only [go_sem]
  · try simp only [go_sem]
    simp [playX, startX]
  · rintro i vs hi ⟨hok, hV⟩
    repeat refine awp_seq ?_
    refine awp_reg (by kernel_rfl) fun K hK => ?_
    simp only [go_sem]
    (try simp (disch := omega) only [wrapI])
    repeat first | intro _ | refine ⟨(by omega), ?_⟩ | refine ⟨⟨by omega, by omega⟩, ?_⟩
    refine hK _ ?_
    clear hK K
    repeat refine awp_seq ?_
    refine awp_cond rfl (fun hc => ?_) (fun hc => ?_) <;> (try simp only [go_sem] at hc)
    · have hci := hc
      obtain ⟨p, hp⟩ := opt_of_lt hci
      have hp01 := hw p (mem_of_opt hp)
      have hpl : playX L f (ws.take (i + 1)) = addX L p (playX L f (ws.take i)) := by rw [take_of_opt hp, playX_snoc]
      rw [drop_of_opt hp] at hV
      generalize hX : playX L f (ws.take i) = X at *
      refine awp_skip ?_
      try simp only [go_sem]
      repeat refine awp_seq ?_
      refine awp_block ?_
      repeat refine awp_seq ?_
      refine awp_reg (by kernel_rfl) fun K hK => ?_
      simp only [go_sem, hp, hci]
      (try simp (disch := omega) only [wrapI])
      repeat first | intro _ | refine ⟨(by omega), ?_⟩ | refine ⟨⟨by omega, by omega⟩, ?_⟩
      refine hK _ ?_
      clear hK K
      refine awp_sub (sub_keep [4, 7, 8, 9, 22, 23, 24]) ?_
      simp only [go_sem]
      repeat refine awp_seq ?_
      refine awp_block ?_
      repeat refine awp_seq ?_
      refine awp_reg (by kernel_rfl) fun K hK => ?_
      simp only [go_sem]
      (try simp (disch := omega) only [wrapI])
      repeat first | intro _ | refine ⟨(by omega), ?_⟩ | refine ⟨⟨by omega, by omega⟩, ?_⟩
      refine hK _ ?_
      clear hK K
      refine awp_sub (sub_keep [4, 7, 8, 9, 22, 23, 24, 29]) ?_
      simp only [go_sem]
      by_cases hw0 : 0 ≤ X.wi
      · have e : decide (0 ≤ X.wi) = true := by simp [hw0]
        rw [e]
        repeat refine awp_seq ?_
        refine awp_cond rfl (fun hc => ?_) (fun hc => ?_) <;> (try simp only [go_sem] at hc)
        repeat refine awp_seq ?_
        refine awp_reg (by kernel_rfl) fun K hK => ?_
        simp only [go_sem]
        (try simp (disch := omega) only [wrapI])
        repeat first | intro _ | refine ⟨(by omega), ?_⟩ | refine ⟨⟨by omega, by omega⟩, ?_⟩
        refine hK _ ?_
        clear hK K
        refine awp_ret ?_
        simp only [go_sem]
        simp [hV, goV, hw0]
      · have e : decide (0 ≤ X.wi) = false := by simp [hw0]
        rw [e]
        have hop : OpenX L X := hok.resolve_left hw0
        have w1 : withinL 0 1 [p] = true := by simp [withinL]; omega
        repeat refine awp_seq ?_
        refine awp_cond rfl (fun hc => ?_) (fun hc => ?_) <;> (try simp only [go_sem] at hc)
        repeat refine awp_seq ?_
        refine awp_reg (by kernel_rfl) fun K hK => ?_
        simp only [go_sem]
        (try simp (disch := omega) only [wrapI])
        refine xcall_eq (lWithin_ok 0 1 [p]) rfl (by simp only [go_sem, i64, ints, w1]) (by simp only [go_sem, i64, ints, w1]) (by first | exact .inl rfl | exact .inr rfl) ?_
        (try simp only [go_sem, w1])
        (try simp (disch := omega) only [wrapI])
        repeat first | intro _ | refine ⟨(by omega), ?_⟩ | refine ⟨⟨by omega, by omega⟩, ?_⟩
        refine hK _ ?_
        clear hK K
        refine awp_sub (sub_keep [4, 7, 8, 9, 22, 23, 24, 38]) ?_
        simp only [go_sem]
        repeat refine awp_seq ?_
        refine awp_cond rfl (fun hc => ?_) (fun hc => ?_) <;> (try simp only [go_sem] at hc)
        refine awp_skip ?_
        try simp only [go_sem]
        repeat refine awp_seq ?_
        refine awp_reg (by kernel_rfl) fun K hK => ?_
        simp only [go_sem]
        (try simp (disch := omega) only [wrapI])
        refine xcall_mut (add_ok_any L f f X p hL hop hp01) [(1000, 21)] rfl (by simp only [go_sem, i64, ints]) (by simp only [go_sem, i64, ints]) (by rfl) (by rfl) ?_
        (try simp only [go_sem])
        (try simp (disch := omega) only [wrapI])
        repeat first | intro _ | refine ⟨(by omega), ?_⟩ | refine ⟨⟨by omega, by omega⟩, ?_⟩
        refine hK _ ?_
        clear hK K
        try simp only [go_sem]
        refine awp_sub (sub_keep [4, 7, 22, 23, 24]) ?_
        simp only [go_sem]
        repeat refine awp_seq ?_
        refine awp_reg (by kernel_rfl) fun K hK => ?_
        simp only [go_sem]
        (try simp (disch := omega) only [wrapI])
        repeat first | intro _ | refine ⟨(by omega), ?_⟩ | refine ⟨⟨by omega, by omega⟩, ?_⟩
        refine hK _ ?_
        clear hK K
        try simp only [go_sem]
        refine ⟨hci, ⟨?_, ?_⟩, fit_of [] ?_ ?_⟩
        · rw [hpl]; exact addX_ok hop
        · rw [hV, hpl, goV, if_neg hw0]
        · try simp only [go_sem]
        · try simp only [go_sem]
          rw [hpl]
    · refine awp_exit ?_
      simp only [go_sem]
      have hii : i = ws.length := by omega
      subst hii
      rw [List.drop_length, List.take_length] at hV
      repeat refine awp_seq ?_
      refine awp_reg (by kernel_rfl) fun K hK => ?_
      simp only [go_sem]
      (try simp (disch := omega) only [wrapI])
      repeat first | intro _ | refine ⟨(by omega), ?_⟩ | refine ⟨⟨by omega, by omega⟩, ?_⟩
      refine hK _ ?_
      clear hK K
      refine awp_ret ?_
      simp only [go_sem]
      simp [hV, goV, List.take_length]
end Go.Proofs.Ytaniakoadbkadaa

/- Nights of matches: what their sheets come to. -/
namespace Go.Proofs.Ytaniakoadbkadaa
open Go Go.Oc
set_option linter.unusedSimpArgs false
set_option linter.unusedVariables false
set_option maxRecDepth 8000
abbrev gameX (e : Int × Sc) : Game := ⟨1, e.1, 1⟩
abbrev sheetX (p : (Int × Sc) × Nat) : Sheet := ⟨p.2, p.1.2.l0, p.1.2.l1, 0⟩
def gamesX (xs : List (Int × Sc)) : List Game := xs.map gameX
def sheetsX (xs : List (Int × Sc)) : List Sheet := xs.zipIdx.map sheetX
def rulesX (xs : List (Int × Sc)) (bo : Int) : Rules := ⟨2, gamesX xs, 9, bo⟩
def FinX (L : Int) (x : Sc) : Prop := (x.wi = 0 ∧ x.l0 = L ∧ 0 ≤ x.l1 ∧ x.l1 < L) ∨ (x.wi = 1 ∧ x.l1 = L ∧ 0 ≤ x.l0 ∧ x.l0 < L)
def FinE (e : Int × Sc) : Prop := (1 ≤ e.1 ∧ e.1 ≤ 15) ∧ FinX e.1 e.2
def won0 (xs : List (Int × Sc)) : Int := (xs.map fun e => if e.2.wi = 0 then (1 : Int) else 0).sum
def won1 (xs : List (Int × Sc)) : Int := (xs.map fun e => if e.2.wi = 0 then (0 : Int) else 1).sum
def all0 (xs : List (Int × Sc)) : Int := (xs.map fun e => e.2.l0).sum
def all1 (xs : List (Int × Sc)) : Int := (xs.map fun e => e.2.l1).sum
theorem won0_snoc (xs : List (Int × Sc)) (e : Int × Sc) : won0 (xs ++ [e]) = won0 xs + if e.2.wi = 0 then (1 : Int) else 0 := by simp [won0]
theorem won1_snoc (xs : List (Int × Sc)) (e : Int × Sc) : won1 (xs ++ [e]) = won1 xs + if e.2.wi = 0 then (0 : Int) else 1 := by simp [won1]
theorem all0_snoc (xs : List (Int × Sc)) (e : Int × Sc) : all0 (xs ++ [e]) = all0 xs + e.2.l0 := by simp [all0]
theorem all1_snoc (xs : List (Int × Sc)) (e : Int × Sc) : all1 (xs ++ [e]) = all1 xs + e.2.l1 := by simp [all1]
theorem sheetsX_snoc (xs : List (Int × Sc)) (e : Int × Sc) : sheetsX (xs ++ [e]) = sheetsX xs ++ [sheetX (e, xs.length)] := by
  simp [sheetsX, List.zipIdx_append]
theorem gamesX_snoc (xs : List (Int × Sc)) (e : Int × Sc) : gamesX (xs ++ [e]) = gamesX xs ++ [gameX e] := by simp [gamesX]
theorem gamesX_len (xs : List (Int × Sc)) : (gamesX xs).length = xs.length := by simp [gamesX]
theorem sheetsX_len (xs : List (Int × Sc)) : (sheetsX xs).length = xs.length := by simp [sheetsX]
theorem finE_bounds {e : Int × Sc} (h : FinE e) : (0 ≤ e.2.l0 ∧ e.2.l0 ≤ 15) ∧ (0 ≤ e.2.l1 ∧ e.2.l1 ≤ 15) := by
  obtain ⟨h1, h2⟩ := h
  rcases h2 with ⟨_, _, _, _⟩ | ⟨_, _, _, _⟩ <;> omega
theorem all_bounds : ∀ {xs : List (Int × Sc)}, (∀ e ∈ xs, FinE e) → (0 ≤ all0 xs ∧ all0 xs ≤ 15 * xs.length) ∧ (0 ≤ all1 xs ∧ all1 xs ≤ 15 * xs.length) ∧ (0 ≤ won0 xs ∧ won0 xs ≤ xs.length) ∧ (0 ≤ won1 xs ∧ won1 xs ≤ xs.length)
  | [], _ => by simp [all0, all1, won0, won1]
  | e :: xs, h => by
    obtain ⟨h1, h2, h3, h4⟩ := all_bounds (xs := xs) fun x hx => h x (by simp [hx])
    have hb := finE_bounds (h e (by simp))
    have e0 : all0 (e :: xs) = e.2.l0 + all0 xs := by simp [all0]
    have e1 : all1 (e :: xs) = e.2.l1 + all1 xs := by simp [all1]
    have e2 : won0 (e :: xs) = (if e.2.wi = 0 then (1 : Int) else 0) + won0 xs := by simp [won0]
    have e3 : won1 (e :: xs) = (if e.2.wi = 0 then (0 : Int) else 1) + won1 xs := by simp [won1]
    rw [e0, e1, e2, e3, List.length_cons]
    split <;> omega
theorem rulesX_ok {xs : List (Int × Sc)} {bo : Int} (h : ∀ e ∈ xs, FinE e) (h1 : 1 ≤ xs.length) (h6 : xs.length ≤ 6) (hb : 0 ≤ bo ∧ bo ≤ 8) : rulesB (rulesX xs bo) = true := by
  have e1 : withinL 1 16 [(rulesX xs bo).squad] = true := by show withinL 1 16 [2] = true; decide
  have e2 : withinL 1 20 [((rulesX xs bo).gs.length : Int), (rulesX xs bo).most] = true := by
    show withinL 1 20 [((gamesX xs).length : Int), 9] = true
    rw [gamesX_len]
    simp [withinL]; omega
  have e4 : withinL 0 99 [(rulesX xs bo).bonus] = true := by show withinL 0 99 [bo] = true; simp [withinL]; omega
  have e3 : (rulesX xs bo).gs.all (isGameB (rulesX xs bo).squad) = true := by
    rw [List.all_eq_true]
    intro g hg
    obtain ⟨e, he, rfl⟩ := List.mem_map.1 hg
    have hN := (h e he).1
    have m1 : min (2 : Int) 2 = 2 := by decide
    simp only [isGameB, rulesX, m1, withinL, List.all_cons, List.all_nil, Bool.and_true, Bool.and_eq_true, decide_eq_true_eq]
    omega
  unfold rulesB
  rw [e1, e2, e3, e4]; rfl
theorem rulesX_get {xs : List (Int × Sc)} {bo : Int} {i : Nat} {e : Int × Sc} (h : xs[i]? = some e) : (rulesX xs bo).gs[i]? = some (gameX e) := by
  show (gamesX xs)[i]? = _
  simp [gamesX, h]
theorem sheetsX_mem {xs : List (Int × Sc)} {x : Sheet} (h : x ∈ sheetsX xs) : ∃ i e, xs[i]? = some e ∧ x = sheetX (e, i) := by
  obtain ⟨⟨e, i⟩, hm, rfl⟩ := List.mem_map.1 h
  exact ⟨i, e, List.mem_zipIdx_iff_getElem?.1 hm, rfl⟩
theorem sheetX_ok {xs : List (Int × Sc)} {bo : Int} {i : Nat} {e : Int × Sc} (h : xs[i]? = some e) (hf : FinE e) : sheetB (rulesX xs bo) (sheetX (e, i)) = true := by
  have hi := (List.getElem?_eq_some_iff.1 h).1
  have hlg : legsOf (rulesX xs bo) (i : Int) = e.1 := by
    unfold legsOf
    rw [Int.toNat_natCast, rulesX_get h]
  have hlen : (rulesX xs bo).gs.length = xs.length := gamesX_len xs
  obtain ⟨h1, h2⟩ := hf
  simp only [sheetB, hlg, hlen, withinL, List.all_cons, List.all_nil, Bool.and_true, Bool.and_eq_true, decide_eq_true_eq, if_true]
  rcases h2 with ⟨_, _, _, _⟩ | ⟨_, _, _, _⟩ <;> omega
theorem sheetsX_cons (xs : List (Int × Sc)) : Cons (sheetsX xs) := fun x hx y hy e => by
  obtain ⟨i, a, ha, rfl⟩ := sheetsX_mem hx
  obtain ⟨j, b, hb, rfl⟩ := sheetsX_mem hy
  have : i = j := by simp only at e; omega
  subst this
  rw [ha] at hb
  injection hb with hb
  rw [hb]
theorem sheetsX_seen {xs : List (Int × Sc)} {i : Nat} {e : Int × Sc} (h : xs[i]? = some e) : seenL (sheetsX xs) i = some (sheetX (e, i)) :=
  (seen_iff (sheetsX_cons xs)).2 ⟨List.mem_map.2 ⟨(e, i), List.mem_zipIdx_iff_getElem?.2 h, rfl⟩, rfl⟩
theorem sumX {xs : List (Int × Sc)} {bo : Int} (h : ∀ e ∈ xs, FinE e) : ∀ k, k ≤ xs.length →
    (sumN (rulesX xs bo) (seenL (sheetsX xs)) k).op = [] ∧ (sumN (rulesX xs bo) (seenL (sheetsX xs)) k).g0 = won0 (xs.take k) ∧ (sumN (rulesX xs bo) (seenL (sheetsX xs)) k).g1 = won1 (xs.take k)
    ∧ (sumN (rulesX xs bo) (seenL (sheetsX xs)) k).l0 = all0 (xs.take k) ∧ (sumN (rulesX xs bo) (seenL (sheetsX xs)) k).l1 = all1 (xs.take k)
  | 0, _ => by simp [sumN, zeroR, won0, won1, all0, all1]
  | k + 1, hk => by
    obtain ⟨h1, h2, h3, h4, h5⟩ := sumX (bo := bo) h k (by omega)
    obtain ⟨e, he⟩ := opt_of_lt (l := xs) (i := k) (by omega)
    obtain ⟨f1, f2⟩ := h e (mem_of_opt he)
    rw [sumN, take_of_opt he, won0_snoc, won1_snoc, all0_snoc, all1_snoc]
    unfold stepN
    rw [sheetsX_seen he, rulesX_get he]
    simp only [addL, scoreL, sheetX, if_true, h1, h2, h3, h4, h5]
    rcases f2 with ⟨a1, a2, a3, a4⟩ | ⟨a1, a2, a3, a4⟩
    · have : ¬ (e.2.l1 > e.2.l0) := by omega
      simp [this, a1]
    · have : e.2.l1 > e.2.l0 := by omega
      simp [this, a1]
theorem night_x {xs : List (Int × Sc)} {bo : Int} (h : ∀ e ∈ xs, FinE e) (h1 : 1 ≤ xs.length) (h6 : xs.length ≤ 6) (hb : 0 ≤ bo ∧ bo ≤ 8) :
    ∃ T, nightV (rulesX xs bo) (sheetsX xs) = (T, 0, 0) ∧ T.op = [] ∧ T.g0 = won0 xs ∧ T.g1 = won1 xs ∧ T.l0 = all0 xs ∧ T.l1 = all1 xs := by
  refine ⟨nightR (rulesX xs bo) (seenL (sheetsX xs)), night_of (rulesX_ok h h1 h6 hb) (by rw [sheetsX_len]; omega) (fun x hx => ?_) (sheetsX_cons xs), ?_⟩
  · obtain ⟨i, e, he, rfl⟩ := sheetsX_mem hx
    exact sheetX_ok he (h e (mem_of_opt he))
  · obtain ⟨g1, g2, g3, g4, g5⟩ := sumX (bo := bo) h xs.length (Nat.le_refl _)
    rw [List.take_length] at g2 g3 g4 g5
    have hlen : (rulesX xs bo).gs.length = xs.length := gamesX_len xs
    rw [nightR, hlen, end_full g1]
    exact ⟨g1, g2, g3, g4, g5⟩
/-! ### A match, leg by leg -/
theorem addX_fin {L p : Int} {x : Sc} (hL : 1 ≤ L) (h : OpenX L x) (hp : p = 0 ∨ p = 1) :
    (OpenX L (addX L p x) ∨ (FinX L (addX L p x) ∧ (addX L p x).wi = p)) ∧ (addX L p x).l0 = x.l0 + (if p = 0 then 1 else 0) ∧ (addX L p x).l1 = x.l1 + (if p = 0 then 0 else 1) := by
  obtain ⟨h1, h2, h3, h4, h5, h6⟩ := h
  rcases hp with rfl | rfl
  · unfold addX
    rw [if_pos rfl]
    split
    · rename_i hc
      refine ⟨.inr ⟨.inl ⟨rfl, hc, h4.1, h4.2⟩, rfl⟩, by simp, by simp⟩
    · refine ⟨.inl ⟨rfl, rfl, ?_, h4, ?_, rfl⟩, by simp, by simp⟩
      · show 0 ≤ x.l0 + 1 ∧ x.l0 + 1 < L; omega
      · show 0 ≤ 1 - x.fi ∧ 1 - x.fi ≤ 1; omega
  · unfold addX
    rw [if_neg (by decide)]
    split
    · rename_i hc
      refine ⟨.inr ⟨.inr ⟨rfl, hc, h3.1, h3.2⟩, rfl⟩, by simp, by simp⟩
    · refine ⟨.inl ⟨rfl, rfl, h3, ?_, ?_, rfl⟩, by simp, by simp⟩
      · show 0 ≤ x.l1 + 1 ∧ x.l1 + 1 < L; omega
      · show 0 ≤ 1 - x.fi ∧ 1 - x.fi ≤ 1; omega
theorem goV_open {L : Int} : ∀ {ws : List Int} {x : Sc} {i : Nat}, (∀ j, j < ws.length → ¬ 0 ≤ ((ws.take j).foldl (fun x p => addX L p x) x).wi) → goV L x i ws = (ws.foldl (fun x p => addX L p x) x, 0, 0)
  | [], _, _, _ => rfl
  | p :: ws, x, i, h => by
    have h0 := h 0 (by simp)
    rw [goV, if_neg (by simpa using h0)]
    exact goV_open fun j hj => by
      have := h (j + 1) (by simp; omega)
      simpa using this
theorem goV_over {L q : Int} : ∀ {ws : List Int} {x : Sc} {i : Nat}, (∀ j, j < ws.length → ¬ 0 ≤ ((ws.take j).foldl (fun x p => addX L p x) x).wi) → 0 ≤ (ws.foldl (fun x p => addX L p x) x).wi →
    goV L x i (ws ++ [q]) = (⟨0, 0, 0, 0, 0, 0⟩, ((i + ws.length : Nat) : Int), 33)
  | [], x, i, _, h => by
    have h' : 0 ≤ x.wi := by simpa using h
    simp only [List.nil_append, goV, if_pos h', List.length_nil, Nat.add_zero]
  | p :: ws, x, i, h, hh => by
    have h0 := h 0 (by simp)
    rw [List.cons_append, goV, if_neg (by simpa using h0)]
    rw [goV_over (ws := ws) (fun j hj => by
      have := h (j + 1) (by simp; omega)
      simpa using this) (by simpa using hh)]
    rw [List.length_cons]
    congr 2
    omega
/-- Legs of a match: each leaves it open, but for the last one. -/
structure Legs (L f : Int) (ws : List Int) : Prop where
  bit : ∀ p ∈ ws, p = 0 ∨ p = 1
  op : ∀ j, j < ws.length → OpenX L (playX L f (ws.take j))
  sum : (playX L f ws).l0 + (playX L f ws).l1 = ws.length
  ok : OpenX L (playX L f ws) ∨ FinX L (playX L f ws)
  last : FinX L (playX L f ws) → ws.getLast? = some (playX L f ws).wi
theorem legs_nil {L f : Int} (hL : 1 ≤ L) (hf : 0 ≤ f ∧ f ≤ 1) : Legs L f [] :=
  ⟨by simp, by simp, rfl, .inl (startX_ok hL hf), fun h => by rcases h with ⟨h, _⟩ | ⟨h, _⟩ <;> simp [playX, startX] at h⟩
theorem legs_snoc {L f p : Int} {ws : List Int} (hL : 1 ≤ L) (h : Legs L f ws) (ho : OpenX L (playX L f ws)) (hp : p = 0 ∨ p = 1) : Legs L f (ws ++ [p]) := by
  obtain ⟨a1, a2, a3⟩ := addX_fin hL ho hp
  have hs := h.sum
  refine ⟨fun q hq => ?_, fun j hj => ?_, ?_, ?_, fun hf => ?_⟩
  · rcases List.mem_append.1 hq with hq | hq
    · exact h.bit q hq
    · simp only [List.mem_singleton] at hq
      rw [hq]; exact hp
  · rw [List.length_append, List.length_singleton] at hj
    by_cases hjl : j = ws.length
    · subst hjl
      rw [List.take_left]; exact ho
    · rw [List.take_append_of_le_length (by omega)]
      exact h.op j (by omega)
  · rw [playX_snoc, a2, a3, List.length_append, List.length_singleton]
    split <;> omega
  · rw [playX_snoc]
    exact a1.imp id fun h => h.1
  · rw [playX_snoc] at hf ⊢
    rcases a1 with a1 | a1
    · have h6 := a1.2.2.2.2.2
      rcases hf with hf | hf <;> omega
    · rw [a1.2]; simp
theorem legs_val {L f : Int} {ws : List Int} (h : Legs L f ws) : matchV L f ws = (playX L f ws, 0, 0) :=
  goV_open fun j hj => by
    have := (h.op j hj).2.2.2.2.2
    show ¬ 0 ≤ (playX L f (ws.take j)).wi
    omega
theorem legs_over {L f : Int} {ws : List Int} (h : Legs L f ws) (hf : FinX L (playX L f ws)) (q : Int) : matchV L f (ws ++ [q]) = (⟨0, 0, 0, 0, 0, 0⟩, (ws.length : Int), 33) := by
  have := goV_over (L := L) (q := q) (ws := ws) (x := startX f) (i := 0) (fun j hj => by
    have := (h.op j hj).2.2.2.2.2
    show ¬ 0 ≤ (playX L f (ws.take j)).wi
    omega) (by
    show 0 ≤ (playX L f ws).wi
    rcases hf with hf | hf <;> omega)
  simpa [matchV] using this
end Go.Proofs.Ytaniakoadbkadaa

/- Maps whose elements are assigned with an operator: entries and their stamps; regions that look an element up and enter it in any order. -/
namespace Go.Oc
open Go Go.RowKit
set_option linter.unusedVariables false
set_option linter.unusedSimpArgs false
section
variable {P : Program} {C : Ctx} {s : AS} {Q : Exit → AS → Prop}
/-- A map, with the times of birth of its entries. -/
theorem awp_openR {c : Code} (k : Nat) {m : List (RV × RV)} (hc : (s.rows k).c = .mp m) (h : ∀ bs cl, bs.length = m.length → awp P C c Q { s with rows := upd s.rows k ⟨(s.rows k).ver, .mpx m bs cl⟩ }) : awp P C c Q s := fun a w ⟨p, hs⟩ => by
  have hrow := hs.rw k
  rw [hc] at hrow
  simp only [rowRel] at hrow
  obtain ⟨b, hβ, es, cl, h1, h2, h3, h4⟩ := hrow
  have hset := hs.setRow (w' := w) k (.mpx m (es.toList.map (·.born)) cl) (by rw [hc]; rfl) (fun _ _ _ _ h => by cases h) hβ rfl rfl rfl rfl (fun i _ => rfl) (fun _ => by
    simp only [rowRel]
    exact ⟨b, es, hβ, h1, h2, rfl, h3, h4⟩)
  exact h _ cl (by rw [List.length_map]; exact relM_length h2) a w ⟨p, hset⟩
theorem sub_shutR (k : Nat) {m : List (RV × RV)} {bs : List Nat} {cl : Nat} (hc : (s.rows k).c = .mpx m bs cl) : Sub s { s with rows := upd s.rows k ⟨(s.rows k).ver, .mp m⟩ } := fun C a w ⟨p, hs⟩ => by
  have hrow := hs.rw k
  rw [hc] at hrow
  simp only [rowRel] at hrow
  obtain ⟨b, es, hβ, h1, h2, _, h3, h4⟩ := hrow
  exact ⟨p, hs.setRow (w' := w) k (.mp m) (by rw [hc]; rfl) (fun _ _ _ _ h => by cases h) hβ rfl rfl rfl rfl (fun i _ => rfl) (fun _ => by
    simp only [rowRel]
    exact ⟨b, hβ, es, cl, h1, h2, h3, h4⟩)⟩
variable {n : Nat} {l : List (Nat × AV)} {vs : Nat → Nat} {cs : List (Nat × RowC)}
theorem st_row (k : Nat) (c : RowC) : ({ st n l vs cs with rows := upd (st n l vs cs).rows k ⟨((st n l vs cs).rows k).ver, c⟩ } : AS) = st n l vs (insc cs k c) := by
  simp only [st, AS.mk.injEq, true_and]
  funext j
  rw [lookc_insc]
  unfold upd
  split
  · rename_i e; subst e; rfl
  · rfl
theorem awp_open {c : Code} (k : Nat) {m : List (RV × RV)} (hc : lookc cs k = .mp m) (h : ∀ bs cl, bs.length = m.length → awp P C c Q (st n l vs (insc cs k (.mpx m bs cl)))) : awp P C c Q (st n l vs cs) :=
  awp_openR k hc fun bs cl hl => by rw [st_row]; exact h bs cl hl
theorem sub_shut (k : Nat) {m : List (RV × RV)} {bs : List Nat} {cl : Nat} (hc : lookc cs k = .mpx m bs cl) : Sub (st n l vs cs) (st n l vs (insc cs k (.mp m))) := by
  have := sub_shutR (s := st n l vs cs) k hc
  rwa [st_row] at this
end
/-! ### An element is looked up and entered, in any order -/
theorem keyOk_same {kn : Option Nat} {key : RV} (h : keyOk kn key = true) : sameK key key = some true := by
  have hag : ∀ xs : List RV, allIt xs = true → cmpL xs xs = some true := fun xs => by
    induction xs with
    | nil => intro _; rfl
    | cons x xs ih =>
      intro hx
      cases x <;> simp only [allIt, Bool.false_eq_true] at hx
      simp [cmpL, ih hx]
  cases kn <;> cases key <;> simp only [keyOk, Bool.false_eq_true, Bool.and_eq_true] at h
  · simp [sameK]
  · simp only [sameK]; exact hag _ h.2
theorem findK_new {key z : RV} (hs : sameK key key = some true) : ∀ {m : List (RV × RV)} {i : Nat}, findK key m i = some none → ∃ j, findK key (m ++ [(key, z)]) i = some (some (j, z))
  | [], i, _ => ⟨i, by simp [findK, hs]⟩
  | e :: m, i, h => by
    simp only [findK, List.cons_append] at h ⊢
    split at h
    · cases h
    · exact findK_new hs h
    · cases h
def entOk (ops : Array Oper) (x y : Oper) : Bool :=
  match x.op, y.op with
  | .lookup t (.tmp p) (.tmp q) false, .mapEntry t' (.tmp p') (.tmp q') => t == t' && p == p' && q == q' && x.guard.isNone && y.guard.isNone && x.apart ops y
  | _, _ => false
section
variable {P : Program} {s : AS} {ops : Array Oper}
theorem exchangeE {oi oj : Oper} {y z : Yi} (hp : entOk ops oi oj = true) (hy : YieldsA P ops oi y s) (hz : YieldsA P ops oj z (s.app oi.dst y)) :
    YieldsA P ops oj z s ∧ YieldsA P ops oi y (s.app oj.dst z) ∧ (s.app oj.dst z).app oi.dst y = (s.app oi.dst y).app oj.dst z := by
  unfold entOk at hp
  split at hp
  · rename_i t p q t' p' q' e1 e2
    simp only [Bool.and_eq_true, beq_iff_eq] at hp
    obtain ⟨⟨⟨⟨⟨rfl, rfl⟩, rfl⟩, g1⟩, g2⟩, hap⟩ := hp
    obtain ⟨hap1, hap2, hap3⟩ := Oper.apart_spec hap
    have wi : ∀ s : AS, wantA ops s oi = some true := fun s => by unfold wantA; rw [Option.isNone_iff_eq_none.1 g1]
    have wj : ∀ s : AS, wantA ops s oj = some true := fun s => by unfold wantA; rw [Option.isNone_iff_eq_none.1 g2]
    have mi : ∀ y, ¬ mk oi y := fun y => by simp [mk, cls, vcall, e1]
    have mj : ∀ y, ¬ mk oj y := fun y => by simp [mk, cls, vcall, e2]
    have hy2 : (sLookup P s t (s.tm p) (s.tm q) false).pre ∧ y = (sLookup P s t (s.tm p) (s.tm q) false).y := by
      rcases hy with ⟨_, hy, _⟩ | ⟨hw, _⟩
      · unfold AY at hy; rw [e1] at hy; simpa only [step, e1, AS.ev] using hy
      · rw [wi] at hw; cases hw
    have hz2 : (sMapEntry P (s.app oi.dst y) t ((s.app oi.dst y).tm p) ((s.app oi.dst y).tm q)).pre ∧ z = (sMapEntry P (s.app oi.dst y) t ((s.app oi.dst y).tm p) ((s.app oi.dst y).tm q)).y := by
      rcases hz with ⟨_, hz, _⟩ | ⟨hw, _⟩
      · unfold AY at hz; rw [e2] at hz; simpa only [step, e2, AS.ev] using hz
      · rw [wj] at hw; cases hw
    have hyE : y.eff = [] := by
      rw [hy2.2]
      have h0 := hy2.1
      unfold sLookup at h0 ⊢
      (repeat' split at h0) <;> first | rfl | exact h0.elim
    have hyR : (s.app oi.dst y).rows = s.rows := by rw [app_rows]; simp [Yi.rows, hyE]
    have np : ∀ d, oi.dst = some d → p ≠ d ∧ q ≠ d := fun d hd => by
      have := hap1 d hd
      have e : oj.looksAt ops = oj.looksAt ops := rfl
      constructor
      · intro hc; subst hc; exact this (List.mem_append_left _ (List.mem_filterMap.2 ⟨.tmp p, by rw [e2]; simp [Op.operands], rfl⟩))
      · intro hc; subst hc; exact this (List.mem_append_left _ (List.mem_filterMap.2 ⟨.tmp q, by rw [e2]; simp [Op.operands], rfl⟩))
    have nq : ∀ d, oj.dst = some d → p ≠ d ∧ q ≠ d := fun d hd => by
      have := hap3 d hd
      constructor
      · intro hc; subst hc; exact this (List.mem_append_left _ (List.mem_filterMap.2 ⟨.tmp p, by rw [e1]; simp [Op.operands], rfl⟩))
      · intro hc; subst hc; exact this (List.mem_append_left _ (List.mem_filterMap.2 ⟨.tmp q, by rw [e1]; simp [Op.operands], rfl⟩))
    have tmo : ∀ (d : Option Nat) (y : Yi) (t : Nat), (∀ d', d = some d' → t ≠ d') → (s.app d y).tm t = s.tm t := fun d y t h => by
      rw [app_tm]
      cases d with
      | none => rfl
      | some d => exact upd_other _ _ (h d rfl)
    have t1 := tmo oi.dst y p fun d hd => (np d hd).1
    have t2 := tmo oi.dst y q fun d hd => (np d hd).2
    have t3 := tmo oj.dst z p fun d hd => (nq d hd).1
    have t4 := tmo oj.dst z q fun d hd => (nq d hd).2
    have hcong : ∀ s' : AS, s'.rows = s.rows → sMapEntry P s' t (s.tm p) (s.tm q) = sMapEntry P s t (s.tm p) (s.tm q) := fun s' h => by unfold sMapEntry; rw [h]
    rw [t1, t2, hcong _ hyR] at hz2
    have hzs : YieldsA P ops oj z s := .inl ⟨wj _, by unfold AY; rw [e2]; simpa only [step, e2, AS.ev] using hz2, fun h => absurd h (mj _)⟩
    have hlook : (sLookup P (s.app oj.dst z) t (s.tm p) (s.tm q) false).pre ∧ (sLookup P (s.app oj.dst z) t (s.tm p) (s.tm q) false).y = (sLookup P s t (s.tm p) (s.tm q) false).y := by
      obtain ⟨h1, h2⟩ := hz2
      have h0 := hy2.1
      have hr : (s.app oj.dst z).rows = z.rows s.rows := app_rows _ _ _
      unfold sMapEntry at h1 h2
      split at h1
      · rename_i kt et kn k n key a1 a2 a3
        rw [a1, a2, a3] at h2
        simp only at h2
        unfold sLookup at h0 ⊢
        rw [a1, a2, a3] at h0 ⊢
        simp only at h0 ⊢
        split at h1
        · rename_i n' m bs cl zz a4 a5
          rw [a4, a5] at h2
          simp only at h2
          rw [hr]
          rw [a4, a5] at h0 ⊢
          simp only [mapOf] at h0 ⊢
          split at h1
          · rename_i j v a6
            rw [a6] at h2
            simp only at h2
            have hz : z.rows s.rows k = ⟨n', .mpx m bs cl⟩ := by rw [h2]; simp [Yi.rows, upd_same]
            rw [hz]
            simp only [mapOf, a6]
            exact ⟨⟨h1.1, h1.2⟩, by first | rfl | trivial⟩
          · rename_i a6
            rw [a6] at h2
            simp only at h2
            have hz : z.rows s.rows k = ⟨n', .mpx (m ++ [(key, zz)]) (bs ++ [cl]) (cl + 1)⟩ := by rw [h2]; simp [Yi.rows, upd_same]
            rw [hz]
            obtain ⟨j, hj⟩ := findK_new (z := zz) (keyOk_same h1.2) a6
            simp only [mapOf, hj]
            exact ⟨⟨h1.1, h1.2⟩, by first | rfl | trivial⟩
          · exact h1.elim
        · exact h1.elim
      · exact h1.elim
    refine ⟨hzs, .inl ⟨wi _, ?_, fun h => absurd h (mi _)⟩, ?_⟩
    · unfold AY
      rw [e1]
      simp only [step, e1, AS.ev, t3, t4]
      exact ⟨hlook.1, by rw [hlook.2]; exact hy2.2⟩
    · refine AS.ext (by simp only [app_n]) ?_ ?_
      · rw [app_tm, app_tm, app_tm, app_tm]
        cases hi : oi.dst with
        | none => cases oj.dst <;> rfl
        | some d =>
          cases hj : oj.dst with
          | none => rfl
          | some d' =>
            have : d ≠ d' := fun e => hap2 d hi (by rw [hj, e])
            exact upd_comm _ (Ne.symm this) _ _
      · rw [app_rows, app_rows, app_rows, app_rows]
        simp [Yi.rows, hyE]
  · cases hp
def pairE (ops : Array Oper) (x y : Oper) : Bool := okPair ops x y || entOk ops x y
theorem exchangeB {oi oj : Oper} {y z : Yi} (hp : pairE ops oi oj = true) (hne : NE s) (hy : YieldsA P ops oi y s) (hz : YieldsA P ops oj z (s.app oi.dst y)) :
    YieldsA P ops oj z s ∧ YieldsA P ops oi y (s.app oj.dst z) ∧ (s.app oj.dst z).app oi.dst y = (s.app oi.dst y).app oj.dst z := by
  unfold pairE at hp
  rcases Bool.or_eq_true _ _ ▸ hp with h | h
  · exact exchange h hne hy hz
  · exact exchangeE h hy hz
def lexOkE (ops : Array Oper) : Bool :=
  (List.range ops.size).all fun i => (deps ops i).all (fun e => decide (e < i)) &&
    (List.range ops.size).all fun j => !decide (i < j) || waits ops ops.size j i ||
      (match ops[i]?, ops[j]? with | some x, some y => pairE ops x y | _, _ => true)
theorem anyA_firstE {Q : AS → Prop} {n i : Nat} {oi : Oper} {y : Yi} (hi : ops[i]? = some oi) (hdst : dstOk ops n = true) : ∀ (fuel : Nat) (listed : Array Bool) (s : AS), s.n = n → NE s → down ops listed →
    (∀ j oj, ops[j]? = some oj → j ≠ i → listed.getD j true = false → waits ops ops.size j i = false → pairE ops oi oj = true) →
    i ∈ Region.ready .any ops listed → YieldsA P ops oi y s → anyA P ops Q fuel (listed.setIfInBounds i true) (s.app oi.dst y) → anyA P ops Q (fuel + 1) listed s := by
  intro fuel
  induction fuel with
  | zero =>
    intro listed s hn hne hdown _ hr hy H
    refine ⟨fun h => (by rw [h] at hr; cases hr), fun j hj => ?_⟩
    by_cases hji : j = i
    · subst hji; unfold qA; rw [hi]; exact ⟨y, hy, H⟩
    · have := ready_mono hj hji
      rw [H.1] at this
      cases this
  | succ fuel ih =>
    intro listed s hn hne hdown hfree hr hy H
    refine ⟨fun h => (by rw [h] at hr; cases hr), fun j hj => ?_⟩
    by_cases hji : j = i
    · subst hji; unfold qA; rw [hi]; exact ⟨y, hy, H⟩
    · have h1 := H.2 j (ready_mono hj hji)
      obtain ⟨hjun, oj, hoj, _⟩ := mem_ready.1 hj
      have hjun' : listed.getD j true = false := hjun
      have hnw : waits ops ops.size j i = false := by
        refine Decidable.byContradiction fun hw => ?_
        have hw : waits ops ops.size j i = true := by simpa using hw
        have h2 := waits_listed hdown _ _ _ (ready_deps hj) hw
        have h3 := (mem_ready.1 hr).1
        rcases Nat.lt_or_ge i listed.size with h' | h'
        · simp [h'] at h2 h3; rw [h3] at h2; cases h2
        · simp [Array.getElem?_eq_none h'] at h2
      have hpair := hfree j oj hoj hji hjun' hnw
      unfold qA at h1 ⊢
      rw [hoj] at h1 ⊢
      obtain ⟨z, hz, hK⟩ := h1
      obtain ⟨hz', hy', heq⟩ := exchangeB hpair hne hy hz
      refine ⟨z, hz', ?_⟩
      refine ih (listed.setIfInBounds j true) (s.app oj.dst z) (by rw [app_n]; exact hn) (hne.app hz' (by rw [hn]; exact dstOk_get hdst hoj)) (down_set hdown hj) (fun k ok hk hki hun hno => ?_) (ready_mono hr (Ne.symm hji)) hy' ?_
      · refine hfree k ok hk hki ?_ hno
        by_cases hjk : j = k
        · subst hjk; exact hjun'
        · rw [getD_set_ne true hjk] at hun; exact hun
      · rw [Array.setIfInBounds_comm _ _ hji, heq]
        exact hK

theorem lexOkE_spec (h : lexOkE ops = true) {i : Nat} (hi : i < ops.size) : (∀ e ∈ deps ops i, e < i) ∧ ∀ j, i < j → j < ops.size → waits ops ops.size j i = false → ∀ x y, ops[i]? = some x → ops[j]? = some y → pairE ops x y = true := by
  unfold lexOkE at h
  have := List.all_eq_true.1 h i (by simpa using hi)
  simp only [Bool.and_eq_true, List.all_eq_true, decide_eq_true_eq] at this
  refine ⟨this.1, fun j hij hj hw x y hx hy => ?_⟩
  have h2 := this.2 j (by simpa using hj)
  rw [hx, hy] at h2
  simpa [hij, hw] using h2

theorem anyA_lexE {Q : AS → Prop} {n : Nat} (hB : lexOkE ops = true) (hdst : dstOk ops n = true) : ∀ (l : List Oper) (k : Nat) (listed : Array Bool) (s : AS), (∀ j, l[j]? = ops[k + j]?) → k + l.length = ops.size → listed.size = ops.size →
    (∀ j, j < ops.size → listed.getD j false = decide (j < k)) → s.n = n → NE s → lexA P ops Q l s → anyA P ops Q l.length listed s
  | [], k, listed, s, _, hlen, hsz, hl, _, _, h => by
    refine ⟨?_, h⟩
    refine List.eq_nil_iff_forall_not_mem.2 fun j hj => ?_
    obtain ⟨h1, o, ho, _⟩ := mem_ready.1 hj
    have hj' : j < ops.size := (Array.getElem?_eq_some_iff.1 ho).1
    have h2 := hl j hj'
    simp only [List.length_nil, Nat.add_zero] at hlen
    have hjl : j < listed.size := by omega
    simp [hjl] at h1 h2
    rw [h1] at h2
    have : j < k := by omega
    simp [this] at h2
  | o :: l, k, listed, s, hlk, hlen, hsz, hl, hn, hne, h => by
    simp only [List.length_cons] at hlen
    have hk : k < ops.size := by omega
    have ho : ops[k]? = some o := by simpa using (hlk 0).symm
    obtain ⟨hdeps, hpairs⟩ := lexOkE_spec hB hk
    obtain ⟨y, hy, hrest⟩ := h
    have hunk : listed.getD k false = false := by rw [hl k hk]; simp
    have hsame : ∀ j, j < ops.size → listed.getD j true = listed.getD j false := fun j hj => by
      have : j < listed.size := by omega
      simp [this]
    have hready : k ∈ Region.ready .any ops listed := by
      refine mem_ready.2 ⟨by rw [hsame k hk]; exact hunk, o, ho, fun e he hb => ?_⟩
      have : e.on < k := hdeps e.on (by unfold deps; rw [ho]; exact List.mem_map.2 ⟨e, List.mem_filter.2 ⟨by simpa using he, hb⟩, rfl⟩)
      rw [hl e.on (by omega)]; simpa using this
    have hdown : down ops listed := fun j hj e he => by
      by_cases hjs : j < ops.size
      · rw [hl j hjs] at hj
        have hjk : j < k := by simpa using hj
        have := (lexOkE_spec hB hjs).1 e he
        rw [hl e (by omega)]; simp; omega
      · have : ¬ j < listed.size := by omega
        simp [Array.getElem?_eq_none (Nat.le_of_not_lt this)] at hj
    refine anyA_firstE ho hdst l.length listed s hn hne hdown (fun j oj hj hjk hun hw => ?_) hready hy ?_
    · have hj' : j < ops.size := (Array.getElem?_eq_some_iff.1 hj).1
      rw [hsame j hj', hl j hj'] at hun
      have : k < j := by simp at hun; omega
      exact hpairs j this hj' hw o oj ho hj
    · refine anyA_lexE hB hdst l (k + 1) _ _ (fun j => by have := hlk (j + 1); simpa [Nat.add_assoc, Nat.add_comm 1 j] using this) (by omega) (by simpa using hsz) (fun j hj => ?_) (by rw [app_n]; exact hn) (hne.app hy (by rw [hn]; exact dstOk_get hdst ho)) hrest
      by_cases hjk : k = j
      · subst hjk
        have : k < listed.size := by omega
        simp [this]
      · rw [getD_set_ne false hjk, hl j hj]
        simp; omega

theorem region_drawE {C : Ctx} {id : Nat} {a : Act} {w : World} {Q : AS → Prop} {Q' : Exit → Act → World → Prop} (hm : P.follows .mixedOrders = true) (hB : lexOkE ops = true) (hd : dstOk ops s.n = true)
    (hs : SRel C s a w) (hQ : ∀ s a w, Q s → SRel C s a w → Q' .normal a w) (h : lexA P ops Q ops.toList s) : (Code.region id ops true).wpIn (fnc C.rd) 0 P Q' a w := by
  obtain ⟨p, hs⟩ := hs
  have hs' : SR C p s a { w with drawn := w.drawn + 1 } := hs.below (w' := w.drew) ((Below.refl _ _).drew) (fun _ h => h) (fun _ h => .inl h) hs.rb
  refine wpIn_region_any hm (anyA_sound hQ _ _ _ _ _ p hd ?_ hs')
  have := anyA_lexE (n := s.n) hB hd ops.toList 0 (Array.replicate ops.size false) s (by simp) (by simp) (by simp) (fun j hj => by simp [hj]) rfl ⟨C, p, a, w, hs⟩ h
  simpa using this
theorem awp_drawE {C : Ctx} {Q : Exit → AS → Prop} {id : Nat} {l : List Oper} (hm : P.follows .mixedOrders = true) (hB : lexOkE l.toArray = true) (hd : dstOk l.toArray s.n = true) (h : aops P true l.toArray l (Q .normal) s) : awp P C (.region id l.toArray true) Q s := fun a w hs => by
  obtain ⟨p, hp⟩ := hs
  exact region_drawE hm hB hd ⟨p, hp⟩ (fun s a w hq hs => ⟨s, hs, hq⟩) (aops_lex l s hd ⟨C, p, a, w, hp⟩ h)
/-- A region that looks an element up and enters it. -/
theorem awp_dregE {C : Ctx} {Q : Exit → AS → Prop} {id : Nat} {l : List Oper} (hm : P.follows .mixedOrders = true) (hB : lexOkE l.toArray = true) (hd : dstOk l.toArray s.n = true)
    (h : ∀ K : AS → Prop, (∀ s, Q .normal s → K s) → aops P true l.toArray l K s) : awp P C (.region id l.toArray true) Q s := awp_drawE hm hB hd (h _ fun _ h => h)
end
end Go.Oc

/- A slice literal that may be appended to: a row of its own. -/
namespace Go.Oc
open Go Go.RowKit
set_option linter.unusedVariables false
set_option linter.unusedSimpArgs false
/-- A slice literal as an own row. -/
def sBuildOwn (P : Program) (s : AS) (d : Nat) (t : TypeId) (len : Nat) (parts : List (Nat × AV)) : Res :=
  match tyq P t with
  | some ⟨.slice e esz _ ez, _, _, _⟩ =>
    if len = 0 then .bad else
    match layE s.ver esz (List.replicate len ez) parts with
    | some es => ⟨0 < esz ∧ len * esz ≤ 16777216 ∧ d < 1000, True, ⟨.os d ((s.rows d).ver + 1) esz 0 len, [(d, ⟨(s.rows d).ver + 1, .arr e esz es⟩)]⟩⟩
    | none => .bad
  | _ => .bad
section
variable {P : Program} {C : Ctx} {p : Plan} {s : AS} {a : Act} {w : World} {o : Oper}
theorem good_buildOwn {t : TypeId} {n : Nat} {ps : Array (Nat × Operand)} (h : SR C p s a w) (ho : o.op = .buildSlice t n ps) (hp : (sBuildOwn P s (o.dst.getD 0) t n (ps.toList.map fun (i, x) => (i, s.ev x))).pre) :
    Done P C o s a w (sBuildOwn P s (o.dst.getD 0) t n (ps.toList.map fun (i, x) => (i, s.ev x))) := by
  have hparts := parts_rel h ps.toList
  unfold sBuildOwn at hp ⊢
  split at hp
  · rename_i e esz eb ez sz agg z e1
    obtain ⟨hu, hok, hsz, _, zv, hzv, hez⟩ := tyq_slice e1
    subst hsz
    obtain ⟨i, zval, hi, hzero, hcells, hz1, hzl⟩ := zeroOf_spec hzv
    split at hp
    · exact hp.elim
    · rename_i hn0
      rw [if_neg hn0]
      split at hp
      · rename_i es hlay
        obtain ⟨hpos, hmax, hd⟩ : 0 < P.cellsOf e ∧ n * P.cellsOf e ≤ 16777216 ∧ o.dst.getD 0 < 1000 := hp
        have hzc : zval.cells.size = P.cellsOf e := by rw [← hzl, ← hcells]; simp
        obtain ⟨cells', hf, hle, hl', hr, hr1⟩ := layE_rel (p := p) (w := w) _ (ps.toList.map fun x => (x.1, a.eval x.2)) _ _ (madeCells zval.cells (n * P.cellsOf e)) hlay
          (by intro e he; rw [List.eq_of_mem_replicate he, hez, List.length_map, hzl])
          (by
            rw [← hzc, madeCells_list, hcells, hez]
            clear hlay hn0 ho hmax
            induction n with
            | zero => simp [RV.relV]
            | succ n ih =>
              simp only [List.replicate_succ, List.flatten_cons]
              exact RV.relV_append (RV.relV_ofV1 w p.R zv) ih)
          (by
            rw [← hzc, madeCells_list, hcells]
            intro u hu
            obtain ⟨l, hl, hul⟩ := List.mem_flatten.1 hu
            rw [List.eq_of_mem_replicate hl] at hul
            exact hz1 u hul)
          hparts.1 hparts.2
        have hnl : es.length = n := by rw [hle]; simp
        have hcl : cells'.size = n * P.cellsOf e := by
          rw [← Array.length_toList, RV.relV_length hr]
          have : ∀ (es : List (List RV)), (∀ x ∈ es, x.length = P.cellsOf e) → es.flatten.length = es.length * P.cellsOf e := by
            intro es
            induction es with
            | nil => simp
            | cons x es ih =>
              intro h
              rw [List.flatten_cons, List.length_append, ih fun y hy => h y (by simp [hy]), h x (by simp), List.length_cons, Nat.add_mul]
              omega
          rw [this es hl', hnl]
        have hnm : n ≤ 16777216 := Nat.le_trans (Nat.le_mul_of_pos_right n hpos) hmax
        have hn := h.newRow (o.dst.getD 0) hd (.arr e (P.cellsOf e) es) rfl n (by simp only [maxLen]; omega) (.cells cells' e) (fun p' ver' hR hβ hγ hk => by
          simp only [rowRel]
          rw [hγ]
          refine .inr ⟨_, _, hβ, heap_alloc_new w _, hcl, by rw [hnl]; exact Nat.le_refl _, ?_⟩
          rw [hR]
          have hV : RV.relV (w.alloc (.cells cells' e)) p.R es.flatten cells'.toList :=
            RV.relV_mono (fun _ h => h) (fun ad hr => World.cell?_alloc_lt w _ ad (h.rb _ hr)) _ _ hr
          refine relE_of_vals hl' hV hr1 (fun j u hj => ?_)
          rw [add_at]
          simp only [Nat.zero_add, World.cell?_alloc_new]
          simpa using hj)
        refine ⟨_, .slice (some ⟨w.heap.size, 0, none⟩) n n, _, _, ?_, .inl rfl, trivial, by rw [rows_one]; exact hn, ?_⟩
        · have hmap : (ps.map fun (x : Nat × Operand) => (x.1, a.eval x.2)).toList = ps.toList.map fun x => (x.1, a.eval x.2) := by simp
          have hne : ¬ (n * P.cellsOf e = 0) := by
            have := Nat.mul_pos (show 0 < n by omega) hpos
            omega
          have hz : (zeroValue e).run P w = .ok zval w := by simp [zeroValue, typeInfo, hi, hzero]
          have hf' := hf
          simp only [madeCells] at hf'
          simp only [execOp, ho, Instr.buildSlice, Sem.run_bind, run_underlying hu, Result.andThen_ok, run_sizeOf_ok hok, if_neg (show ¬ (n * P.cellsOf e > 2 ^ 24) by omega), if_neg hne, hz, Sem.run_pure, hmap, hf']
          simp [newRow]
        · rw [rows_one]
          simp only [AV.rel, vers, upd_same]
          exact ⟨Nat.le_refl _, fun _ => .inr ⟨_, _, rfl, by simp; rfl, by omega, fun _ => by simp⟩⟩
      · exact hp.elim
  · exact hp.elim
variable {Q : Exit → AS → Prop} {ops : Array Oper}
/-- The next operation of a region is a slice literal: it gets a row of its own. -/
theorem sops_own {l : List Oper} {t : TypeId} {n : Nat} {ps : List (Nat × Operand)} {d : Nat} {ty : TypeId} {pos : String} {af : Array Edge} (hdn : d < s.n)
    (h : aR s (some d) (sBuildOwn P s d t n (evp s ps)) (fun s' => sops P C ops l Q s')) : sops P C ops (⟨some d, .buildSlice t n ps.toArray, ty, pos, af, none⟩ :: l) Q s := fun a w ⟨p, hs⟩ => by
  rw [← evp_eq] at h
  unfold wpListIn
  rw [if_pos (wantA_sound hs (by simp [wantA]))]
  refine wpIn_of_wp (by intro c h; cases h) ?_
  obtain ⟨nx, v, w', p', hrun, hnx, hass, hSR, hrel⟩ := good_buildOwn (o := ⟨some d, .buildSlice t n ps.toArray, ty, pos, af, none⟩) hs rfl h.1
  unfold Oper.wp
  rw [hrun]
  have hput := hSR.put' (d := some d) hrel (fun t ht => by injection ht with ht; subst ht; exact hdn)
  rcases hnx with rfl | ⟨rfl, rfl⟩
  · exact h.2 hass _ _ ⟨p', hput⟩
  · exact h.2 hass _ _ ⟨p', hput⟩
end
end Go.Oc

/- What is appended to, and read again: the room of a row is told apart; a row without room becomes plain data that has none. -/
namespace Go.Oc
open Go Go.RowKit
set_option linter.unusedVariables false
set_option linter.unusedSimpArgs false
section
variable {P : Program} {C : Ctx} {s : AS} {Q : Exit → AS → Prop}
/-- A row that has elements, with its room. -/
theorem awp_capR {c : Code} (k : Nat) {t sz : Nat} {es : List (List RV)} (hc : (s.rows k).c = .arr t sz es) (hne : 0 < es.length) (h : ∀ c0, es.length ≤ c0 → awp P C c Q { s with rows := upd s.rows k ⟨(s.rows k).ver, .arc t sz es c0⟩ }) : awp P C c Q s := fun a w ⟨p, hs⟩ => by
  have hrow := hs.rw k
  rw [hc] at hrow
  simp only [rowRel] at hrow
  rcases hrow with ⟨_, h0, _⟩ | ⟨b, cells, hβ, h1, h2, h3, h4⟩
  · subst h0; simp at hne
  · have hset := hs.setRow (w' := w) k (.arc t sz es (p.γ k)) (by rw [hc]; rfl) (fun _ _ _ _ h => by cases h) hβ rfl rfl rfl rfl (fun i _ => rfl) (fun _ => by
      simp only [rowRel]
      exact ⟨b, cells, hβ, h1, trivial, h2, h3, h4⟩)
    exact h _ h3 a w ⟨p, hset⟩
theorem sub_uncapR (k : Nat) {t sz c0 : Nat} {es : List (List RV)} (hc : (s.rows k).c = .arc t sz es c0) : Sub s { s with rows := upd s.rows k ⟨(s.rows k).ver, .arr t sz es⟩ } := fun C a w ⟨p, hs⟩ => by
  have hrow := hs.rw k
  rw [hc] at hrow
  simp only [rowRel] at hrow
  obtain ⟨b, cells, hβ, h1, h2, h3, h4, h5⟩ := hrow
  exact ⟨p, hs.setRow (w' := w) k (.arr t sz es) (by rw [hc]; rfl) (fun _ _ _ _ h => by cases h) hβ rfl rfl rfl rfl (fun i _ => rfl) (fun _ => by
    simp only [rowRel]
    exact .inr ⟨b, cells, hβ, h1, by rw [h2]; exact h3, by rw [h2]; exact h4, h5⟩)⟩
/-- A row without room, seen whole by a slot, becomes plain data without room. -/
theorem sub_fullR (t k v sz ty : Nat) {es : List (List RV)} (hk0 : k < 1000) (ht : s.tm t = .os k v sz 0 es.length) (hv : v = s.ver k) (hc : (s.rows k).c = .arc ty sz es es.length) (hne : 0 < es.length) :
    Sub s { s with tm := upd s.tm t (.r (.sx sz es)), rows := upd s.rows k ⟨(s.rows k).ver + 1, .dead⟩ } := fun C a w ⟨p, hp⟩ => by
  have h1 := hp.reRow (w' := w) k hk0 .dead rfl none 1 (by simp [maxLen]) rfl rfl rfl (Nat.le_refl _) (fun _ _ _ => rfl) (fun _ h => by cases h) (fun p' ver' _ hβ hγ _ => by simp only [rowRel]; exact ⟨hβ, hγ⟩)
  have hval := hp.tm t
  rw [ht] at hval
  have hrow := hp.rw k
  rw [hc] at hrow
  simp only [rowRel] at hrow
  obtain ⟨b, cells, hβ, hh, hγ, hcs, _, hE⟩ := hrow
  simp only [AV.rel] at hval
  obtain ⟨g1, _, g2⟩ := hp.bl k b hβ
  have h2 := h1.publish (b := b) g1 (g2.imp id fun h => h.resolve_left (fun h => by omega)) (fun j hj => by
    have hj' : upd p.β k none j = some b := hj
    by_cases e : j = k
    · subst e; rw [upd_same] at hj'; cases hj'
    · rw [upd_other _ _ e] at hj'; exact e (hp.ij j k b hj' hβ)) (hp.ex.publish hβ)
  refine ⟨_, { h2 with tm := fun j => ?_ }⟩
  show AV.rel w _ _ (upd s.tm t _ j) _
  by_cases hj : j = t
  · subst hj
    rw [upd_same]
    simp only [AV.rel, RV.rel]
    rcases hval.2 hv with ⟨hb, _⟩ | ⟨b', A, hb, hva, hle, hA⟩
    · rw [hb] at hβ; cases hβ
    · rw [hβ] at hb
      injection hb with hb
      subst hb
      obtain rfl := hA (by simp)
      have hcap := hp.cap k
      refine ⟨_, by rw [hva, hγ]; rfl, by intro h; subst h; simp at hne, by rw [hγ] at hcap; exact hcap, .inr rfl, ?_⟩
      simp only [Nat.zero_mul]
      exact RV.relE_mono (fun _ h => .inl h) (fun _ _ => rfl) _ _ _ _ (fun _ => rfl) hE
  · rw [upd_other _ _ hj]
    exact h2.tm j
variable {n : Nat} {l : List (Nat × AV)} {vs : Nat → Nat} {cs : List (Nat × RowC)}
theorem awp_cap {c : Code} (k : Nat) {t sz : Nat} {es : List (List RV)} (hc : lookc cs k = .arr t sz es) (hne : 0 < es.length) (h : ∀ c0, es.length ≤ c0 → awp P C c Q (st n l vs (insc cs k (.arc t sz es c0)))) : awp P C c Q (st n l vs cs) :=
  awp_capR k hc hne fun c0 hl => by rw [st_row]; exact h c0 hl
theorem sub_uncap (k : Nat) {t sz c0 : Nat} {es : List (List RV)} (hc : lookc cs k = .arc t sz es c0) : Sub (st n l vs cs) (st n l vs (insc cs k (.arr t sz es))) := by
  have := sub_uncapR (s := st n l vs cs) k hc
  rwa [st_row] at this
theorem sub_full (t k : Nat) {sz ty : Nat} {es : List (List RV)} (hk0 : k < 1000) (ht : look l t = .os k (vs k) sz 0 es.length) (hc : lookc cs k = .arc ty sz es es.length) (hne : 0 < es.length) :
    Sub (st n l vs cs) (st n ((t, .r (.sx sz es)) :: l) (upd vs k (vs k + 1)) (delc cs k)) := by
  have := sub_fullR (s := st n l vs cs) t k (vs k) sz ty hk0 ht rfl hc hne
  have e : ({ st n l vs cs with tm := upd (st n l vs cs).tm t (.r (.sx sz es)), rows := upd (st n l vs cs).rows k ⟨((st n l vs cs).rows k).ver + 1, .dead⟩ } : AS) = st n ((t, .r (.sx sz es)) :: l) (upd vs k (vs k + 1)) (delc cs k) := by
    simp only [st, AS.mk.injEq, true_and]
    constructor
    · funext j
      show upd (look l) t (.r (.sx sz es)) j = look ((t, .r (.sx sz es)) :: l) j
      rfl
    · funext j
      rw [lookc_delc]
      unfold upd
      split <;> rfl
  rwa [e] at this
/-- Plain data without room is plain data. -/
theorem sub_sx (t : Nat) {sz : Nat} {es : List (List RV)} (h : look l t = .r (.sx sz es)) : Sub (st n l vs cs) (st n ((t, .r (.sl sz es)) :: l) vs cs) := fun C a w ⟨p, hp⟩ => by
  refine ⟨p, { hp with tm := fun j => ?_ }⟩
  show AV.rel w _ _ (look ((t, .r (.sl sz es)) :: l) j) _
  rw [look_cons]
  split
  · rename_i e
    subst e
    have := hp.tm j
    have e2 : (st n l vs cs).tm j = .r (.sx sz es) := h
    rw [e2] at this
    simp only [AV.rel, RV.rel] at this ⊢
    obtain ⟨ad, h1, h2, h3, h4, h5⟩ := this
    exact ⟨_, _, h1, Nat.le_refl _, h3, fun _ => ⟨ad, rfl, h4, h5⟩⟩
  · exact hp.tm j
end
end Go.Oc

/- The law of nights of matches returns true. -/
namespace Go.Proofs.Ytaniakoadbkadaa
open Go Go.Oc
set_option linter.unusedSimpArgs false
set_option linter.unusedVariables false
set_option maxRecDepth 8000
set_option maxHeartbeats 4000000
abbrev gsR (gs : List (List Int)) : RV := .sl 1 (gs.map fun b => [bytesR b])
def XB (L f : Int) (ws : List Int) : Sc := if ws = [] then ⟨0, 0, 0, 0, 0, -1⟩ else playX L f ws
theorem XB_legs (L f : Int) (ws : List Int) : (XB L f ws).l0 = (playX L f ws).l0 ∧ (XB L f ws).l1 = (playX L f ws).l1 ∧ (XB L f ws).wi = (playX L f ws).wi := by
  unfold XB
  split
  · rename_i h; subst h; exact ⟨rfl, rfl, rfl⟩
  · exact ⟨rfl, rfl, rfl⟩
theorem fitV_sub {n : Nat} {F : (Nat → Nat) → List (Nat × AV)} {R : (Nat → Nat) → List (Nat × RowC)} {s s' : AS} (h : Sub s s') (hf : FitV n F R s') : FitV n F R s := by
  obtain ⟨vs, hf⟩ := hf
  exact ⟨vs, h.trans hf⟩
theorem law7 (gs : List (List Int)) (hgs : ∀ b ∈ gs, ∀ x ∈ b, 0 ≤ x ∧ x ≤ 255) (lb : List Int) (hlb : ∀ x ∈ lb, 0 ≤ x ∧ x ≤ 255) (bn : Int) (hbn : 0 ≤ bn ∧ bn ≤ 255) : ACalls Try.prog 3 [gsR gs, bytesR lb, .it .u8 bn] (.bo true) := by
  obtain ⟨bo, hbo⟩ : ∃ bo, bo = bn % 9 := ⟨_, rfl⟩
  have hbo1 : 0 ≤ bo ∧ bo ≤ 8 := by omega
  have tb : Int.tmod bn 9 = bo := by rw [hbo]; exact Int.tmod_eq_emod_of_nonneg hbn.1
  refine acalls_st (rs := [.bo true]) [.tmp 6] Try.func3 rfl (by kernel_rfl) Try.ntmps3 rfl (by simp) rfl fun C vs => ?_
  repeat refine awp_seq ?_
  refine awp_reg (by kernel_rfl) fun K hK => ?_
  simp only [go_sem]
  (try simp (disch := omega) only [wrapI])
  repeat first | intro _ | refine ⟨(by omega), ?_⟩ | refine ⟨⟨by omega, by omega⟩, ?_⟩
  refine hK _ ?_
  clear hK K
  refine awp_sub (sub_keep [0, 1, 2]) ?_
  simp only [go_sem]
  repeat refine awp_seq ?_
  refine awp_reg (by kernel_rfl) fun K hK => ?_
  simp only [go_sem]
  (try simp (disch := omega) only [wrapI])
  repeat first | intro _ | refine ⟨(by omega), ?_⟩ | refine ⟨⟨by omega, by omega⟩, ?_⟩
  refine hK _ ?_
  clear hK K
  simp only [tb]
  refine awp_sub (sub_keep [0, 1, 7, 8]) ?_
  simp only [go_sem]
  repeat refine awp_seq ?_
  refine awp_reg (by kernel_rfl) fun K hK => ?_
  simp only [go_sem]
  (try simp (disch := omega) only [wrapI])
  repeat first | intro _ | refine ⟨(by omega), ?_⟩ | refine ⟨⟨by omega, by omega⟩, ?_⟩
  refine hK _ ?_
  clear hK K
  refine awp_sub (sub_keep [0, 1, 7, 8, 9, 10]) ?_
  simp only [go_sem]
  repeat refine awp_seq ?_
  refine awp_reg (by kernel_rfl) fun K hK => ?_
  simp only [go_sem]
  (try simp (disch := omega) only [wrapI])
  repeat first | intro _ | refine ⟨(by omega), ?_⟩ | refine ⟨⟨by omega, by omega⟩, ?_⟩
  refine hK _ ?_
  clear hK K
  refine awp_sub (sub_keep [0, 1, 7, 8, 9, 10, 11]) ?_
  simp only [go_sem]
  repeat refine awp_seq ?_
  refine awp_block ?_
  refine awp_sub (sub_ownB 7 1 58 33 3 (by omega) (by omega) rfl rfl) ?_
  refine awp_sub (sub_own 8 158 41 4 (by omega) rfl) ?_
  try simp only [go_sem]
  refine awp_whileV (n := 192) (fun (xs : List (Int × Sc)) vs => [(0, .r (gsR gs)), (1, .r (bytesR lb)), (7, .pt 7 (vs 7) 0), (8, .os 158 (vs 158) 4 0 xs.length), (9, .pt 9 (vs 9) 0), (10, .pt 10 (vs 10) 0), (11, .r (i64 xs.length))])
    (fun xs vs => [(7, .box [.r (i64 2), .os 58 (vs 58) 3 0 xs.length, .r (i64 9), .r (i64 bo)]), (9, .box [.r (i64 (won0 xs)), .r (i64 (won1 xs))]), (10, .box [.r (i64 (all0 xs)), .r (i64 (all1 xs))]), (58, .arr 33 3 ((gamesX xs).map gameC)), (158, .arr 41 4 ((sheetsX xs).map sheetC))])
    (fun xs => xs.length ≤ 6 ∧ ∀ e ∈ xs, FinE e) (fun xs => 10 - xs.length) [] (fitV_of [] ?_ ?_) ⟨by simp, by simp⟩ ?_
  · try simp only [go_sem]
  · try simp only [go_sem]
    try simp [gamesX, sheetsX, won0, won1, all0, all1]
  · rintro xs vs ⟨hx6, hfin⟩
    obtain ⟨ab1, ab2, ab3, ab4⟩ := all_bounds hfin
    have hgl := gamesX_len xs
    have hsl := sheetsX_len xs
    repeat refine awp_seq ?_
    refine awp_joinV (n := 192) (fun (b : Bool) vs => [(41, .r (.bo b)), (0, .r (gsR gs)), (1, .r (bytesR lb)), (7, .pt 7 (vs 7) 0), (8, .os 158 (vs 158) 4 0 xs.length), (9, .pt 9 (vs 9) 0), (10, .pt 10 (vs 10) 0), (11, .r (i64 xs.length))]) (fun _ vs => [(7, .box [.r (i64 2), .os 58 (vs 58) 3 0 xs.length, .r (i64 9), .r (i64 bo)]), (9, .box [.r (i64 (won0 xs)), .r (i64 (won1 xs))]), (10, .box [.r (i64 (all0 xs)), .r (i64 (all1 xs))]), (58, .arr 33 3 ((gamesX xs).map gameC)), (158, .arr 41 4 ((sheetsX xs).map sheetC))]) (fun b => (b = true → xs.length < 6) ∧ (b = false → 1 ≤ xs.length)) (fun _ h => h) ?_ ?_
    · by_cases h0 : xs.length = 0
      · have c1 : ((xs.length : Int) == 0) = true := by
          have : (xs.length : Int) = 0 := by omega
          rw [this]; rfl
        repeat refine awp_seq ?_
        refine awp_reg (by kernel_rfl) fun K hK => ?_
        simp only [go_sem, c1]
        (try simp (disch := omega) only [wrapI])
        repeat first | intro _ | refine ⟨(by omega), ?_⟩ | refine ⟨⟨by omega, by omega⟩, ?_⟩
        refine hK _ ?_
        clear hK K
        refine ⟨true, ⟨fun _ => by omega, by simp⟩, fitV_of [] (by try simp only [go_sem]) (by try simp only [go_sem])⟩
      · have c1 : ((xs.length : Int) == 0) = false := beq_eq_false_iff_ne.2 (by omega)
        by_cases h1 : xs.length < gs.length
        · by_cases h2 : xs.length < 6
          · have c2 : decide (xs.length < gs.length) = true := by simp; omega
            have c3 : decide ((xs.length : Int) < 6) = true := by simp; omega
            repeat refine awp_seq ?_
            refine awp_reg (by kernel_rfl) fun K hK => ?_
            simp only [go_sem, c1, c2, c3]
            (try simp (disch := omega) only [wrapI])
            intros
            repeat first | intro _ | refine ⟨(by omega), ?_⟩ | refine ⟨⟨by omega, by omega⟩, ?_⟩
            refine hK _ ?_
            clear hK K
            refine ⟨true, ⟨fun _ => by omega, by simp⟩, fitV_of [] (by try simp only [go_sem]) (by try simp only [go_sem])⟩
          · have c2 : decide (xs.length < gs.length) = true := by simp; omega
            have c3 : decide ((xs.length : Int) < 6) = false := by simp; omega
            repeat refine awp_seq ?_
            refine awp_reg (by kernel_rfl) fun K hK => ?_
            simp only [go_sem, c1, c2, c3]
            (try simp (disch := omega) only [wrapI])
            intros
            repeat first | intro _ | refine ⟨(by omega), ?_⟩ | refine ⟨⟨by omega, by omega⟩, ?_⟩
            refine hK _ ?_
            clear hK K
            refine ⟨false, ⟨by simp, fun _ => by omega⟩, fitV_of [] (by try simp only [go_sem]) (by try simp only [go_sem])⟩
        · have c2 : decide (xs.length < gs.length) = false := by simp; omega
          repeat refine awp_seq ?_
          refine awp_reg (by kernel_rfl) fun K hK => ?_
          simp only [go_sem, c1, c2]
          (try simp (disch := omega) only [wrapI])
          intros
          repeat first | intro _ | refine ⟨(by omega), ?_⟩ | refine ⟨⟨by omega, by omega⟩, ?_⟩
          refine hK _ ?_
          clear hK K
          refine ⟨false, ⟨by simp, fun _ => by omega⟩, fitV_of [] (by try simp only [go_sem]) (by try simp only [go_sem])⟩
    intro b vs hb
    refine awp_sub (sub_keep [0, 1, 7, 8, 9, 10, 11, 41]) ?_
    simp only [go_sem]
    cases b with
    | true =>
      have hx5 : xs.length < 6 := hb.1 rfl
      repeat refine awp_seq ?_
      refine awp_cond rfl (fun hc => ?_) (fun hc => ?_) <;> (try simp only [go_sem] at hc)
      obtain ⟨f, hf⟩ : ∃ f : Int, f = (xs.length : Int) % 2 := ⟨_, rfl⟩
      have tf : Int.tmod (xs.length : Int) 2 = f := by rw [hf]; exact Int.tmod_eq_emod_of_nonneg (by omega)
      have hf2 : 0 ≤ f ∧ f ≤ 1 := by omega
      have hf01 : f = 0 ∨ f = 1 := by omega
      have hN := byteAt_in hlb xs.length
      obtain ⟨N, hNe⟩ : ∃ N, N = byteAt lb xs.length := ⟨_, rfl⟩
      rw [← hNe] at hN
      obtain ⟨L, hL⟩ : ∃ L, L = 1 + N % 15 := ⟨_, rfl⟩
      have t15 : Int.tmod N 15 = N % 15 := Int.tmod_eq_emod_of_nonneg hN.1
      have hL1 : 1 ≤ L ∧ L ≤ 15 := by omega
      refine awp_skip ?_
      try simp only [go_sem]
      repeat refine awp_seq ?_
      refine awp_block ?_
      repeat refine awp_seq ?_
      refine awp_reg (by kernel_rfl) fun K hK => ?_
      simp only [go_sem]
      (try simp (disch := omega) only [wrapI])
      refine xcall_eq (pubByte_ok lb hlb xs.length) rfl (by simp only [go_sem, i64, ints]) (by simp only [go_sem, i64, ints]) (by first | exact .inl rfl | exact .inr rfl) ?_
      (try simp only [go_sem])
      (try simp (disch := omega) only [wrapI])
      repeat first | intro _ | refine ⟨(by omega), ?_⟩ | refine ⟨⟨by omega, by omega⟩, ?_⟩
      refine hK _ ?_
      clear hK K
      rw [← hNe]
      have wL : IntKind.i64.wrap L = L := by rw [wrapI] <;> omega
      simp only [t15, tf, ← hL, wL]
      refine awp_sub (sub_keep [0, 1, 7, 8, 9, 10, 11, 12]) ?_
      simp only [go_sem]
      refine awp_sub (sub_frzP 12 12 (maC L f) (by omega) rfl rfl) ?_
      refine awp_sub (sub_keep [0, 1, 7, 8, 9, 10, 11, 12]) ?_
      simp only [go_sem]
      repeat refine awp_seq ?_
      refine awp_reg (by kernel_rfl) fun K hK => ?_
      simp only [go_sem, hgl]
      (try simp (disch := omega) only [wrapI])
      refine ⟨⟨by omega, by omega⟩, ?_⟩
      repeat first | intro _ | refine ⟨(by omega), ?_⟩ | refine ⟨⟨by omega, by omega⟩, ?_⟩
      refine hK _ ?_
      clear hK K
      refine awp_sub (sub_keep [0, 1, 7, 8, 9, 10, 11, 12]) ?_
      simp only [go_sem]
      repeat refine awp_seq ?_
      refine awp_reg (by kernel_rfl) fun K hK => ?_
      simp only [go_sem]
      (try simp (disch := omega) only [wrapI])
      repeat first | intro _ | refine ⟨(by omega), ?_⟩ | refine ⟨⟨by omega, by omega⟩, ?_⟩
      refine hK _ ?_
      clear hK K
      refine awp_sub (sub_keep [0, 1, 7, 8, 9, 10, 11, 12, 13, 14]) ?_
      simp only [go_sem]
      repeat refine awp_seq ?_
      refine awp_block ?_
      refine awp_sub (sub_own 13 80 3 1 (by omega) rfl) ?_
      try simp only [go_sem]
      refine awp_whileV (n := 192) (fun (ws : List Int) vs => [(0, .r (gsR gs)), (1, .r (bytesR lb)), (7, .pt 7 (vs 7) 0), (8, .os 158 (vs 158) 4 0 xs.length), (9, .pt 9 (vs 9) 0), (10, .pt 10 (vs 10) 0), (11, .r (i64 xs.length)), (12, .r (.rp (maC L f))), (13, .os 80 (vs 80) 1 0 ws.length), (14, .pt 14 (vs 14) 0)])
        (fun ws vs => [(7, .box [.r (i64 2), .os 58 (vs 58) 3 0 (xs.length + 1), .r (i64 9), .r (i64 bo)]), (9, .box [.r (i64 (won0 xs)), .r (i64 (won1 xs))]), (10, .box [.r (i64 (all0 xs + (XB L f ws).l0)), .r (i64 (all1 xs + (XB L f ws).l1))]), (14, .box [.r (i64 (XB L f ws).s0), .r (i64 (XB L f ws).s1), .r (i64 (XB L f ws).l0), .r (i64 (XB L f ws).l1), .r (i64 (XB L f ws).fi), .r (i64 (XB L f ws).wi)]), (58, .arr 33 3 ((gamesX xs).map gameC ++ [[i64 1, i64 L, i64 1]])), (80, .arr 3 1 (ws.map fun x => [i64 x])), (158, .arr 41 4 ((sheetsX xs).map sheetC))])
        (fun ws => Legs L f ws) (fun ws => 40 - ws.length) [] (fitV_of [] ?_ ?_) (legs_nil hL1.1 hf2) ?_
      · try simp only [go_sem]
      · try simp only [go_sem]
        try simp [XB]
      · intro ws vs hlg
        obtain ⟨xb0, xb1, xbw⟩ := XB_legs L f ws
        have hsum := hlg.sum
        repeat refine awp_seq ?_
        refine awp_reg (by kernel_rfl) fun K hK => ?_
        simp only [go_sem]
        (try simp (disch := omega) only [wrapI])
        repeat first | intro _ | refine ⟨(by omega), ?_⟩ | refine ⟨⟨by omega, by omega⟩, ?_⟩
        refine hK _ ?_
        clear hK K
        refine awp_sub (sub_keep [0, 1, 7, 8, 9, 10, 11, 12, 13, 14, 64]) ?_
        simp only [go_sem]
        repeat refine awp_seq ?_
        refine awp_cond rfl (fun hc => ?_) (fun hc => ?_) <;> (try simp only [go_sem] at hc)
        · have hwi : (playX L f ws).wi < 0 := by rw [← xbw]; first | exact hc | omega
          have hop : OpenX L (playX L f ws) := hlg.ok.resolve_right fun h => by rcases h with h | h <;> omega
          have hwl : ws.length ≤ 28 := by
            obtain ⟨_, _, o3, o4, _⟩ := hop
            omega
          refine awp_skip ?_
          try simp only [go_sem]
          repeat refine awp_seq ?_
          refine awp_block ?_
          repeat refine awp_seq ?_
          refine awp_reg (by kernel_rfl) fun K hK => ?_
          simp only [go_sem]
          (try simp (disch := omega) only [wrapI])
          repeat first | intro _ | refine ⟨(by omega), ?_⟩ | refine ⟨⟨by omega, by omega⟩, ?_⟩
          refine hK _ ?_
          clear hK K
          refine awp_sub (sub_keep [0, 1, 7, 8, 9, 10, 11, 12, 13, 14, 16]) ?_
          simp only [go_sem]
          repeat refine awp_seq ?_
          repeat refine awp_seq ?_
          refine awp_reg (by kernel_rfl) fun K hK => ?_
          simp only [go_sem]
          (try simp (disch := omega) only [wrapI])
          repeat first | intro _ | refine ⟨(by omega), ?_⟩ | refine ⟨⟨by omega, by omega⟩, ?_⟩
          refine hK _ ?_
          clear hK K
          refine awp_sub (sub_keep [0, 1, 7, 8, 9, 10, 11, 12, 13, 14, 16, 68]) ?_
          simp only [go_sem]
          repeat refine awp_seq ?_
          refine awp_joinV (n := 192) (fun (p : Int) vs => [(0, .r (gsR gs)), (1, .r (bytesR lb)), (7, .pt 7 (vs 7) 0), (8, .os 158 (vs 158) 4 0 xs.length), (9, .pt 9 (vs 9) 0), (10, .pt 10 (vs 10) 0), (11, .r (i64 xs.length)), (12, .r (.rp (maC L f))), (13, .os 80 (vs 80) 1 0 ws.length), (14, .pt 14 (vs 14) 0), (16, .r (i64 p))]) (fun _ vs => [(7, .box [.r (i64 2), .os 58 (vs 58) 3 0 (xs.length + 1), .r (i64 9), .r (i64 bo)]), (9, .box [.r (i64 (won0 xs)), .r (i64 (won1 xs))]), (10, .box [.r (i64 (all0 xs + (XB L f ws).l0)), .r (i64 (all1 xs + (XB L f ws).l1))]), (14, .box [.r (i64 (XB L f ws).s0), .r (i64 (XB L f ws).s1), .r (i64 (XB L f ws).l0), .r (i64 (XB L f ws).l1), .r (i64 (XB L f ws).fi), .r (i64 (XB L f ws).wi)]), (58, .arr 33 3 ((gamesX xs).map gameC ++ [[i64 1, i64 L, i64 1]])), (80, .arr 3 1 (ws.map fun x => [i64 x])), (158, .arr 41 4 ((sheetsX xs).map sheetC))]) (fun p => p = 0 ∨ p = 1) (fun _ h => h) ?_ ?_
          · by_cases hg2 : xs.length < gs.length
            · have c2 : decide (xs.length < gs.length) = true := by simp; omega
              obtain ⟨b, hb⟩ := opt_of_lt hg2
              have hB := byteAt_in (hgs b (mem_of_opt hb)) ws.length
              have hcall := pubByte_ok b (hgs b (mem_of_opt hb)) ws.length
              obtain ⟨M, hM⟩ : ∃ M, M = byteAt b ws.length := ⟨_, rfl⟩
              rw [← hM] at hB hcall
              have t2 : Int.tmod M 2 = M % 2 := Int.tmod_eq_emod_of_nonneg hB.1
              rw [c2]
              repeat refine awp_seq ?_
              refine awp_cond rfl (fun hc => ?_) (fun hc => ?_) <;> (try simp only [go_sem] at hc)
              repeat refine awp_seq ?_
              refine awp_reg (by kernel_rfl) fun K hK => ?_
              simp only [go_sem, hb, hg2]
              (try simp (disch := omega) only [wrapI])
              intros
              refine xcall_eq (hcall) rfl (by simp only [go_sem, i64, ints]) (by simp only [go_sem, i64, ints]) (by first | exact .inl rfl | exact .inr rfl) ?_
              (try simp only [go_sem])
              (try simp (disch := omega) only [wrapI])
              repeat first | intro _ | refine ⟨(by omega), ?_⟩ | refine ⟨⟨by omega, by omega⟩, ?_⟩
              refine hK _ ?_
              clear hK K
              simp only [t2]
              refine ⟨M % 2, by omega, fitV_of [] (by try simp only [go_sem]) (by try simp only [go_sem])⟩
            · have c2 : decide (xs.length < gs.length) = false := by simp; omega
              rw [c2]
              repeat refine awp_seq ?_
              refine awp_cond rfl (fun hc => ?_) (fun hc => ?_) <;> (try simp only [go_sem] at hc)
              refine awp_skip ?_
              try simp only [go_sem]
              refine ⟨0, .inl rfl, fitV_of [] (by try simp only [go_sem]) (by try simp only [go_sem])⟩
          intro p vs hp
          have hlg' := legs_snoc hL1.1 hlg hop hp
          have hmc := match_ok L f (ws ++ [p]) hL1 hf01 hlg'.bit
          rw [legs_val hlg'] at hmc
          obtain ⟨_, hl0, hl1⟩ := addX_fin hL1.1 hop hp
          rw [← playX_snoc] at hl0 hl1
          have hxb : XB L f (ws ++ [p]) = playX L f (ws ++ [p]) := by
            unfold XB
            rw [if_neg (by simp)]
          obtain ⟨_, _, o3, o4, _⟩ := hop
          repeat refine awp_seq ?_
          refine awp_reg (by kernel_rfl) fun K hK => ?_
          simp only [go_sem]
          (try simp (disch := omega) only [wrapI])
          refine ⟨⟨by omega, by omega⟩, ?_⟩
          repeat first | intro _ | refine ⟨(by omega), ?_⟩ | refine ⟨⟨by omega, by omega⟩, ?_⟩
          refine hK _ ?_
          clear hK K
          refine awp_sub (sub_keep [0, 1, 7, 8, 9, 10, 11, 12, 13, 14, 16]) ?_
          simp only [go_sem]
          have hmap : (ws.map (fun x => [i64 x]) ++ [[i64 p]]) = (ws ++ [p]).map fun x => [i64 x] := by simp
          have hlen : ws.length + 1 = (ws ++ [p]).length := by simp
          rw [hmap, hlen]
          generalize hw : ws ++ [p] = w at *
          have tkw : List.take w.length (w.map fun x => [i64 x]) = w.map fun x => [i64 x] := List.take_of_length_le (by simp)
          have hwl2 : w.length ≤ 29 := by omega
          repeat refine awp_seq ?_
          refine awp_dreg2 [(12, none), (13, some 80), (14, some 14)] follows (by decide +kernel) (by kernel_rfl) (by simp only [keysOk, List.mem_cons, List.not_mem_nil, forall_eq_or_imp, Oc.keyOf, go_sem]; simp) fun K hK => ?_
          simp only [go_sem, List.length_map, Nat.min_self, Nat.le_refl, true_and, tkw]
          (try simp (disch := omega) only [wrapI])
          refine ⟨⟨by omega, by omega⟩, ?_⟩
          refine xcall_eq (hmc) rfl (by simp only [go_sem, i64, ints, List.length_map, Nat.min_self, Nat.le_refl, tkw]) (by simp only [go_sem, i64, ints, List.length_map, Nat.min_self, Nat.le_refl, tkw]) (by first | exact .inl rfl | exact .inr rfl) ?_
          (try simp only [go_sem, List.length_map, Nat.min_self, Nat.le_refl, tkw])
          (try simp (disch := omega) only [wrapI])
          repeat first | intro _ | refine ⟨(by omega), ?_⟩ | refine ⟨⟨by omega, by omega⟩, ?_⟩
          refine hK _ ?_
          clear hK K
          refine awp_sub (sub_keep [0, 1, 7, 8, 9, 10, 11, 12, 13, 14, 15, 16]) ?_
          simp only [go_sem]
          have c3 : decide (30 < (w.length : Int)) = false := by simp; omega
          repeat refine awp_seq ?_
          refine awp_reg (by kernel_rfl) fun K hK => ?_
          simp only [go_sem, bne_self_eq_false, c3]
          (try simp (disch := omega) only [wrapI])
          intros
          repeat first | intro _ | refine ⟨(by omega), ?_⟩ | refine ⟨⟨by omega, by omega⟩, ?_⟩
          refine hK _ ?_
          clear hK K
          refine awp_sub (sub_keep [0, 1, 7, 8, 9, 10, 11, 12, 13, 14, 16, 96]) ?_
          simp only [go_sem]
          repeat refine awp_seq ?_
          refine awp_cond rfl (fun hc => ?_) (fun hc => ?_) <;> (try simp only [go_sem] at hc)
          refine awp_skip ?_
          try simp only [go_sem]
          rcases hp with rfl | rfl
          · simp only [if_true, if_neg (show ¬ ((1 : Int) = 0) by decide), Int.add_zero] at hl0 hl1
            repeat refine awp_seq ?_
            refine awp_reg (by kernel_rfl) fun K hK => ?_
            simp only [go_sem]
            (try simp (disch := omega) only [wrapI])
            repeat first | intro _ | refine ⟨(by omega), ?_⟩ | refine ⟨⟨by omega, by omega⟩, ?_⟩
            refine hK _ ?_
            clear hK K
            try simp only [go_sem]
            refine ⟨w, hlg', by omega, fitV_of [85] ?_ ?_⟩
            · try simp only [go_sem]
            · try simp only [go_sem]
              simp only [hxb, hl0, hl1, xb0, xb1, Int.add_assoc]
          · simp only [if_true, if_neg (show ¬ ((1 : Int) = 0) by decide), Int.add_zero] at hl0 hl1
            repeat refine awp_seq ?_
            refine awp_reg (by kernel_rfl) fun K hK => ?_
            simp only [go_sem]
            (try simp (disch := omega) only [wrapI])
            repeat first | intro _ | refine ⟨(by omega), ?_⟩ | refine ⟨⟨by omega, by omega⟩, ?_⟩
            refine hK _ ?_
            clear hK K
            try simp only [go_sem]
            refine ⟨w, hlg', by omega, fitV_of [85] ?_ ?_⟩
            · try simp only [go_sem]
            · try simp only [go_sem]
              simp only [hxb, hl0, hl1, xb0, xb1, Int.add_assoc]
        · have hwi : ¬ (playX L f ws).wi < 0 := by rw [← xbw]; first | exact hc | omega
          have hfx : FinX L (playX L f ws) := hlg.ok.resolve_left fun h => by
            have := h.2.2.2.2.2
            omega
          have hlen1 : 1 ≤ ws.length := by rcases hfx with ⟨_, _, _, _⟩ | ⟨_, _, _, _⟩ <;> omega
          have hxb : XB L f ws = playX L f ws := by
            unfold XB
            rw [if_neg (by intro h; rw [h] at hlen1; simp at hlen1)]
          have hmc := match_ok L f (ws ++ [0]) hL1 hf01 (fun q hq => by
            rcases List.mem_append.1 hq with hq | hq
            · exact hlg.bit q hq
            · simp only [List.mem_singleton] at hq; exact .inl hq)
          rw [legs_over hlg hfx] at hmc
          have hlast := hlg.last hfx
          rw [hxb]
          generalize playX L f ws = X at *
          have hfe : FinE (L, X) := ⟨hL1, hfx⟩
          have hwl : ws.length ≤ 29 := by rcases hfx with ⟨_, _, _, _⟩ | ⟨_, _, _, _⟩ <;> omega
          refine awp_exit ?_
          simp only [go_sem]
          repeat refine awp_seq ?_
          refine awp_joinV (n := 192) (fun (_ : Unit) vs => [(0, .r (gsR gs)), (1, .r (bytesR lb)), (7, .pt 7 (vs 7) 0), (8, .os 158 (vs 158) 4 0 xs.length), (9, .pt 9 (vs 9) 0), (10, .pt 10 (vs 10) 0), (11, .r (i64 xs.length)), (13, .r (ints ws)), (14, .pt 14 (vs 14) 0), (18, .r (i64 ws.length)), (19, .r (i64 33))]) (fun _ vs => [(7, .box [.r (i64 2), .os 58 (vs 58) 3 0 (xs.length + 1), .r (i64 9), .r (i64 bo)]), (9, .box [.r (i64 (won0 xs)), .r (i64 (won1 xs))]), (10, .box [.r (i64 (all0 xs + X.l0)), .r (i64 (all1 xs + X.l1))]), (14, .box [.r (i64 X.s0), .r (i64 X.s1), .r (i64 X.l0), .r (i64 X.l1), .r (i64 X.fi), .r (i64 X.wi)]), (58, .arr 33 3 ((gamesX xs).map gameC ++ [[i64 1, i64 L, i64 1]])), (158, .arr 41 4 ((sheetsX xs).map sheetC))]) (fun _ => True) (fun _ h => h) ?_ ?_
          · refine awp_cap 80 rfl (by simp; omega) fun c0 hc0 => ?_
            rw [List.length_map] at hc0
            try simp only [go_sem]
            by_cases hcap : ws.length + 1 ≤ c0
            · have tk0 : List.take (ws.length + 1) (ws.map (fun x => [i64 x]) ++ [[RV.it IntKind.i64 0]]) = ws.map (fun x => [i64 x]) ++ [[RV.it IntKind.i64 0]] := List.take_of_length_le (by simp)
              have tk1 : List.take ws.length (ws.map (fun x => [i64 x]) ++ [[RV.it IntKind.i64 0]]) = ws.map (fun x => [i64 x]) := by rw [List.take_append_of_le_length (by simp), List.take_of_length_le (by simp)]
              repeat refine awp_seq ?_
              refine awp_dreg2 [(12, none), (13, some 80), (14, some 14)] follows (by decide +kernel) (by kernel_rfl) (by simp only [keysOk, List.mem_cons, List.not_mem_nil, forall_eq_or_imp, Oc.keyOf, go_sem]; simp) fun K hK => ?_
              simp only [go_sem, List.length_map, Nat.le_refl, true_and, hcap]
              (try simp (disch := omega) only [wrapI])
              refine xcall_eq (hmc) rfl (by simp only [go_sem, i64, ints, List.map_append, List.map_cons, List.map_nil, List.length_append, List.length_map, Nat.le_refl, Nat.zero_add, tk0]) (by simp only [go_sem, i64, ints, List.map_append, List.map_cons, List.map_nil, List.length_append, List.length_map, Nat.le_refl, Nat.zero_add, tk0]) (by first | exact .inl rfl | exact .inr rfl) ?_
              (try simp only [go_sem, List.map_append, List.map_cons, List.map_nil, List.length_append, List.length_map, Nat.le_refl, Nat.zero_add, tk0])
              (try simp (disch := omega) only [wrapI])
              repeat first | intro _ | refine ⟨(by omega), ?_⟩ | refine ⟨⟨by omega, by omega⟩, ?_⟩
              refine hK _ ?_
              clear hK K
              refine ⟨(), fitV_sub (sub_uncap 80 rfl) ?_⟩
              try simp only [go_sem]
              refine fitV_sub (sub_frz (ty := 3) (sz := 1) (off := 0) (m := ws.length) (es := ws.map (fun x => [i64 x]) ++ [[RV.it IntKind.i64 0]]) 13 80 (by omega) rfl rfl (by simp)) ?_
              simp only [List.drop_zero, tk1]
              refine fitV_of [17] ?_ ?_
              · try simp only [go_sem]
              · try simp only [go_sem]
            · have hc1 : c0 = (ws.map fun x => [i64 x]).length := by rw [List.length_map]; omega
              subst hc1
              refine awp_sub (sub_full 13 80 (by omega) (by rw [List.length_map]; rfl) rfl (by simp; omega)) ?_
              try simp only [go_sem]
              have tk0 : List.take (ws.length + 1) (ws.map (fun x => [i64 x]) ++ [[RV.it IntKind.i64 0]]) = ws.map (fun x => [i64 x]) ++ [[RV.it IntKind.i64 0]] := List.take_of_length_le (by simp)
              repeat refine awp_seq ?_
              refine awp_dreg2 [(12, none), (13, none), (14, some 14)] follows (by decide +kernel) (by kernel_rfl) (by simp only [keysOk, List.mem_cons, List.not_mem_nil, forall_eq_or_imp, Oc.keyOf, go_sem]; simp) fun K hK => ?_
              simp only [go_sem, List.length_map, List.length_append]
              (try simp (disch := omega) only [wrapI])
              refine ⟨⟨by omega, by omega⟩, ?_⟩
              refine xcall_eq (hmc) rfl (by simp only [go_sem, i64, ints, List.map_append, List.map_cons, List.map_nil, List.length_append, List.length_map, Nat.le_refl, Nat.zero_add, tk0]) (by simp only [go_sem, i64, ints, List.map_append, List.map_cons, List.map_nil, List.length_append, List.length_map, Nat.le_refl, Nat.zero_add, tk0]) (by first | exact .inl rfl | exact .inr rfl) ?_
              (try simp only [go_sem, List.map_append, List.map_cons, List.map_nil, List.length_append, List.length_map, Nat.le_refl, Nat.zero_add, tk0])
              (try simp (disch := omega) only [wrapI])
              repeat first | intro _ | refine ⟨(by omega), ?_⟩ | refine ⟨⟨by omega, by omega⟩, ?_⟩
              refine hK _ ?_
              clear hK K
              refine ⟨(), ?_⟩
              refine fitV_sub (sub_sx 13 rfl) ?_
              refine fitV_of [17, 106] ?_ ?_
              · try simp only [go_sem]
              · try simp only [go_sem]
          intro _ vs _
          obtain ⟨j, hj⟩ : ∃ j, ws.length = j + 1 := ⟨ws.length - 1, by omega⟩
          have hwj : ws[j]? = some X.wi := by rw [List.getLast?_eq_getElem?] at hlast; rwa [hj, Nat.add_sub_cancel] at hlast
          have hjl : j < ws.length := by omega
          have e1 : IntKind.i64.wrap ((ws.length : Int) - 1) = (j : Int) := by rw [wrapI] <;> omega
          have e2 : (ws.length : Int) - 1 = (j : Int) := by omega
          have e3 : IntKind.i64.wrap (X.l0 + X.l1) = (ws.length : Int) := by rw [hsum, wrapI] <;> omega
          repeat refine awp_seq ?_
          refine awp_dreg2 [(14, some 14), (13, none), (18, none), (19, none)] follows (by decide +kernel) (by kernel_rfl) (by simp only [keysOk, List.mem_cons, List.not_mem_nil, forall_eq_or_imp, Oc.keyOf, go_sem]; simp) fun K hK => ?_
          simp only [go_sem, bne_self_eq_false, Int.toNat_natCast, e1, e2, e3, hsum, hwj, hjl]
          (try simp (disch := omega) only [wrapI])
          simp only [go_sem, Int.toNat_natCast, hwj, bne_self_eq_false, hsum, e1, e2, e3]
          (try simp (disch := omega) only [wrapI])
          (try simp only [go_sem, Int.toNat_natCast, hwj, bne_self_eq_false, hsum, e1, e2, e3])
          repeat first | intro _ | refine ⟨(by omega), ?_⟩ | refine ⟨⟨by omega, by omega⟩, ?_⟩
          refine hK _ ?_
          clear hK K
          refine awp_sub (sub_keep [0, 1, 7, 8, 9, 10, 11, 14, 141]) ?_
          simp only [go_sem]
          repeat refine awp_seq ?_
          refine awp_cond rfl (fun hc => ?_) (fun hc => ?_) <;> (try simp only [go_sem] at hc)
          refine awp_skip ?_
          try simp only [go_sem]
          have hfin2 : ∀ e ∈ xs ++ [(L, X)], FinE e := fun e he => by
            rcases List.mem_append.1 he with he | he
            · exact hfin e he
            · simp only [List.mem_singleton] at he; rw [he]; exact hfe
          have hfb := finE_bounds hfe
          simp only at hfb
          have hw2 : X.wi = 0 ∨ X.wi = 1 := by rcases hfx with ⟨h, _⟩ | ⟨h, _⟩ <;> simp [h]
          rcases hw2 with hw2 | hw2
          · repeat refine awp_seq ?_
            refine awp_reg (by kernel_rfl) fun K hK => ?_
            simp only [go_sem, hw2]
            (try simp (disch := omega) only [wrapI])
            repeat first | intro _ | refine ⟨(by omega), ?_⟩ | refine ⟨⟨by omega, by omega⟩, ?_⟩
            refine hK _ ?_
            clear hK K
            refine awp_sub (sub_keep [0, 1, 7, 8, 9, 10, 11, 14]) ?_
            simp only [go_sem]
            repeat refine awp_seq ?_
            refine awp_reg (by kernel_rfl) fun K hK => ?_
            simp only [go_sem, hsl]
            (try simp (disch := omega) only [wrapI])
            refine ⟨⟨by omega, by omega⟩, ?_⟩
            repeat first | intro _ | refine ⟨(by omega), ?_⟩ | refine ⟨⟨by omega, by omega⟩, ?_⟩
            refine hK _ ?_
            clear hK K
            refine awp_sub (sub_keep [0, 1, 7, 8, 9, 10, 11]) ?_
            simp only [go_sem]
            repeat refine awp_seq ?_
            refine awp_reg (by kernel_rfl) fun K hK => ?_
            simp only [go_sem]
            (try simp (disch := omega) only [wrapI])
            repeat first | intro _ | refine ⟨(by omega), ?_⟩ | refine ⟨⟨by omega, by omega⟩, ?_⟩
            refine hK _ ?_
            clear hK K
            try simp only [go_sem]
            refine ⟨xs ++ [(L, X)], ⟨by rw [List.length_append, List.length_singleton]; omega, hfin2⟩, by rw [List.length_append, List.length_singleton]; omega, fitV_of [14] ?_ ?_⟩
            · try simp only [go_sem]
              simp
            · try simp only [go_sem]
              simp [won0_snoc, won1_snoc, all0_snoc, all1_snoc, gamesX_snoc, sheetsX_snoc, hw2]
          · repeat refine awp_seq ?_
            refine awp_reg (by kernel_rfl) fun K hK => ?_
            simp only [go_sem, hw2]
            (try simp (disch := omega) only [wrapI])
            repeat first | intro _ | refine ⟨(by omega), ?_⟩ | refine ⟨⟨by omega, by omega⟩, ?_⟩
            refine hK _ ?_
            clear hK K
            refine awp_sub (sub_keep [0, 1, 7, 8, 9, 10, 11, 14]) ?_
            simp only [go_sem]
            repeat refine awp_seq ?_
            refine awp_reg (by kernel_rfl) fun K hK => ?_
            simp only [go_sem, hsl]
            (try simp (disch := omega) only [wrapI])
            refine ⟨⟨by omega, by omega⟩, ?_⟩
            repeat first | intro _ | refine ⟨(by omega), ?_⟩ | refine ⟨⟨by omega, by omega⟩, ?_⟩
            refine hK _ ?_
            clear hK K
            refine awp_sub (sub_keep [0, 1, 7, 8, 9, 10, 11]) ?_
            simp only [go_sem]
            repeat refine awp_seq ?_
            refine awp_reg (by kernel_rfl) fun K hK => ?_
            simp only [go_sem]
            (try simp (disch := omega) only [wrapI])
            repeat first | intro _ | refine ⟨(by omega), ?_⟩ | refine ⟨⟨by omega, by omega⟩, ?_⟩
            refine hK _ ?_
            clear hK K
            try simp only [go_sem]
            refine ⟨xs ++ [(L, X)], ⟨by rw [List.length_append, List.length_singleton]; omega, hfin2⟩, by rw [List.length_append, List.length_singleton]; omega, fitV_of [14] ?_ ?_⟩
            · try simp only [go_sem]
              simp
            · try simp only [go_sem]
              simp [won0_snoc, won1_snoc, all0_snoc, all1_snoc, gamesX_snoc, sheetsX_snoc, hw2]
    | false =>
      have hn1 : 1 ≤ xs.length := hb.2 rfl
      obtain ⟨T, hT, t1, t2, t3, t4, t5⟩ := night_x hfin hn1 hx6 hbo1
      have hnc := night_ok (rulesX xs bo) (sheetsX xs)
      rw [hT] at hnc
      have tkA : List.take xs.length ((gamesX xs).map gameC) = (gamesX xs).map gameC := List.take_of_length_le (by rw [List.length_map, hgl]; exact Nat.le_refl _)
      have tkB : List.take xs.length ((sheetsX xs).map sheetC) = (sheetsX xs).map sheetC := List.take_of_length_le (by rw [List.length_map, hsl]; exact Nat.le_refl _)
      repeat refine awp_seq ?_
      refine awp_cond rfl (fun hc => ?_) (fun hc => ?_) <;> (try simp only [go_sem] at hc)
      refine awp_exit ?_
      simp only [go_sem]
      refine awp_sub (sub_frzB 7 1 58 (by omega) (by omega) rfl rfl rfl (by simp [hgl])) ?_
      simp only [go_sem, List.drop_zero, tkA, List.set_cons_succ, List.set_cons_zero]
      refine awp_sub (sub_frz (ty := 41) (sz := 4) (off := 0) (m := xs.length) (es := (sheetsX xs).map sheetC) 8 158 (by omega) rfl rfl (by simp [hsl])) ?_
      simp only [go_sem, List.drop_zero, tkB]
      refine awp_sub (sub_frzP 7 7 (rulesC (rulesX xs bo)) (by omega) rfl rfl) ?_
      refine awp_sub (sub_frzP 9 9 [i64 (won0 xs), i64 (won1 xs)] (by omega) rfl rfl) ?_
      refine awp_sub (sub_frzP 10 10 [i64 (all0 xs), i64 (all1 xs)] (by omega) rfl rfl) ?_
      refine awp_sub (sub_keep [7, 8, 9, 10]) ?_
      simp only [go_sem]
      repeat refine awp_seq ?_
      refine awp_reg (by kernel_rfl) fun K hK => ?_
      simp only [go_sem]
      (try simp (disch := omega) only [wrapI])
      refine xcall_eq (hnc) rfl (by simp only [go_sem, i64, ints]) (by simp only [go_sem, i64, ints]) (by first | exact .inl rfl | exact .inr rfl) ?_
      (try simp only [go_sem])
      (try simp (disch := omega) only [wrapI])
      repeat first | intro _ | refine ⟨(by omega), ?_⟩ | refine ⟨⟨by omega, by omega⟩, ?_⟩
      refine hK _ ?_
      clear hK K
      refine awp_sub (sub_frzP 20 20 (resC T) (by omega) rfl rfl) ?_
      refine awp_sub (sub_keep [9, 10, 20, 22]) ?_
      simp only [go_sem]
      repeat refine awp_seq ?_
      refine awp_reg (by kernel_rfl) fun K hK => ?_
      simp only [go_sem, t1, t2, t3, t4, t5, List.map_nil, beq_self_eq_true, Bool.and_self, Bool.and_true, Bool.true_and, List.length_nil]
      (try simp (disch := omega) only [wrapI])
      refine xcall_eq (pubLeg_ok) rfl (by simp only [go_sem, i64, ints]) (by simp only [go_sem, i64, ints]) (by first | exact .inl rfl | exact .inr rfl) ?_
      (try simp only [go_sem])
      (try simp (disch := omega) only [wrapI])
      refine xcall_eq (pubTeam_ok) rfl (by simp only [go_sem, i64, ints]) (by simp only [go_sem, i64, ints]) (by first | exact .inl rfl | exact .inr rfl) ?_
      (try simp only [go_sem])
      (try simp (disch := omega) only [wrapI])
      repeat first | intro _ | refine ⟨(by omega), ?_⟩ | refine ⟨⟨by omega, by omega⟩, ?_⟩
      refine hK _ ?_
      clear hK K
      refine awp_sub (sub_keep [6]) ?_
      simp only [go_sem]
      refine awp_ret ?_
      simp only [go_sem]
end Go.Proofs.Ytaniakoadbkadaa

/- What a reading of the arguments says of them: plain data of a shape. -/
namespace Go.Oc
open Go Go.RowKit Go.ChangeShapes Go.WideShapes

inductive Sh where
  | int (k : IntKind)
  | bool
  | sl (es : List Sh)
def fieldsSh (P : Program) (sh : TypeId → Option (List Sh)) : List Field → Nat → Option (List Sh)
  | [], _ => some []
  | f :: fs, o =>
    match sh f.type with
    | some ss => if f.offset == o && ss.length == P.cellsOf f.type then match fieldsSh P sh fs (o + ss.length) with | some q => some (ss ++ q) | none => none else none
    | none => none
/-- The cells of a type. -/
def shape (P : Program) : Nat → TypeId → Option (List Sh)
  | 0, _ => none
  | n + 1, t =>
    match P.underlying t with
    | some (.int k) => some [.int k]
    | some .bool => some [.bool]
    | some (.slice e) =>
      match shape P n e with
      | some ss => if ss.length == P.cellsOf e && decide (0 < ss.length) then some [.sl ss] else none
      | none => none
    | some (.array m e) =>
      match shape P n e with
      | some ss => if ss.length == P.cellsOf e && P.cellsOf t == m * ss.length then some (List.replicate m ss).flatten else none
      | none => none
    | some (.struct fs) =>
      match fieldsSh P (shape P n) fs.toList 0 with
      | some ss => if ss.length == P.cellsOf t then some ss else none
      | none => none
    | _ => none
mutual
def Fits : Sh → RV → Prop
  | .int k, x => ∃ n, x = .it k n ∧ (Lit.int k n).wf = true
  | .bool, x => ∃ b, x = .bo b
  | .sl ss, x => ∃ es, x = .sl ss.length es ∧ FitsE ss es
def FitsL : List Sh → List RV → Prop
  | [], xs => xs = []
  | s :: ss, xs => ∃ y ys, xs = y :: ys ∧ Fits s y ∧ FitsL ss ys
def FitsE (ss : List Sh) : List (List RV) → Prop
  | [] => True
  | e :: es => FitsL ss e ∧ FitsE ss es
end

theorem fitsL_append : ∀ {s1 s2 : List Sh} {x1 x2 : List RV}, FitsL s1 x1 → FitsL s2 x2 → FitsL (s1 ++ s2) (x1 ++ x2)
  | [], _, _, _, h1, h2 => by simp only [FitsL] at h1; subst h1; simpa using h2
  | s :: ss, s2, x1, x2, h1, h2 => by
    simp only [FitsL] at h1
    obtain ⟨y, ys, rfl, h3, h4⟩ := h1
    simp only [List.cons_append, FitsL]
    exact ⟨y, _, rfl, h3, fitsL_append h4 h2⟩
theorem fitsL_length : ∀ {ss : List Sh} {xs : List RV}, FitsL ss xs → xs.length = ss.length
  | [], _, h => by simp only [FitsL] at h; subst h; rfl
  | s :: ss, _, h => by
    simp only [FitsL] at h
    obtain ⟨y, ys, rfl, _, h⟩ := h
    simp [fitsL_length h]
theorem fitsE_of : ∀ {ss : List Sh} {es : List (List RV)}, (∀ e ∈ es, FitsL ss e) → FitsE ss es
  | _, [], _ => by simp only [FitsE]
  | ss, e :: es, h => by simp only [FitsE]; exact ⟨h e (by simp), fitsE_of fun x hx => h x (by simp [hx])⟩
theorem choice {α : Type} {Q : Nat → α → Prop} : ∀ (n : Nat), (∀ i, i < n → ∃ x, Q i x) → ∃ xs : List α, xs.length = n ∧ ∀ i x, xs[i]? = some x → Q i x
  | 0, _ => ⟨[], rfl, by simp⟩
  | n + 1, h => by
    obtain ⟨xs, hl, hx⟩ := choice n fun i hi => h i (by omega)
    obtain ⟨y, hy⟩ := h n (by omega)
    refine ⟨xs ++ [y], by simp [hl], fun i x hi => ?_⟩
    by_cases h1 : i < n
    · rw [List.getElem?_append_left (by omega)] at hi; exact hx i x hi
    · rw [List.getElem?_append_right (by omega)] at hi
      have : i = n := by have := (List.getElem?_eq_some_iff.1 hi).1; simp at this; omega
      subst this
      simp [hl] at hi
      exact hi ▸ hy
section
variable {w : World} {P : Program}
theorem cells?_get {base n : Nat} {a : Addr} {cs : List Value} (h : w.cells? base a n = some cs) : cs.length = n ∧ ∀ i, i < n → w.cell? (a.add i) = cs[i]? := by
  unfold World.cells? at h
  split at h
  · exact ⟨by simpa using mapM_some_length h, fun i hi => mapM_some_get h i i (by simp [hi])⟩
  · cases h
theorem cell_lt {a : Addr} {v : Value} (h : w.cell? a = some v) : a.block < w.heap.size := by
  refine Decidable.byContradiction fun hn => ?_
  have : w.heap[a.block]? = none := by simp; omega
  simp [World.cell?, this] at h
/-- All that was there. -/
def old (w : World) : Nat → Prop := fun b => b < w.heap.size
theorem relC_of_cells {xs : List RV} {cs : List Value} {ad : Addr} (hV : RV.relV w (old w) xs cs) (hone : ∀ u ∈ cs, u.oneCell' = true) (hc : ∀ i, i < cs.length → w.cell? (ad.add i) = cs[i]?) : RV.relC w (old w) xs ad 0 := by
  refine RV.relC_of_get fun i x hx => ?_
  obtain ⟨u, hu, hr⟩ := RV.relV_get hV hx
  have hi := (List.getElem?_eq_some_iff.1 hu).1
  refine ⟨u, ?_, hone u (List.mem_of_getElem? hu), hr⟩
  rw [Nat.zero_add, hc i hi, hu]

variable {H : Type} {enc : TypeId × Value → H} {base : Nat} {spare : Nat → Bool} {held : Bool}
def Good3 (w : World) (ss : List Sh) (cs : List Value) : Prop := ∃ xs, FitsL ss xs ∧ RV.relV w (old w) xs cs ∧ ∀ u ∈ cs, u.oneCell' = true
theorem good3_append {s1 s2 : List Sh} {c1 c2 : List Value} (h1 : Good3 w s1 c1) (h2 : Good3 w s2 c2) : Good3 w (s1 ++ s2) (c1 ++ c2) := by
  obtain ⟨x1, f1, r1, o1⟩ := h1
  obtain ⟨x2, f2, r2, o2⟩ := h2
  refine ⟨x1 ++ x2, fitsL_append f1 f2, RV.relV_append r1 r2, fun u hu => ?_⟩
  rcases List.mem_append.1 hu with hu | hu
  · exact o1 u hu
  · exact o2 u hu
theorem good3_length {ss : List Sh} {cs : List Value} (h : Good3 w ss cs) : cs.length = ss.length := by
  obtain ⟨xs, f, r, _⟩ := h
  rw [RV.relV_length r, fitsL_length f]
theorem trod_fits : ∀ (fuel n : Nat) (t : TypeId) (cs : List Value) (x : DataW H × List MemPlace) (ss : List Sh), DataW.trod enc P w base spare held fuel t cs = some x → shape P n t = some ss → Good3 w ss cs := by
  intro fuel
  induction fuel with
  | zero => intro n t cs x ss h; simp [DataW.trod] at h
  | succ fuel ih =>
    intro n t cs x ss h hs
    cases n with
    | zero => simp [shape] at hs
    | succ n =>
      unfold shape at hs
      split at hs
      · rename_i k ht
        injection hs with hs; subst hs
        obtain ⟨m, rfl, _, hw⟩ := DataW.trod_int ht h
        exact ⟨[.it k m], by simp only [FitsL, Fits]; exact ⟨_, [], rfl, ⟨m, rfl, hw⟩, rfl⟩, by simp only [RV.relV, RV.rel]; exact ⟨_, [], rfl, rfl, rfl⟩, by simp [Value.oneCell']⟩
      · rename_i ht
        injection hs with hs; subst hs
        obtain ⟨b, rfl, _⟩ := DataW.trod_bool ht h
        exact ⟨[.bo b], by simp only [FitsL, Fits]; exact ⟨_, [], rfl, ⟨b, rfl⟩, rfl⟩, by simp only [RV.relV, RV.rel]; exact ⟨_, [], rfl, rfl, rfl⟩, by simp [Value.oneCell']⟩
      · rename_i e ht
        split at hs
        · rename_i es hes
          split at hs
          · rename_i hc
            simp only [Bool.and_eq_true, beq_iff_eq, decide_eq_true_eq] at hc
            injection hs with hs; subst hs
            rcases DataW.trod_slice ht h with ⟨rfl, _⟩ | ⟨a, len, cap, elems, rest, m, hm, rfl, _, _, hlc, hcm, hel, hget, _⟩
            · refine ⟨[.sl es.length []], ?_, ?_, by simp [Value.oneCell']⟩
              · simp only [FitsL, Fits]
                exact ⟨_, [], rfl, ⟨[], rfl, by simp only [FitsE]⟩, rfl⟩
              · simp only [RV.relV, RV.rel]
                exact ⟨_, [], rfl, ⟨none, 0, rfl, Nat.le_refl _, Nat.zero_le _, fun h => absurd rfl h⟩, rfl⟩
            · injection hm with hm; subst hm
              have hall : ∀ i, i < len → ∃ e', FitsL es e' ∧ e'.length = es.length ∧ RV.relC w (old w) e' (a.add (i * es.length)) 0 ∧ a.block < w.heap.size := fun i hi => by
                have h1 := hget i hi
                have h2 : i < elems.length := by omega
                rw [List.getElem?_eq_getElem h2] at h1
                obtain ⟨ci, hci, htr⟩ := Option.bind_eq_some_iff.1 h1
                rw [← hc.1] at hci
                obtain ⟨hl, hcell⟩ := cells?_get hci
                obtain ⟨xs, f, r, o⟩ := ih n e ci _ es htr hes
                refine ⟨xs, f, fitsL_length f, relC_of_cells r o (fun j hj => hcell j (by omega)), ?_⟩
                have h3 := hcell 0 hc.2
                have h4 : 0 < ci.length := by omega
                rw [List.getElem?_eq_getElem h4] at h3
                have := cell_lt h3
                rwa [block_add, block_add] at this
              obtain ⟨els, hlen, hels⟩ := choice len hall
              refine ⟨[.sl es.length els], ?_, ?_, by simp [Value.oneCell']⟩
              · simp only [FitsL, Fits]
                refine ⟨_, [], rfl, ⟨els, rfl, fitsE_of fun e' he' => ?_⟩, rfl⟩
                obtain ⟨i, hi⟩ := List.getElem?_of_mem he'
                exact (hels i e' hi).1
              · simp only [RV.relV, RV.rel]
                refine ⟨_, [], rfl, ⟨some a, cap, by rw [hlen], by omega, hcm, fun hne => ?_⟩, rfl⟩
                obtain ⟨e0, he0⟩ : ∃ e0, els[0]? = some e0 := by
                  cases els with
                  | nil => exact absurd rfl hne
                  | cons a l => exact ⟨a, rfl⟩
                refine ⟨a, rfl, (hels 0 e0 he0).2.2.2, RV.relE_of_get fun i e' he' => ?_⟩
                obtain ⟨_, q1, q2, _⟩ := hels i e' he'
                exact ⟨q1, RV.relC_unbase _ q2⟩
          · cases hs
        · cases hs
      · rename_i m e ht
        split at hs
        · rename_i es hes
          split at hs
          · rename_i hc
            simp only [Bool.and_eq_true, beq_iff_eq] at hc
            injection hs with hs; subst hs
            obtain ⟨xs, fm, hm, _, hcl, hxl, hget⟩ := DataW.trod_array ht h
            injection hm with hm; subst hm
            have key : ∀ j, j ≤ m → Good3 w (List.replicate j es).flatten (cs.take (j * es.length)) := by
              intro j
              induction j with
              | zero => intro _; exact ⟨[], by simp [FitsL], by simp [RV.relV], by simp⟩
              | succ j ihj =>
                intro hj
                have h1 := hget j (by omega)
                have h2 : j < xs.length := by omega
                rw [List.getElem?_eq_getElem h2, ← hc.1] at h1
                have h3 := ih n e _ _ es h1 hes
                have := good3_append (ihj (by omega)) h3
                rw [← List.take_add] at this
                rw [List.replicate_succ', List.flatten_append, Nat.add_mul]
                simpa using this
            have := key m (Nat.le_refl _)
            rwa [← hc.2, ← hcl, List.take_length] at this
          · cases hs
        · cases hs
      · rename_i fs ht
        split at hs
        · rename_i q hq
          split at hs
          · rename_i hc
            simp only [beq_iff_eq] at hc
            injection hs with hs; subst hs
            obtain ⟨xs, fm, hm, _, hcl, hxl, hget⟩ := DataW.trod_struct ht h
            injection hm with hm; subst hm
            have key : ∀ (l : List Field) (o : Nat) (q : List Sh), (∀ f ∈ l, ∃ y, DataW.trod enc P w base spare held fuel f.type ((cs.drop f.offset).take (P.cellsOf f.type)) = some y) → fieldsSh P (shape P n) l o = some q → Good3 w q ((cs.drop o).take q.length) := by
              intro l
              induction l with
              | nil =>
                intro o q _ hq
                simp only [fieldsSh, Option.some.injEq] at hq
                subst hq
                exact ⟨[], by simp [FitsL], by simp [RV.relV], by simp⟩
              | cons f l ihl =>
                intro o q hall hq
                simp only [fieldsSh] at hq
                split at hq
                · rename_i s1 hs1
                  split at hq
                  · rename_i hc1
                    simp only [Bool.and_eq_true, beq_iff_eq] at hc1
                    split at hq
                    · rename_i q2 hq2
                      injection hq with hq; subst hq
                      obtain ⟨y, hy⟩ := hall f (by simp)
                      have g1 := ih n f.type _ _ s1 hy hs1
                      have g2 := ihl (o + s1.length) q2 (fun f' hf' => hall f' (by simp [hf'])) hq2
                      rw [hc1.1, ← hc1.2] at g1
                      have := good3_append g1 g2
                      rw [← List.drop_drop, ← List.take_add] at this
                      simpa using this
                    · cases hq
                  · cases hq
                · cases hq
            have := key fs.toList 0 q (fun f hf => by
              obtain ⟨i, hi⟩ := List.getElem?_of_mem hf
              have hi' : fs[i]? = some f := by simpa using hi
              have h1 := hget i f hi'
              have h2 : i < xs.length := by have := (Array.getElem?_eq_some_iff.1 hi').1; omega
              exact ⟨xs[i], by rw [h1]; exact List.getElem?_eq_getElem h2⟩) hq
            rwa [List.drop_zero, hc, ← hcl, List.take_length] at this
          · cases hs
        · cases hs
      · cases hs

/-- An argument of a type. -/
def FitsT (P : Program) (n : Nat) (t : TypeId) (x : RV) : Prop := ∃ ss, shape P n t = some ss ∧ if aggOf P t then ∃ xs, x = .ag xs ∧ FitsL ss xs else FitsL ss [x]
theorem arg_fits {n : Nat} {t : TypeId} {v : Value} {d : DataW H} {ps : List MemPlace} {r : Reach} {b0 : Nat} (hs : (shape P n t).isSome = true) (hval : Value.okWide P w r b0 t v) (h : DataW.Trod enc P w base spare held t v d ps) :
    ∃ x, FitsT P n t x ∧ x.rel w (old w) v := by
  obtain ⟨ss, hss⟩ := Option.isSome_iff_exists.1 hs
  obtain ⟨fuel, hf⟩ := h
  obtain ⟨xs, f, r, o⟩ := trod_fits fuel n t _ _ ss hf hss
  have one : aggOf P t = false → v.cells.toList = [v] → ∃ x, FitsT P n t x ∧ x.rel w (old w) v := fun ha hc => by
    rw [hc] at r
    match xs, r with
    | [x], r =>
      simp only [RV.relV] at r
      obtain ⟨u, us, e, hr, _⟩ := r
      injection e with e1 e2
      subst e1
      exact ⟨x, ⟨ss, hss, by rw [ha]; exact f⟩, hr⟩
    | [], r => simp [RV.relV] at r
    | _ :: _ :: _, r =>
      simp only [RV.relV] at r
      obtain ⟨u, us, e, _, u2, us2, e2, _⟩ := r
      injection e with _ e
      rw [e2] at e; cases e
  cases n with
  | zero => simp [shape] at hss
  | succ n =>
    have hss' := hss
    unfold shape at hss'
    split at hss'
    · rename_i k ht
      obtain ⟨m, rfl⟩ := okWide_int ht hval
      exact one (by simp [aggOf, ht]) rfl
    · rename_i ht
      obtain ⟨b, rfl⟩ := okWide_bool ht hval
      exact one (by simp [aggOf, ht]) rfl
    · rename_i e ht
      obtain ⟨a, l, c, rfl⟩ := okWide_slice ht hval
      exact one (by simp [aggOf, ht]) rfl
    · rename_i m e ht
      obtain ⟨cs, rfl⟩ : ∃ cs, v = .agg cs := by
        simp only [Value.okWide, ht] at hval
        obtain ⟨cs, h1, _⟩ := hval
        exact ⟨cs, h1⟩
      exact ⟨.ag xs, ⟨ss, hss, by simp only [aggOf, ht, if_true]; exact ⟨xs, rfl, f⟩⟩, by simp only [RV.rel]; exact ⟨cs, rfl, o, r⟩⟩
    · rename_i fs ht
      obtain ⟨cs, rfl, _⟩ := okWide_struct ht hval
      exact ⟨.ag xs, ⟨ss, hss, by simp only [aggOf, ht, if_true]; exact ⟨xs, rfl, f⟩⟩, by simp only [RV.rel]; exact ⟨cs, rfl, o, r⟩⟩
    · cases hss'

theorem wf_i64 {n : Int} (h : (Lit.int .i64 n).wf = true) : -9223372036854775808 ≤ n ∧ n ≤ 9223372036854775807 := by
  simp only [Lit.wf, Bool.and_eq_true, decide_eq_true_eq] at h
  have h1 : IntKind.min .i64 = -9223372036854775808 := by decide
  have h2 : IntKind.max .i64 = 9223372036854775807 := by decide
  rw [h1, h2] at h
  exact h
theorem fitsE_ints : ∀ {es : List (List RV)}, FitsE [.int .i64] es → ∃ l : List Int, es = l.map (fun x => [.it .i64 x]) ∧ ∀ x ∈ l, -9223372036854775808 ≤ x ∧ x ≤ 9223372036854775807
  | [], _ => ⟨[], rfl, by simp⟩
  | e :: es, h => by
    simp only [FitsE, FitsL, Fits] at h
    obtain ⟨⟨y, ys, rfl, ⟨n, rfl, hn⟩, rfl⟩, h⟩ := h
    obtain ⟨l, rfl, hl⟩ := fitsE_ints h
    refine ⟨n :: l, rfl, fun x hx => ?_⟩
    rcases List.mem_cons.1 hx with rfl | hx
    · exact wf_i64 hn
    · exact hl x hx
theorem fitsT_ag {n : Nat} {t : TypeId} {x : RV} {ss : List Sh} (h : FitsT P n t x) (hs : shape P n t = some ss) (ha : aggOf P t = true) : ∃ xs, x = .ag xs ∧ FitsL ss xs := by
  obtain ⟨s', h1, h2⟩ := h
  rw [hs] at h1; injection h1 with h1; subst h1
  rw [ha] at h2
  exact h2
theorem fitsT_one {n : Nat} {t : TypeId} {x : RV} {s : Sh} (h : FitsT P n t x) (hs : shape P n t = some [s]) (ha : aggOf P t = false) : Fits s x := by
  obtain ⟨s', h1, h2⟩ := h
  rw [hs] at h1; injection h1 with h1; subst h1
  rw [ha] at h2
  simp only [Bool.false_eq_true, if_false, FitsL] at h2
  obtain ⟨y, ys, e, h3, _⟩ := h2
  injection e with e1 e2
  subst e1
  exact h3
theorem fitsT_int {n : Nat} {t : TypeId} {x : RV} (h : FitsT P n t x) (hs : shape P n t = some [.int .i64]) (ha : aggOf P t = false) : ∃ m, x = .it .i64 m ∧ -9223372036854775808 ≤ m ∧ m ≤ 9223372036854775807 := by
  have := fitsT_one h hs ha
  simp only [Fits] at this
  obtain ⟨m, h1, h2⟩ := this
  exact ⟨m, h1, wf_i64 h2⟩
theorem fitsT_ints {n : Nat} {t : TypeId} {x : RV} (h : FitsT P n t x) (hs : shape P n t = some [.sl [.int .i64]]) (ha : aggOf P t = false) : ∃ l : List Int, x = .sl 1 (l.map (fun x => [.it .i64 x])) ∧ ∀ x ∈ l, -9223372036854775808 ≤ x ∧ x ≤ 9223372036854775807 := by
  have := fitsT_one h hs ha
  simp only [Fits] at this
  obtain ⟨es, h1, h2⟩ := this
  obtain ⟨l, rfl, hl⟩ := fitsE_ints h2
  exact ⟨l, h1, hl⟩
end
end Go.Oc

/- The bounds of the small kinds of integers. -/
namespace Go.Oc
open Go Go.RowKit
theorem wf_u8 {n : Int} (h : (Lit.int .u8 n).wf = true) : 0 ≤ n ∧ n ≤ 255 := by
  simp only [Lit.wf, Bool.and_eq_true, decide_eq_true_eq] at h
  have h1 : IntKind.min .u8 = 0 := by decide
  have h2 : IntKind.max .u8 = 255 := by decide
  rw [h1, h2] at h
  exact h
theorem wf_u16 {n : Int} (h : (Lit.int .u16 n).wf = true) : 0 ≤ n ∧ n ≤ 65535 := by
  simp only [Lit.wf, Bool.and_eq_true, decide_eq_true_eq] at h
  have h1 : IntKind.min .u16 = 0 := by decide
  have h2 : IntKind.max .u16 = 65535 := by decide
  rw [h1, h2] at h
  exact h
theorem wf_u32 {n : Int} (h : (Lit.int .u32 n).wf = true) : 0 ≤ n ∧ n ≤ 4294967295 := by
  simp only [Lit.wf, Bool.and_eq_true, decide_eq_true_eq] at h
  have h1 : IntKind.min .u32 = 0 := by decide
  have h2 : IntKind.max .u32 = 4294967295 := by decide
  rw [h1, h2] at h
  exact h
theorem fitsE_u8 : ∀ {es : List (List RV)}, FitsE [.int .u8] es → ∃ l : List Int, es = l.map (fun x => [.it .u8 x]) ∧ ∀ x ∈ l, 0 ≤ x ∧ x ≤ 255
  | [], _ => ⟨[], rfl, by simp⟩
  | e :: es, h => by
    simp only [FitsE, FitsL, Fits] at h
    obtain ⟨⟨y, ys, rfl, ⟨n, rfl, hn⟩, rfl⟩, h⟩ := h
    obtain ⟨l, rfl, hl⟩ := fitsE_u8 h
    refine ⟨n :: l, rfl, fun x hx => ?_⟩
    rcases List.mem_cons.1 hx with rfl | hx
    · exact wf_u8 hn
    · exact hl x hx
theorem fitsE_u16 : ∀ {es : List (List RV)}, FitsE [.int .u16] es → ∃ l : List Int, es = l.map (fun x => [.it .u16 x]) ∧ ∀ x ∈ l, 0 ≤ x ∧ x ≤ 65535
  | [], _ => ⟨[], rfl, by simp⟩
  | e :: es, h => by
    simp only [FitsE, FitsL, Fits] at h
    obtain ⟨⟨y, ys, rfl, ⟨n, rfl, hn⟩, rfl⟩, h⟩ := h
    obtain ⟨l, rfl, hl⟩ := fitsE_u16 h
    refine ⟨n :: l, rfl, fun x hx => ?_⟩
    rcases List.mem_cons.1 hx with rfl | hx
    · exact wf_u16 hn
    · exact hl x hx
end Go.Oc

/- The law of nights of matches returns true for all arguments of its types. -/
namespace Go.Proofs.Ytaniakoadbkadaa
open Go Go.Oc
theorem fitsE_bytes : ∀ {es : List (List RV)}, FitsE [.int .u8] es → ∃ l : List Int, es = (l.map fun x => [RV.it .u8 x]) ∧ ∀ x ∈ l, 0 ≤ x ∧ x ≤ 255
  | [], _ => ⟨[], rfl, by simp⟩
  | e :: es, h => by
    simp only [Oc.FitsE, Oc.FitsL, Oc.Fits] at h
    obtain ⟨⟨_, _, rfl, ⟨a, rfl, ha⟩, rfl⟩, h⟩ := h
    obtain ⟨l, rfl, hl⟩ := fitsE_bytes h
    refine ⟨a :: l, rfl, fun x hx => ?_⟩
    rcases List.mem_cons.1 hx with rfl | hx
    · exact wf_u8 ha
    · exact hl x hx
theorem fitsE_games : ∀ {es : List (List RV)}, FitsE [.sl [.int .u8]] es → ∃ l : List (List Int), es = (l.map fun b => [bytesR b]) ∧ ∀ b ∈ l, ∀ x ∈ b, 0 ≤ x ∧ x ≤ 255
  | [], _ => ⟨[], rfl, by simp⟩
  | e :: es, h => by
    simp only [Oc.FitsE, Oc.FitsL, Oc.Fits] at h
    obtain ⟨⟨_, _, rfl, ⟨a, rfl, ha⟩, rfl⟩, h⟩ := h
    obtain ⟨b, rfl, hb⟩ := fitsE_bytes ha
    obtain ⟨l, rfl, hl⟩ := fitsE_games h
    refine ⟨b :: l, rfl, fun x hx => ?_⟩
    rcases List.mem_cons.1 hx with rfl | hx
    · exact hb
    · exact hl x hx
theorem law3' {x0 x1 x2 : RV} (h0 : FitsT Try.prog 9 22 x0) (h1 : FitsT Try.prog 9 23 x1) (h2 : FitsT Try.prog 9 5 x2) : ACalls Try.prog 3 [x0, x1, x2] (.bo true) := by
  have k0 := fitsT_one (s := .sl [.sl [.int .u8]]) h0 (by kernel_rfl) (by kernel_rfl)
  have k1 := fitsT_one (s := .sl [.int .u8]) h1 (by kernel_rfl) (by kernel_rfl)
  have k2 := fitsT_one (s := .int .u8) h2 (by kernel_rfl) (by kernel_rfl)
  simp only [Oc.Fits] at k0 k1 k2
  obtain ⟨es, rfl, hes⟩ := k0
  obtain ⟨es1, rfl, hes1⟩ := k1
  obtain ⟨g, rfl, hg⟩ := k2
  obtain ⟨gs, rfl, hgs⟩ := fitsE_games hes
  obtain ⟨l, rfl, hl⟩ := fitsE_bytes hes1
  exact law7 gs hgs l hl g (wf_u8 hg)
end Go.Proofs.Ytaniakoadbkadaa


namespace Go.Proofs.Ytaniakoadbkadaa
open Go Go.Oc Go.ChangeShapes Go.WideShapes Go.RowKit
set_option linter.unusedVariables false
theorem own : ownKnob Try.prog.godebug = none := by kernel_rfl
theorem laidOut : laidOutB Try.prog = true := by kernel_rfl
set_option maxRecDepth 100000 in
theorem lifted (os : Os) (started : os.Started) (H : Type) (enc : TypeId × Value → H) :
    ReturnsInHanded {} Try.checked os 3 .any (Rows.topMatchNightSpec.pre6 enc Try.prog Try.f3 Rows.topMatchNightRow.domain false) (Rows.topMatchNightSpec.post enc Try.prog Try.f3 false true false false) := by
  refine returnsInHanded_of_change (C := Try.checked) own started (by kernel_rfl) Try.func3
    (ChangeSpec.witness6 (enc := enc) (C := Try.checked) false ⟨#[], #[.slice none 0 0, .slice none 0 0, .int .u8 0], []⟩ 8 (by kernel_rfl) (by kernel_rfl) (by kernel_rfl) (by kernel_rfl)) ?_
  intro W base args ds gs before hval0 hW hcnd _
  have hval : ∀ (j : Nat) t v, Try.f3.params[j]? = some t → args[j]? = some v → Value.okWide Try.prog W .any base t v := hval0
  have hW' := hW
  obtain ⟨p, q, hA0, hV, rfl, hfz, hnd⟩ := hW
  have hA : DataW.TrodAll enc Try.prog W 0 (fun _ => true) true Try.f3.params.toList args.toList ds p := hA0
  rw [Try.params3] at hA hval
  obtain ⟨v0, vs0, d0, ds0, p0, q0, hargs, rfl, rfl, h0, r0⟩ := trodAll_cons hA
  obtain ⟨v1, vs1, d1, ds1, p1, q1, rfl, rfl, rfl, h1, r1⟩ := trodAll_cons r0
  obtain ⟨v2, vs2, d2, ds2, p2, q2, rfl, rfl, rfl, h2, r2⟩ := trodAll_cons r1
  obtain ⟨rfl, rfl, rfl⟩ := trodAll_nil r2
  obtain rfl : args = #[v0, v1, v2] := by cases args; simp_all
  obtain ⟨rfl, rfl⟩ := trodVars_none hV
  have lt0 : ∀ x ∈ p0, x.block < W.heap.size := by obtain ⟨m, hm⟩ := h0; exact DataW.trod_lt m _ _ _ hm
  have lt1 : ∀ x ∈ p1, x.block < W.heap.size := by obtain ⟨m, hm⟩ := h1; exact DataW.trod_lt m _ _ _ hm
  have lt2 : ∀ x ∈ p2, x.block < W.heap.size := by obtain ⟨m, hm⟩ := h2; exact DataW.trod_lt m _ _ _ hm
  obtain ⟨x0, g0, e0⟩ := arg_fits (n := 9) (by kernel_rfl) (hval 0 22 v0 rfl rfl) h0
  obtain ⟨x1, g1, e1⟩ := arg_fits (n := 9) (by kernel_rfl) (hval 1 23 v1 rfl rfl) h1
  obtain ⟨x2, g2, e2⟩ := arg_fits (n := 9) (by kernel_rfl) (hval 2 5 v2 rfl rfl) h2
  clear hA0 hval0
  refine ((law3' g0 g1 g2).2 W (old W) #[v0, v1, v2] (fun _ h => h) (by simp only [RV.relV]; exact ⟨_, _, rfl, e0, _, _, rfl, e1, _, _, rfl, e2, rfl⟩)).mono fun e W' he => ?_
  obtain ⟨v, R', rfl, bel, _, _, _, hr⟩ := he
  simp only [RV.rel] at hr
  subst hr
  exact ⟨_, rfl, _, _, _, [], _, [], hW', trodAll_mk1 (shut_bool Try.underlying4 _), (trodAll_cons_mk (Below.trod laidOut (by kernel_rfl) (of_decide_eq_true (by kernel_rfl)) h0 bel lt0) (trodAll_cons_mk (Below.trod laidOut (by kernel_rfl) (of_decide_eq_true (by kernel_rfl)) h1 bel lt1) (trodAll_cons_mk (Below.trod laidOut (by kernel_rfl) (of_decide_eq_true (by kernel_rfl)) h2 bel lt2) trodAll_mk0))), rfl, bel.frame _, fun h => by cases h⟩
theorem over : Rows.topMatchNightRow.holds Try.pinned (OpenSpec.ofChange Rows.topMatchNightSpec) :=
  OpenClaim.holds_of_wide 3 Try.f3 rfl rfl rfl rfl rfl rfl rfl ⟨rfl, rfl, rfl, rfl, rfl⟩ rfl rfl rfl rfl rfl (by kernel_rfl) Try.func3 (by kernel_rfl)
    (of_decide_eq_true (by kernel_rfl)) (by unfold Func.isWrapper; first | (rw [if_pos (by decide +kernel)]; kernel_rfl) | (rw [if_neg (by decide +kernel)]; exact ⟨rfl, rfl⟩))
    (fun os started H enc _ => lifted os started H enc)
theorem topMatchNight_holds : Rows.TopMatchNightSaid := over
#print axioms topMatchNight_holds
end Go.Proofs.Ytaniakoadbkadaa
