/- Part 6 of the texts of this claim. -/
import Derived.Test.YtaniakoadbkadaaV75
/- A night, by the program. -/
namespace Go.Proofs.Ytaniakoadbkadaa
open Go Go.Oc
set_option linter.unusedSimpArgs false
set_option linter.unusedVariables false
set_option maxRecDepth 8000
abbrev sheets (l : List Sheet) : RV := .sl 4 (l.map sheetC)
def sameS (x y : Sheet) : Bool := x.gm == y.gm && (x.ho == y.ho && (x.aw == y.aw && (x.wk == y.wk && true)))
theorem sameS_eq {x y : Sheet} : sameS x y = true ↔ x = y := by
  cases x; cases y; simp [sameS]
def seenL (p : List Sheet) (i : Int) : Option Sheet := p.find? fun x => x.gm == i
/-- The first sheet that is refused, and why. -/
def scanN (r : Rules) : List Sheet → List Sheet → Option (Nat × Int)
  | _, [] => none
  | p, x :: l =>
    if sheetB r x = true then
      match seenL p x.gm with
      | some y => if sameS y x = true then scanN r (p ++ [x]) l else some (p.length, 6)
      | none => scanN r (p ++ [x]) l
    else some (p.length, 2)
def nightV (r : Rules) (l : List Sheet) : Res × Int × Int :=
  if rulesB r = false then (zeroR, 0, 2) else if 200 < l.length then (zeroR, 0, 5) else
  match scanN r [] l with
  | some (k, e) => (zeroR, k, e)
  | none => (nightR r (seenL l), 0, 0)
theorem seen_some {p : List Sheet} {i : Int} {y : Sheet} (h : seenL p i = some y) : y ∈ p ∧ y.gm = i := by
  have h1 := List.mem_of_find?_eq_some h
  have h2 := List.find?_some h
  exact ⟨h1, by simpa using h2⟩
theorem seen_app (p : List Sheet) (x : Sheet) (i : Int) : seenL (p ++ [x]) i = (seenL p i).or (if x.gm = i then some x else none) := by
  simp only [seenL, List.find?_append, List.find?_cons, List.find?_nil]
  by_cases h : x.gm = i
  · simp [h]
  · have : (x.gm == i) = false := by simp [h]
    rw [this, if_neg h]
theorem findS_some {p : Int} : ∀ {M : List (Int × Sheet)} {i j : Nat} {v : Sheet}, findS p M i = some (j, v) → i ≤ j ∧ M[j - i]? = some (p, v)
  | [], _, _, _, h => by simp [findS] at h
  | e :: M, i, j, v, h => by
    unfold findS at h
    split at h
    · rename_i he
      injection h with h; injection h with h1 h2
      subst h1 h2
      refine ⟨Nat.le_refl _, ?_⟩
      rw [Nat.sub_self]
      simp [he]
    · obtain ⟨h1, h2⟩ := findS_some h
      refine ⟨by omega, ?_⟩
      rw [show j - i = (j - (i + 1)) + 1 by omega]
      simpa using h2
theorem findS_app (M : List (Int × Sheet)) (e : Int × Sheet) (p : Int) : ∀ i, (findS p (M ++ [e]) i).map (·.2) = ((findS p M i).map (·.2)).or (if p = e.1 then some e.2 else none) := by
  induction M with
  | nil => intro i; by_cases h : p = e.1 <;> simp [findS, h]
  | cons a M ih =>
    intro i
    by_cases h : p = a.1
    · simp [findS, h]
    · simp only [List.cons_append, findS, if_neg h]
      exact ih (i + 1)
theorem mapS_app (M : List (Int × Sheet)) (x : Sheet) (i : Int) : mapS (M ++ [(x.gm, x)]) i = (mapS M i).or (if x.gm = i then some x else none) := by
  rw [mapS, findS_app, mapS]
  by_cases h : x.gm = i
  · rw [if_pos h, if_pos h.symm]
  · rw [if_neg h, if_neg (fun e => h e.symm)]
theorem sheet_same (x y : Sheet) : (x.gm == y.gm && (x.ho == y.ho && (x.aw == y.aw && (x.wk == y.wk && true)))) = sameS x y := rfl
theorem encS_set {M : List (Int × Sheet)} {j : Nat} {p : Int} {x : Sheet} (h : M[j]? = some (p, x)) : (M.map encS).set j (i64 p, .ag (sheetC x)) = M.map encS := by
  refine List.ext_getElem? fun i => ?_
  rw [List.getElem?_set, List.getElem?_map]
  split
  · rename_i e
    subst e
    have := (List.getElem?_eq_some_iff.1 h).1
    rw [List.length_map, if_pos this, h]; rfl
  · rfl
theorem night_ok (r : Rules) (l : List Sheet) : ACalls Try.prog 8 [.ag (rulesC r), sheets l] (.tu [.ag (resC (nightV r l).1), i64 (nightV r l).2.1, i64 (nightV r l).2.2]) := by
  refine acalls_st (rs := [.ag (resC (nightV r l).1), i64 (nightV r l).2.1, i64 (nightV r l).2.2]) [.cell 4 43, .tmp 5, .tmp 6] Try.func8 rfl (by kernel_rfl) Try.ntmps8 rfl (by simp) rfl fun C vs => ?_
  repeat refine awp_seq ?_
  refine awp_reg (by kernel_rfl) fun K hK => ?_
  simp only [go_sem]
  (try simp (disch := omega) only [wrapI])
  repeat first | intro _ | refine ⟨(by omega), ?_⟩ | refine ⟨⟨by omega, by omega⟩, ?_⟩
  refine hK _ ?_
  clear hK K
  repeat refine awp_seq ?_
  refine awp_block ?_
  repeat refine awp_seq ?_
  refine awp_reg (by kernel_rfl) fun K hK => ?_
  simp only [go_sem]
  (try simp (disch := omega) only [wrapI])
  refine xcall_eq (check_ok r) rfl (by simp only [go_sem, i64, ints]) (by simp only [go_sem, i64, ints]) (by first | exact .inl rfl | exact .inr rfl) ?_
  (try simp only [go_sem])
  (try simp (disch := omega) only [wrapI])
  repeat first | intro _ | refine ⟨(by omega), ?_⟩ | refine ⟨⟨by omega, by omega⟩, ?_⟩
  refine hK _ ?_
  clear hK K
  have n2 : ((2 : Int) != 0) = true := by decide
  have n0 : ((0 : Int) != 0) = false := by decide
  by_cases hr : rulesB r = true
  case neg =>
    have e0 : rulesB r = false := by simpa using hr
    have hv : nightV r l = (zeroR, 0, 2) := by rw [nightV, if_pos e0]
    rw [hv]
    simp only [e0, errC, n2, go_sem]
    repeat refine awp_seq ?_
    refine awp_cond rfl (fun hc => ?_) (fun hc => ?_) <;> (try simp only [go_sem] at hc)
    repeat refine awp_seq ?_
    refine awp_reg (by kernel_rfl) fun K hK => ?_
    simp only [go_sem]
    (try simp (disch := omega) only [wrapI])
    repeat first | intro _ | refine ⟨(by omega), ?_⟩ | refine ⟨⟨by omega, by omega⟩, ?_⟩
    refine hK _ ?_
    clear hK K
    refine awp_ret ?_
    simp only [go_sem]
    simp [zeroR]
  simp only [hr, errC, n0, go_sem]
  repeat refine awp_seq ?_
  refine awp_cond rfl (fun hc => ?_) (fun hc => ?_) <;> (try simp only [go_sem] at hc)
  repeat refine awp_seq ?_
  refine awp_reg (by kernel_rfl) fun K hK => ?_
  simp only [go_sem]
  (try simp (disch := omega) only [wrapI])
  intro hlen
  repeat first | intro _ | refine ⟨(by omega), ?_⟩ | refine ⟨⟨by omega, by omega⟩, ?_⟩
  refine hK _ ?_
  clear hK K
  by_cases h1 : 200 < l.length
  · have hv : nightV r l = (zeroR, 0, 5) := by rw [nightV, if_neg (by simp [hr]), if_pos h1]
    rw [hv]
    have e1 : decide ((200 : Int) < (l.length : Int)) = true := by simp; omega
    rw [e1]
    repeat refine awp_seq ?_
    refine awp_cond rfl (fun hc => ?_) (fun hc => ?_) <;> (try simp only [go_sem] at hc)
    repeat refine awp_seq ?_
    refine awp_reg (by kernel_rfl) fun K hK => ?_
    simp only [go_sem]
    (try simp (disch := omega) only [wrapI])
    repeat first | intro _ | refine ⟨(by omega), ?_⟩ | refine ⟨⟨by omega, by omega⟩, ?_⟩
    refine hK _ ?_
    clear hK K
    refine awp_ret ?_
    simp only [go_sem]
    simp [zeroR]
  have e1 : decide ((200 : Int) < (l.length : Int)) = false := by simp; omega
  rw [e1]
  repeat refine awp_seq ?_
  refine awp_cond rfl (fun hc => ?_) (fun hc => ?_) <;> (try simp only [go_sem] at hc)
  refine awp_skip ?_
  try simp only [go_sem]
  repeat refine awp_seq ?_
  refine awp_reg (by kernel_rfl) fun K hK => ?_
  simp only [go_sem]
  (try simp (disch := omega) only [wrapI])
  repeat first | intro _ | refine ⟨(by omega), ?_⟩ | refine ⟨⟨by omega, by omega⟩, ?_⟩
  refine hK _ ?_
  clear hK K
  try simp only [go_sem]
  repeat refine awp_seq ?_
  refine awp_reg (by kernel_rfl) fun K hK => ?_
  simp only [go_sem]
  (try simp (disch := omega) only [wrapI])
  intros
  repeat first | intro _ | refine ⟨(by omega), ?_⟩ | refine ⟨⟨by omega, by omega⟩, ?_⟩
  refine hK _ ?_
  clear hK K
  repeat refine awp_seq ?_
  refine awp_block ?_
  refine awp_whileV (n := 75) (fun (y : Nat × List (Int × Sheet)) vs => [(1, .r (sheets l)), (4, .pt 4 (vs 4) 0), (7, .pt 26 (vs 26) 0), (27, .r (sheets l)), (28, .r (i64 l.length)), (29, .r (i64 y.1))])
    (fun y vs => [(4, .box [.r (i64 0), .r (i64 0), .r (i64 0), .r (i64 0), .r (i64 0), .r (i64 0), .r .ns, .r (i64 0)]), (24, .mp (y.2.map encS)), (26, .box [.r (i64 r.squad), .r (games r.gs), .r (i64 r.most), .r (i64 r.bonus), .r (i64 0), .r (i64 0), .r (i64 0), .r (i64 0), .r (i64 0), .r (i64 0), .r .ns, .r (i64 0), .mp 24 (vs 24)])])
    (fun y => y.1 ≤ l.length ∧ (∀ i, mapS y.2 i = seenL (l.take y.1) i) ∧ (∀ x ∈ l.take y.1, sheetB r x = true) ∧ scanN r [] l = scanN r (l.take y.1) (l.drop y.1)) (fun y => l.length - y.1) (0, []) (fitV_of [2] ?_ ?_) ⟨Nat.zero_le _, fun _ => rfl, by simp, by simp⟩ ?_
  · try simp only [go_sem]
  · try simp only [go_sem]
  · rintro ⟨k, M⟩ vs ⟨hk, hM, hI, hS⟩
    simp only at hk hM hI hS
    repeat refine awp_seq ?_
    refine awp_reg (by kernel_rfl) fun K hK => ?_
    simp only [go_sem]
    (try simp (disch := omega) only [wrapI])
    repeat first | intro _ | refine ⟨(by omega), ?_⟩ | refine ⟨⟨by omega, by omega⟩, ?_⟩
    refine hK _ ?_
    clear hK K
    repeat refine awp_seq ?_
    refine awp_cond rfl (fun hc => ?_) (fun hc => ?_) <;> (try simp only [go_sem] at hc)
    · have hck := hc
      obtain ⟨x, hx⟩ := opt_of_lt hck
      refine awp_skip ?_
      repeat refine awp_seq ?_
      refine awp_block ?_
      repeat refine awp_seq ?_
      refine awp_reg (by kernel_rfl) fun K hK => ?_
      simp only [go_sem, hx, hck]
      (try simp (disch := omega) only [wrapI])
      repeat first | intro _ | refine ⟨(by omega), ?_⟩ | refine ⟨⟨by omega, by omega⟩, ?_⟩
      refine hK _ ?_
      clear hK K
      repeat refine awp_seq ?_
      refine awp_dreg follows (by decide +kernel) (by kernel_rfl) fun K hK => ?_
      simp only [go_sem]
      (try simp (disch := omega) only [wrapI])
      refine xcall_eq (isSheet_ok r x hr) rfl (by simp only [go_sem, i64, ints]) (by simp only [go_sem, i64, ints]) (by first | exact .inl rfl | exact .inr rfl) ?_
      (try simp only [go_sem])
      (try simp (disch := omega) only [wrapI])
      cases hb : sheetB r x with
      | false =>
        have hv : nightV r l = (zeroR, ((k : Nat) : Int), 2) := by
          rw [nightV, if_neg (by simp [hr]), if_neg h1, hS, drop_of_opt hx, scanN, if_neg (by simp [hb])]
          simp; omega
        repeat first | intro _ | refine ⟨(by omega), ?_⟩ | refine ⟨⟨by omega, by omega⟩, ?_⟩
        refine hK _ ?_
        clear hK K
        rw [hv]
        repeat refine awp_seq ?_
        refine awp_cond rfl (fun hc => ?_) (fun hc => ?_) <;> (try simp only [go_sem] at hc)
        repeat refine awp_seq ?_
        refine awp_reg (by kernel_rfl) fun K hK => ?_
        simp only [go_sem]
        (try simp (disch := omega) only [wrapI])
        repeat first | intro _ | refine ⟨(by omega), ?_⟩ | refine ⟨⟨by omega, by omega⟩, ?_⟩
        refine hK _ ?_
        clear hK K
        refine awp_ret ?_
        simp only [go_sem]
        simp [zeroR]
      | true =>
        repeat first | intro _ | refine ⟨(by omega), ?_⟩ | refine ⟨⟨by omega, by omega⟩, ?_⟩
        refine hK _ ?_
        clear hK K
        repeat refine awp_seq ?_
        refine awp_cond rfl (fun hc => ?_) (fun hc => ?_) <;> (try simp only [go_sem] at hc)
        refine awp_skip ?_
        try simp only [go_sem]
        have hfk := findK_S x.gm M 0
        have hse := hM x.gm
        cases hf : findS x.gm M 0 with
        | none =>
          rw [hf] at hfk
          have hse' : seenL (l.take k) x.gm = none := by rw [← hse, mapS, hf]; rfl
          have hsc : scanN r [] l = scanN r (l.take (k + 1)) (l.drop (k + 1)) := by
            rw [hS, drop_of_opt hx, scanN, if_pos hb, hse', take_of_opt hx]
          repeat refine awp_seq ?_
          refine awp_dreg follows (by decide +kernel) (by kernel_rfl) fun K hK => ?_
          simp only [go_sem, hfk, Option.map_none]
          (try simp (disch := omega) only [wrapI])
          repeat first | intro _ | refine ⟨(by omega), ?_⟩ | refine ⟨⟨by omega, by omega⟩, ?_⟩
          refine hK _ ?_
          clear hK K
          try simp only [go_sem]
          repeat refine awp_seq ?_
          refine awp_reg (by kernel_rfl) fun K hK => ?_
          simp only [go_sem]
          (try simp (disch := omega) only [wrapI])
          repeat first | intro _ | refine ⟨(by omega), ?_⟩ | refine ⟨⟨by omega, by omega⟩, ?_⟩
          refine hK _ ?_
          clear hK K
          repeat refine awp_seq ?_
          refine awp_cond rfl (fun hc => ?_) (fun hc => ?_) <;> (try simp only [go_sem] at hc)
          refine awp_skip ?_
          try simp only [go_sem]
          repeat refine awp_seq ?_
          refine awp_dreg follows (by decide +kernel) (by kernel_rfl) fun K hK => ?_
          simp only [go_sem, hfk]
          (try simp (disch := omega) only [wrapI])
          repeat first | intro _ | refine ⟨(by omega), ?_⟩ | refine ⟨⟨by omega, by omega⟩, ?_⟩
          refine hK _ ?_
          clear hK K
          try simp only [go_sem]
          repeat refine awp_seq ?_
          refine awp_reg (by kernel_rfl) fun K hK => ?_
          simp only [go_sem]
          (try simp (disch := omega) only [wrapI])
          repeat first | intro _ | refine ⟨(by omega), ?_⟩ | refine ⟨⟨by omega, by omega⟩, ?_⟩
          refine hK _ ?_
          clear hK K
          try simp only [go_sem]
          refine ⟨(k + 1, M ++ [(x.gm, x)]), ⟨hck, fun i => ?_, ?_, hsc⟩, ?_, fitV_of [9, 10] ?_ ?_⟩
          · rw [mapS_app, hM, take_of_opt hx, seen_app]
          · rw [take_of_opt hx]
            intro z hz
            simp only [List.mem_append, List.mem_singleton] at hz
            rcases hz with hz | rfl
            · exact hI z hz
            · exact hb
          · simp only; omega
          · try simp only [go_sem]
          · try simp only [go_sem]
            simp
        | some jy =>
          obtain ⟨j, y⟩ := jy
          rw [hf] at hfk
          have hse' : seenL (l.take k) x.gm = some y := by rw [← hse, mapS, hf]; rfl
          repeat refine awp_seq ?_
          refine awp_dreg follows (by decide +kernel) (by kernel_rfl) fun K hK => ?_
          simp only [go_sem, hfk, Option.map_some]
          (try simp (disch := omega) only [wrapI])
          repeat first | intro _ | refine ⟨(by omega), ?_⟩ | refine ⟨⟨by omega, by omega⟩, ?_⟩
          refine hK _ ?_
          clear hK K
          try simp only [go_sem]
          repeat refine awp_seq ?_
          refine awp_reg (by kernel_rfl) fun K hK => ?_
          simp only [go_sem, sheet_same]
          (try simp (disch := omega) only [wrapI])
          cases hsm : sameS y x with
          | false =>
            have hv : nightV r l = (zeroR, ((k : Nat) : Int), 6) := by
              rw [nightV, if_neg (by simp [hr]), if_neg h1, hS, drop_of_opt hx, scanN, if_pos hb, hse']
              simp only [hsm]
              simp; omega
            repeat first | intro _ | refine ⟨(by omega), ?_⟩ | refine ⟨⟨by omega, by omega⟩, ?_⟩
            refine hK _ ?_
            clear hK K
            rw [hv]
            repeat refine awp_seq ?_
            refine awp_cond rfl (fun hc => ?_) (fun hc => ?_) <;> (try simp only [go_sem] at hc)
            repeat refine awp_seq ?_
            refine awp_reg (by kernel_rfl) fun K hK => ?_
            simp only [go_sem]
            (try simp (disch := omega) only [wrapI])
            repeat first | intro _ | refine ⟨(by omega), ?_⟩ | refine ⟨⟨by omega, by omega⟩, ?_⟩
            refine hK _ ?_
            clear hK K
            refine awp_ret ?_
            simp only [go_sem]
            simp [zeroR]
          | true =>
            have hyx := sameS_eq.1 hsm
            subst hyx
            obtain ⟨_, hj⟩ := findS_some hf
            rw [Nat.sub_zero] at hj
            have hset := encS_set hj
            have hsc : scanN r [] l = scanN r (l.take (k + 1)) (l.drop (k + 1)) := by
              rw [hS, drop_of_opt hx, scanN, if_pos hb, hse', take_of_opt hx]
              simp only [hsm, if_true]
            repeat first | intro _ | refine ⟨(by omega), ?_⟩ | refine ⟨⟨by omega, by omega⟩, ?_⟩
            refine hK _ ?_
            clear hK K
            repeat refine awp_seq ?_
            refine awp_cond rfl (fun hc => ?_) (fun hc => ?_) <;> (try simp only [go_sem] at hc)
            refine awp_skip ?_
            try simp only [go_sem]
            repeat refine awp_seq ?_
            refine awp_dreg follows (by decide +kernel) (by kernel_rfl) fun K hK => ?_
            simp only [go_sem, hfk, Option.map_some]
            (try simp (disch := omega) only [wrapI])
            repeat first | intro _ | refine ⟨(by omega), ?_⟩ | refine ⟨⟨by omega, by omega⟩, ?_⟩
            refine hK _ ?_
            clear hK K
            try simp only [go_sem]
            repeat refine awp_seq ?_
            refine awp_reg (by kernel_rfl) fun K hK => ?_
            simp only [go_sem]
            (try simp (disch := omega) only [wrapI])
            repeat first | intro _ | refine ⟨(by omega), ?_⟩ | refine ⟨⟨by omega, by omega⟩, ?_⟩
            refine hK _ ?_
            clear hK K
            try simp only [go_sem]
            refine ⟨(k + 1, M), ⟨hck, fun i => ?_, ?_, hsc⟩, ?_, fitV_of [9, 10] ?_ ?_⟩
            · rw [hM, take_of_opt hx, seen_app]
              by_cases hi : y.gm = i
              · subst hi; rw [hse']; rfl
              · rw [if_neg hi]; simp
            · rw [take_of_opt hx]
              intro z hz
              simp only [List.mem_append, List.mem_singleton] at hz
              rcases hz with hz | rfl
              · exact hI z hz
              · exact hb
            · simp only; omega
            · try simp only [go_sem]
            · try simp only [go_sem]
              simp [hset]
    · have : k = l.length := by omega
      subst this
      rw [List.take_length] at hM hI
      have hfun : mapS M = seenL l := funext hM
      have hF : OkF r (mapS M) := fun i x hx => by
        rw [hM] at hx
        obtain ⟨h2, h3⟩ := seen_some hx
        exact ⟨hI x h2, h3⟩
      have hv : nightV r l = (nightR r (mapS M), 0, 0) := by
        rw [nightV, if_neg (by simp [hr]), if_neg h1, hS, List.drop_length, scanN, hfun]
      rw [hv]
      refine awp_exit ?_
      simp only [go_sem]
      repeat refine awp_seq ?_
      refine awp_reg (by kernel_rfl) fun K hK => ?_
      simp only [go_sem]
      (try simp (disch := omega) only [wrapI])
      refine xcall_mut (close_ok r M hr hF) [(1000, 26), (1001, 24)] rfl (by simp only [go_sem, i64, ints, zeroR]) (by simp only [go_sem, i64, ints, zeroR]) (by rfl) (by rfl) ?_
      (try simp only [go_sem, zeroR])
      (try simp (disch := omega) only [wrapI])
      repeat first | intro _ | refine ⟨(by omega), ?_⟩ | refine ⟨⟨by omega, by omega⟩, ?_⟩
      refine hK _ ?_
      clear hK K
      repeat refine awp_seq ?_
      refine awp_reg (by kernel_rfl) fun K hK => ?_
      simp only [go_sem]
      (try simp (disch := omega) only [wrapI])
      repeat first | intro _ | refine ⟨(by omega), ?_⟩ | refine ⟨⟨by omega, by omega⟩, ?_⟩
      refine hK _ ?_
      clear hK K
      refine awp_ret ?_
      simp only [go_sem]

end Go.Proofs.Ytaniakoadbkadaa

/- What nights come to: sheets in any order; winners that are certain. -/
namespace Go.Proofs.Ytaniakoadbkadaa
open Go Go.Oc
set_option linter.unusedSimpArgs false
set_option linter.unusedVariables false
/-! ### Sheets that do not contradict each other -/
def Cons (p : List Sheet) : Prop := ∀ x ∈ p, ∀ y ∈ p, x.gm = y.gm → x = y
def Val (r : Rules) (p : List Sheet) : Prop := ∀ x ∈ p, sheetB r x = true
theorem cons_sub {p q : List Sheet} (h : Cons p) (hs : ∀ x ∈ q, x ∈ p) : Cons q := fun x hx y hy e => h x (hs x hx) y (hs y hy) e
theorem sameS_refl (x : Sheet) : sameS x x = true := sameS_eq.2 rfl
theorem scan_app (r : Rules) : ∀ (l : List Sheet) (p : List Sheet) (l' : List Sheet), Val r l → Cons (p ++ l) → scanN r p (l ++ l') = scanN r (p ++ l) l'
  | [], p, l', _, _ => by simp
  | x :: l, p, l', hv, hc => by
    have h1 := hv x (by simp)
    have ih := scan_app r l (p ++ [x]) l' (fun y hy => hv y (by simp [hy])) (by simpa using hc)
    rw [List.cons_append, scanN, if_pos h1]
    have e : p ++ x :: l = p ++ [x] ++ l := by simp
    cases hs : seenL p x.gm with
    | none => simp only; rw [ih, e]
    | some y =>
      obtain ⟨hy, hg⟩ := seen_some hs
      have : y = x := hc y (by simp [hy]) x (by simp) hg
      subst this
      simp only [sameS_refl, if_true]
      rw [ih, e]
theorem scan_none {r : Rules} {l : List Sheet} (hv : Val r l) (hc : Cons l) : scanN r [] l = none := by
  have := scan_app r l [] [] hv (by simpa using hc)
  rw [List.append_nil, List.nil_append] at this
  rw [this, scanN]
theorem night_of {r : Rules} {l : List Sheet} (hr : rulesB r = true) (hl : l.length ≤ 200) (hv : Val r l) (hc : Cons l) : nightV r l = (nightR r (seenL l), 0, 0) := by
  unfold nightV
  rw [if_neg (by simp [hr]), if_neg (by omega), scan_none hv hc]
/-- A sheet more, which contradicts one that was there. -/
theorem night_bad {r : Rules} {l : List Sheet} {x y : Sheet} (hr : rulesB r = true) (hl : l.length < 200) (hv : Val r l) (hc : Cons l) (hx : sheetB r x = true) (hy : y ∈ l) (hg : y.gm = x.gm) (hne : y ≠ x) :
    nightV r (l ++ [x]) = (zeroR, (l.length : Int), 6) := by
  have h1 := scan_app r l [] [x] hv (by simpa using hc)
  rw [List.nil_append, scanN, if_pos hx] at h1
  have hs : seenL l x.gm = some y := by
    cases h : seenL l x.gm with
    | none =>
      have := List.find?_eq_none.1 h y hy
      simp [hg] at this
    | some z =>
      obtain ⟨hz, hzg⟩ := seen_some h
      rw [hc z hz y hy (by rw [hzg, hg])]
  have hd : ¬ sameS y x = true := fun h => hne (sameS_eq.1 h)
  rw [hs] at h1
  simp only [hd, if_false] at h1
  unfold nightV
  rw [if_neg (by simp [hr]), if_neg (by simp; omega), h1]
  rfl
theorem seen_iff {l : List Sheet} (hc : Cons l) {i : Int} {x : Sheet} : seenL l i = some x ↔ x ∈ l ∧ x.gm = i := by
  constructor
  · exact seen_some
  · rintro ⟨hx, hg⟩
    cases h : seenL l i with
    | none =>
      have := List.find?_eq_none.1 h x hx
      simp [hg] at this
    | some z =>
      obtain ⟨hz, hzg⟩ := seen_some h
      rw [hc z hz x hx (by rw [hzg, hg])]
theorem seen_ext {l l' : List Sheet} (hc : Cons l) (hs : ∀ x, x ∈ l' ↔ x ∈ l) : seenL l' = seenL l := by
  have hc' : Cons l' := cons_sub hc fun x hx => (hs x).1 hx
  funext i
  refine Option.ext fun x => ?_
  rw [seen_iff hc, seen_iff hc', hs]
theorem sumN_congr {r : Rules} {F G : Int → Option Sheet} : ∀ {k : Nat}, (∀ i : Nat, i < k → F i = G i) → sumN r F k = sumN r G k
  | 0, _ => rfl
  | k + 1, h => by
    rw [sumN, sumN, sumN_congr fun i hi => h i (by omega)]
    unfold stepN
    rw [h k (by omega)]
theorem night_congr {r : Rules} {F G : Int → Option Sheet} (h : ∀ i : Nat, i < r.gs.length → F i = G i) : nightR r F = nightR r G := by
  unfold nightR
  rw [sumN_congr h]
/-! ### Sheets of all games by small numbers -/
def byteAt (b : List Int) (i : Nat) : Int := if b.length = 0 then 0 else b.getD (i % b.length) 0
theorem byteAt_in {b : List Int} (h : ∀ x ∈ b, 0 ≤ x ∧ x ≤ 255) (i : Nat) : 0 ≤ byteAt b i ∧ byteAt b i ≤ 255 := by
  unfold byteAt
  split
  · omega
  · obtain ⟨x, hx⟩ := opt_of_lt (l := b) (i := i % b.length) (Nat.mod_lt _ (by omega))
    rw [List.getD_eq_getElem?_getD, hx]
    exact h x (mem_of_opt hx)
def playS (r : Rules) (b : List Int) (i : Nat) : Sheet :=
  if byteAt b i % 4 > 1 ∧ byteAt b i % 5 = 0 then ⟨i, 0, 0, byteAt b i % 4 - 1⟩
  else if byteAt b i % 4 = 1 then ⟨i, byteAt b i / 4 % legsOf r i, legsOf r i, 0⟩
  else ⟨i, legsOf r i, byteAt b i / 4 % legsOf r i, 0⟩
theorem playS_gm (r : Rules) (b : List Int) (i : Nat) : (playS r b i).gm = i := by
  unfold playS
  split
  · rfl
  · split <;> rfl
theorem legs_in {r : Rules} (hr : rulesB r = true) {i : Nat} (hi : i < r.gs.length) : 1 ≤ legsOf r i ∧ legsOf r i ≤ 15 := by
  obtain ⟨_, _, _, f7, _⟩ := rulesB_facts hr
  obtain ⟨g, hg⟩ := opt_of_lt hi
  have : legsOf r i = g.lg := by simp [legsOf, hg]
  rw [this]
  exact (f7 g (mem_of_opt hg)).2.1
theorem playS_ok {r : Rules} {b : List Int} (hr : rulesB r = true) (hb : ∀ x ∈ b, 0 ≤ x ∧ x ≤ 255) {i : Nat} (hi : i < r.gs.length) : sheetB r (playS r b i) = true := by
  obtain ⟨l1, l2⟩ := legs_in hr hi
  obtain ⟨b1, b2⟩ := byteAt_in hb i
  unfold playS
  generalize byteAt b i = n at *
  have m1 := Int.emod_nonneg (n / 4) (show legsOf r i ≠ 0 by omega)
  have m2 := Int.emod_lt_of_pos (n / 4) (show 0 < legsOf r i by omega)
  generalize n / 4 % legsOf r i = q at *
  split
  · rename_i h
    have hne : n % 4 - 1 ≠ 0 := by omega
    simp only [sheetB, withinL, List.all_cons, List.all_nil, Bool.and_true, Bool.and_eq_true, decide_eq_true_eq, if_neg hne, and_true]
    omega
  · split
    · simp only [sheetB, withinL, List.all_cons, List.all_nil, Bool.and_true, Bool.and_eq_true, decide_eq_true_eq, if_true]
      omega
    · simp only [sheetB, withinL, List.all_cons, List.all_nil, Bool.and_true, Bool.and_eq_true, decide_eq_true_eq, if_true]
      omega
def playsS (r : Rules) (b : List Int) (i : Nat) : List Sheet := (List.range i).map (playS r b)
theorem playsS_succ (r : Rules) (b : List Int) (i : Nat) : playsS r b (i + 1) = playsS r b i ++ [playS r b i] := by simp [playsS, List.range_succ]
theorem playsS_length (r : Rules) (b : List Int) (i : Nat) : (playsS r b i).length = i := by simp [playsS]
theorem playsS_get {r : Rules} {b : List Int} {i n : Nat} (h : i < n) : (playsS r b n)[i]? = some (playS r b i) := by
  unfold playsS
  rw [List.getElem?_map, List.getElem?_range h]; rfl
theorem playsS_val {r : Rules} {b : List Int} (hr : rulesB r = true) (hb : ∀ x ∈ b, 0 ≤ x ∧ x ≤ 255) {n : Nat} (hn : n ≤ r.gs.length) : Val r (playsS r b n) := fun x hx => by
  obtain ⟨i, hi, rfl⟩ := List.mem_map.1 hx
  exact playS_ok hr hb (by have := List.mem_range.1 hi; omega)
theorem playsS_cons (r : Rules) (b : List Int) (n : Nat) : Cons (playsS r b n) := fun x hx y hy e => by
  obtain ⟨i, _, rfl⟩ := List.mem_map.1 hx
  obtain ⟨j, _, rfl⟩ := List.mem_map.1 hy
  rw [playS_gm, playS_gm] at e
  have : i = j := by omega
  rw [this]
theorem playsS_seen {r : Rules} {b : List Int} {n i : Nat} (h : i < n) : seenL (playsS r b n) i = some (playS r b i) :=
  (seen_iff (playsS_cons r b n)).2 ⟨List.mem_map.2 ⟨i, List.mem_range.2 h, rfl⟩, playS_gm r b i⟩
/-- With a sheet of each game nothing is open. -/
theorem sum_full {r : Rules} {F : Int → Option Sheet} : ∀ {k : Nat}, k ≤ r.gs.length → (∀ i : Nat, i < k → (F i).isSome = true) → (sumN r F k).op = []
  | 0, _, _ => rfl
  | k + 1, hk, h => by
    have ih := sum_full (r := r) (F := F) (k := k) (by omega) fun i hi => h i (by omega)
    obtain ⟨x, hx⟩ := Option.isSome_iff_exists.1 (h k (by omega))
    obtain ⟨g, hg⟩ := opt_of_lt (l := r.gs) (i := k) (by omega)
    rw [sumN]
    unfold stepN
    rw [hx, hg]
    exact ih
/-- What a night without open games comes to. -/
theorem end_full {r : Rules} {t : Res} (h : t.op = []) : endR r t = { t with w := leadW (t.p0 - t.p1) (t.l0 - t.l1), p0 := if leadW (t.p0 - t.p1) (t.l0 - t.l1) = 0 then t.p0 + r.bonus else t.p0, p1 := if leadW (t.p0 - t.p1) (t.l0 - t.l1) = 1 then t.p1 + r.bonus else t.p1 } := by
  have h1 : homeR r t = leadW (t.p0 - t.p1) (t.l0 - t.l1) := by simp [homeR, h, openP, openG]
  have h2 : awayR r t = leadW (t.p0 - t.p1) (t.l0 - t.l1) := by simp [awayR, h, openP, openG]
  unfold endR
  rw [h1, h2]
  rcases leadW_in (t.p0 - t.p1) (t.l0 - t.l1) with e | e | e <;> simp [e, h]
/-! ### Winners that are certain -/
end Go.Proofs.Ytaniakoadbkadaa

/- The sheets of a night by small numbers. -/
namespace Go.Proofs.Ytaniakoadbkadaa
open Go Go.Oc
set_option linter.unusedSimpArgs false
set_option linter.unusedVariables false
set_option maxRecDepth 8000
abbrev bytesR (b : List Int) : RV := .sl 1 (b.map fun x => [.it .u8 x])
theorem pubByte_ok (b : List Int) (hb : ∀ x ∈ b, 0 ≤ x ∧ x ≤ 255) (i : Nat) : ACalls Try.prog 6 [bytesR b, i64 i] (i64 (byteAt b i)) := by
  refine acalls_st (rs := [i64 (byteAt b i)]) [.tmp 4] Try.func6 rfl (by kernel_rfl) Try.ntmps6 rfl (by simp) rfl fun C vs => ?_
  repeat refine awp_seq ?_
  refine awp_reg (by kernel_rfl) fun K hK => ?_
  simp only [go_sem]
  (try simp (disch := omega) only [wrapI])
  repeat first | intro _ | refine ⟨(by omega), ?_⟩ | refine ⟨⟨by omega, by omega⟩, ?_⟩
  refine hK _ ?_
  clear hK K
  refine awp_sub (sub_keep [0, 1]) ?_
  simp only [go_sem]
  repeat refine awp_seq ?_
  refine awp_reg (by kernel_rfl) fun K hK => ?_
  simp only [go_sem]
  (try simp (disch := omega) only [wrapI])
  intro _
  by_cases h0 : b.length = 0
  · have e : ((b.length : Int) == 0) = true := by rw [h0]; rfl
    rw [e]
    repeat first | intro _ | refine ⟨(by omega), ?_⟩ | refine ⟨⟨by omega, by omega⟩, ?_⟩
    refine hK _ ?_
    clear hK K
    repeat refine awp_seq ?_
    refine awp_cond rfl (fun hc => ?_) (fun hc => ?_) <;> (try simp only [go_sem] at hc)
    repeat refine awp_seq ?_
    refine awp_reg (by kernel_rfl) fun K hK => ?_
    simp only [go_sem]
    (try simp (disch := omega) only [wrapI])
    repeat first | intro _ | refine ⟨(by omega), ?_⟩ | refine ⟨⟨by omega, by omega⟩, ?_⟩
    refine hK _ ?_
    clear hK K
    refine awp_ret ?_
    simp only [go_sem]
    simp [byteAt, h0]
  · have e : ((b.length : Int) == 0) = false := by simp; intro h; exact h0 (by rw [h]; rfl)
    rw [e]
    repeat first | intro _ | refine ⟨(by omega), ?_⟩ | refine ⟨⟨by omega, by omega⟩, ?_⟩
    refine hK _ ?_
    clear hK K
    repeat refine awp_seq ?_
    refine awp_cond rfl (fun hc => ?_) (fun hc => ?_) <;> (try simp only [go_sem] at hc)
    refine awp_skip ?_
    try simp only [go_sem]
    have hm : i % b.length < b.length := Nat.mod_lt _ (by omega)
    obtain ⟨x, hx⟩ := opt_of_lt hm
    have hxb := hb x (mem_of_opt hx)
    have e2 : Int.tmod (i : Int) (b.length : Int) = ((i % b.length : Nat) : Int) := rfl
    repeat refine awp_seq ?_
    refine awp_reg (by kernel_rfl) fun K hK => ?_
    simp only [go_sem, hx, hm, e2]
    (try simp (disch := omega) only [wrapI])
    intro _
    repeat first | intro _ | refine ⟨(by omega), ?_⟩ | refine ⟨⟨by omega, by omega⟩, ?_⟩
    refine hK _ ?_
    clear hK K
    refine awp_ret ?_
    simp only [go_sem]
    have : byteAt b i = x := by simp [byteAt, h0, hx]
    rw [this]
abbrev gameN (b : List Int) (g : Nat) : Game := ⟨1 + (g : Int) % 2, 1 + byteAt b g % 5, 1 + (g : Int) % 3⟩
def rulesN (b : List Int) (n : Nat) : Rules := ⟨3, (List.range n).map (gameN b), 20, 0⟩
def sheetN (b : List Int) (g : Nat) : Sheet :=
  if byteAt b g % 11 = 0 then ⟨g, 0, 0, 1 + byteAt b g % 2⟩
  else if byteAt b g % 2 = 1 then ⟨g, byteAt b g / 5 % (1 + byteAt b g % 5), 1 + byteAt b g % 5, 0⟩
  else ⟨g, 1 + byteAt b g % 5, byteAt b g / 5 % (1 + byteAt b g % 5), 0⟩
def sheetsN (b : List Int) (n : Nat) : List Sheet := (List.range n).map (sheetN b)
theorem pubNight_ok (b : List Int) (hb : ∀ x ∈ b, 0 ≤ x ∧ x ≤ 255) (n : Nat) (hn : n ≤ 8) : ACalls Try.prog 15 [bytesR b, i64 n] (.tu [.ag (rulesC (rulesN b n)), sheets (sheetsN b n)]) := by
  refine acalls_st (rs := [.ag (rulesC (rulesN b n)), sheets (sheetsN b n)]) [.cell 4 26, .tmp 5] Try.func15 rfl (by kernel_rfl) Try.ntmps15 rfl (by simp) rfl fun C vs => ?_
  repeat refine awp_seq ?_
  refine awp_reg (by kernel_rfl) fun K hK => ?_
  simp only [go_sem]
  (try simp (disch := omega) only [wrapI])
  repeat first | intro _ | refine ⟨(by omega), ?_⟩ | refine ⟨⟨by omega, by omega⟩, ?_⟩
  refine hK _ ?_
  clear hK K
  refine awp_sub (sub_keep [0, 1, 4]) ?_
  simp only [go_sem]
  repeat refine awp_seq ?_
  refine awp_reg (by kernel_rfl) fun K hK => ?_
  simp only [go_sem]
  (try simp (disch := omega) only [wrapI])
  repeat first | intro _ | refine ⟨(by omega), ?_⟩ | refine ⟨⟨by omega, by omega⟩, ?_⟩
  refine hK _ ?_
  clear hK K
  refine awp_sub (sub_keep [0, 1, 4, 6, 7]) ?_
  simp only [go_sem]
  repeat refine awp_seq ?_
  refine awp_reg (by kernel_rfl) fun K hK => ?_
  simp only [go_sem]
  (try simp (disch := omega) only [wrapI])
  repeat first | intro _ | refine ⟨(by omega), ?_⟩ | refine ⟨⟨by omega, by omega⟩, ?_⟩
  refine hK _ ?_
  clear hK K
  refine awp_sub (sub_keep [0, 1, 4, 6, 7, 8]) ?_
  simp only [go_sem]
  repeat refine awp_seq ?_
  refine awp_block ?_
  refine awp_sub (sub_ownB 6 1 34 33 3 (by omega) (by omega) rfl rfl) ?_
  refine awp_sub (sub_own 7 67 41 4 (by omega) rfl) ?_
  try simp only [go_sem]
  refine awp_uptoV (n := 70) n (fun i vs => [(0, .r (bytesR b)), (1, .r (i64 n)), (4, .pt 4 (vs 4) 0), (6, .pt 6 (vs 6) 0), (7, .os 67 (vs 67) 4 0 i), (8, .r (i64 i))])
    (fun i vs => [(4, .box [.r (i64 0), .r .ns, .r (i64 0), .r (i64 0)]), (6, .box [.r (i64 3), .os 34 (vs 34) 3 0 i, .r (i64 20), .r (i64 0)]), (34, .arr 33 3 ((List.range i).map fun g => gameC (gameN b g))), (67, .arr 41 4 ((List.range i).map fun g => sheetC (sheetN b g)))]) (fun _ => True) 0 (fitV_of [] ?_ ?_) (Nat.zero_le _) trivial ?_
  · try simp only [go_sem]
  · try simp only [go_sem]
    simp
  · intro i vs hi _
    repeat refine awp_seq ?_
    refine awp_reg (by kernel_rfl) fun K hK => ?_
    simp only [go_sem]
    (try simp (disch := omega) only [wrapI])
    repeat first | intro _ | refine ⟨(by omega), ?_⟩ | refine ⟨⟨by omega, by omega⟩, ?_⟩
    refine hK _ ?_
    clear hK K
    repeat refine awp_seq ?_
    refine awp_cond rfl (fun hc => ?_) (fun hc => ?_) <;> (try simp only [go_sem] at hc)
    · have hci := hc
      have hN := byteAt_in hb i
      have hgs : List.range (i + 1) = List.range i ++ [i] := List.range_succ
      obtain ⟨N, hNe⟩ : ∃ N, N = byteAt b i := ⟨_, rfl⟩
      have hNB := hN
      rw [← hNe] at hNB
      have t2 : Int.tmod N 2 = N % 2 := Int.tmod_eq_emod_of_nonneg hNB.1
      have t5 : Int.tmod N 5 = N % 5 := Int.tmod_eq_emod_of_nonneg hNB.1
      have t11 : Int.tmod N 11 = N % 11 := Int.tmod_eq_emod_of_nonneg hNB.1
      have d5 : Int.tdiv N 5 = N / 5 := Int.tdiv_eq_ediv_of_nonneg hNB.1
      have i2 : Int.tmod (i : Int) 2 = (i : Int) % 2 := Int.tmod_eq_emod_of_nonneg (by omega)
      have i3 : Int.tmod (i : Int) 3 = (i : Int) % 3 := Int.tmod_eq_emod_of_nonneg (by omega)
      have td : Int.tmod (N / 5) (1 + N % 5) = N / 5 % (1 + N % 5) := Int.tmod_eq_emod_of_nonneg (by omega)
      have r1 := Int.emod_nonneg (N / 5) (show 1 + N % 5 ≠ 0 by omega)
      have r2 := Int.emod_lt_of_pos (N / 5) (show 0 < 1 + N % 5 by omega)
      refine awp_skip ?_
      try simp only [go_sem]
      repeat refine awp_seq ?_
      refine awp_block ?_
      repeat refine awp_seq ?_
      refine awp_reg (by kernel_rfl) fun K hK => ?_
      simp only [go_sem]
      (try simp (disch := omega) only [wrapI])
      refine xcall_eq (pubByte_ok b hb i) rfl (by simp only [go_sem, i64, ints]) (by simp only [go_sem, i64, ints]) (by first | exact .inl rfl | exact .inr rfl) ?_
      (try simp only [go_sem])
      (try simp (disch := omega) only [wrapI])
      repeat first | intro _ | refine ⟨(by omega), ?_⟩ | refine ⟨⟨by omega, by omega⟩, ?_⟩
      refine hK _ ?_
      clear hK K
      rw [← hNe]
      refine awp_sub (sub_keep [0, 1, 4, 6, 7, 8, 9]) ?_
      simp only [go_sem]
      repeat refine awp_seq ?_
      refine awp_reg (by kernel_rfl) fun K hK => ?_
      simp only [go_sem, List.length_range]
      (try simp (disch := omega) only [wrapI])
      repeat first | intro _ | refine ⟨(by omega), ?_⟩ | refine ⟨⟨by omega, by omega⟩, ?_⟩
      refine hK _ ?_
      clear hK K
      simp only [i2, i3, t5]
      refine awp_sub (sub_keep [0, 1, 4, 6, 7, 8, 9]) ?_
      simp only [go_sem]
      repeat refine awp_seq ?_
      refine awp_reg (by kernel_rfl) fun K hK => ?_
      simp only [go_sem]
      (try simp (disch := omega) only [wrapI])
      repeat first | intro _ | refine ⟨(by omega), ?_⟩ | refine ⟨⟨by omega, by omega⟩, ?_⟩
      refine hK _ ?_
      clear hK K
      simp only [t5, d5, td]
      refine awp_sub (sub_keep [0, 1, 4, 6, 7, 8, 9, 10]) ?_
      simp only [go_sem]
      repeat refine awp_seq ?_
      refine awp_reg (by kernel_rfl) fun K hK => ?_
      simp only [go_sem]
      (try simp (disch := omega) only [wrapI])
      repeat first | intro _ | refine ⟨(by omega), ?_⟩ | refine ⟨⟨by omega, by omega⟩, ?_⟩
      refine hK _ ?_
      clear hK K
      simp only [t2]
      by_cases h2 : N % 2 = 1
      · have c2 : (N % 2 == 1) = true := by simp [h2]
        rw [c2]
        repeat refine awp_seq ?_
        refine awp_cond rfl (fun hc => ?_) (fun hc => ?_) <;> (try simp only [go_sem] at hc)
        repeat refine awp_seq ?_
        refine awp_reg (by kernel_rfl) fun K hK => ?_
        simp only [go_sem]
        (try simp (disch := omega) only [wrapI])
        repeat first | intro _ | refine ⟨(by omega), ?_⟩ | refine ⟨⟨by omega, by omega⟩, ?_⟩
        refine hK _ ?_
        clear hK K
        refine awp_sub (sub_keep [0, 1, 4, 6, 7, 8, 9, 10]) ?_
        simp only [go_sem]
        by_cases h11 : N % 11 = 0
        · have c11 : (N % 11 == 0) = true := by simp [h11]
          have hsh : sheetN b i = ⟨i, 0, 0, 1 + N % 2⟩ := by simp [sheetN, ← hNe, h11, h2]
          repeat refine awp_seq ?_
          refine awp_reg (by kernel_rfl) fun K hK => ?_
          simp only [go_sem]
          (try simp (disch := omega) only [wrapI])
          repeat first | intro _ | refine ⟨(by omega), ?_⟩ | refine ⟨⟨by omega, by omega⟩, ?_⟩
          refine hK _ ?_
          clear hK K
          simp only [t11]
          rw [c11]
          repeat refine awp_seq ?_
          refine awp_cond rfl (fun hc => ?_) (fun hc => ?_) <;> (try simp only [go_sem] at hc)
          repeat refine awp_seq ?_
          refine awp_reg (by kernel_rfl) fun K hK => ?_
          simp only [go_sem]
          (try simp (disch := omega) only [wrapI])
          repeat first | intro _ | refine ⟨(by omega), ?_⟩ | refine ⟨⟨by omega, by omega⟩, ?_⟩
          refine hK _ ?_
          clear hK K
          simp only [t2]
          refine awp_sub (sub_keep [0, 1, 4, 6, 7, 8, 10]) ?_
          simp only [go_sem]
          repeat refine awp_seq ?_
          refine awp_reg (by kernel_rfl) fun K hK => ?_
          simp only [go_sem, List.length_range]
          (try simp (disch := omega) only [wrapI])
          repeat first | intro _ | refine ⟨(by omega), ?_⟩ | refine ⟨⟨by omega, by omega⟩, ?_⟩
          refine hK _ ?_
          clear hK K
          refine awp_sub (sub_keep [0, 1, 4, 6, 7, 8]) ?_
          simp only [go_sem]
          repeat refine awp_seq ?_
          refine awp_reg (by kernel_rfl) fun K hK => ?_
          simp only [go_sem]
          (try simp (disch := omega) only [wrapI])
          repeat first | intro _ | refine ⟨(by omega), ?_⟩ | refine ⟨⟨by omega, by omega⟩, ?_⟩
          refine hK _ ?_
          clear hK K
          try simp only [go_sem]
          refine ⟨hci, fitV_of (F := fun vs => [(0, .r (bytesR b)), (1, .r (i64 n)), (4, .pt 4 (vs 4) 0), (6, .pt 6 (vs 6) 0), (7, .os 67 (vs 67) 4 0 (i + 1)), (8, .r (i64 (i + 1 : Nat)))]) [10] ?_ ?_⟩
          · try simp only [go_sem]
          · try simp only [go_sem]
            simp [hgs, hsh, hNe]
        · have c11 : (N % 11 == 0) = false := by simp [h11]
          have hsh : sheetN b i = ⟨i, N / 5 % (1 + N % 5), 1 + N % 5, 0⟩ := by simp [sheetN, ← hNe, h11, h2]
          repeat refine awp_seq ?_
          refine awp_reg (by kernel_rfl) fun K hK => ?_
          simp only [go_sem]
          (try simp (disch := omega) only [wrapI])
          repeat first | intro _ | refine ⟨(by omega), ?_⟩ | refine ⟨⟨by omega, by omega⟩, ?_⟩
          refine hK _ ?_
          clear hK K
          simp only [t11]
          rw [c11]
          repeat refine awp_seq ?_
          refine awp_cond rfl (fun hc => ?_) (fun hc => ?_) <;> (try simp only [go_sem] at hc)
          refine awp_skip ?_
          try simp only [go_sem]
          refine awp_sub (sub_keep [0, 1, 4, 6, 7, 8, 10]) ?_
          simp only [go_sem]
          repeat refine awp_seq ?_
          refine awp_reg (by kernel_rfl) fun K hK => ?_
          simp only [go_sem, List.length_range]
          (try simp (disch := omega) only [wrapI])
          repeat first | intro _ | refine ⟨(by omega), ?_⟩ | refine ⟨⟨by omega, by omega⟩, ?_⟩
          refine hK _ ?_
          clear hK K
          refine awp_sub (sub_keep [0, 1, 4, 6, 7, 8]) ?_
          simp only [go_sem]
          repeat refine awp_seq ?_
          refine awp_reg (by kernel_rfl) fun K hK => ?_
          simp only [go_sem]
          (try simp (disch := omega) only [wrapI])
          repeat first | intro _ | refine ⟨(by omega), ?_⟩ | refine ⟨⟨by omega, by omega⟩, ?_⟩
          refine hK _ ?_
          clear hK K
          try simp only [go_sem]
          refine ⟨hci, fitV_of (F := fun vs => [(0, .r (bytesR b)), (1, .r (i64 n)), (4, .pt 4 (vs 4) 0), (6, .pt 6 (vs 6) 0), (7, .os 67 (vs 67) 4 0 (i + 1)), (8, .r (i64 (i + 1 : Nat)))]) [10] ?_ ?_⟩
          · try simp only [go_sem]
          · try simp only [go_sem]
            simp [hgs, hsh, hNe]
      · have c2 : (N % 2 == 1) = false := by simp [h2]
        rw [c2]
        repeat refine awp_seq ?_
        refine awp_cond rfl (fun hc => ?_) (fun hc => ?_) <;> (try simp only [go_sem] at hc)
        refine awp_skip ?_
        try simp only [go_sem]
        refine awp_sub (sub_keep [0, 1, 4, 6, 7, 8, 9, 10]) ?_
        simp only [go_sem]
        by_cases h11 : N % 11 = 0
        · have c11 : (N % 11 == 0) = true := by simp [h11]
          have hsh : sheetN b i = ⟨i, 0, 0, 1 + N % 2⟩ := by simp [sheetN, ← hNe, h11, h2]
          repeat refine awp_seq ?_
          refine awp_reg (by kernel_rfl) fun K hK => ?_
          simp only [go_sem]
          (try simp (disch := omega) only [wrapI])
          repeat first | intro _ | refine ⟨(by omega), ?_⟩ | refine ⟨⟨by omega, by omega⟩, ?_⟩
          refine hK _ ?_
          clear hK K
          simp only [t11]
          rw [c11]
          repeat refine awp_seq ?_
          refine awp_cond rfl (fun hc => ?_) (fun hc => ?_) <;> (try simp only [go_sem] at hc)
          repeat refine awp_seq ?_
          refine awp_reg (by kernel_rfl) fun K hK => ?_
          simp only [go_sem]
          (try simp (disch := omega) only [wrapI])
          repeat first | intro _ | refine ⟨(by omega), ?_⟩ | refine ⟨⟨by omega, by omega⟩, ?_⟩
          refine hK _ ?_
          clear hK K
          simp only [t2]
          refine awp_sub (sub_keep [0, 1, 4, 6, 7, 8, 10]) ?_
          simp only [go_sem]
          repeat refine awp_seq ?_
          refine awp_reg (by kernel_rfl) fun K hK => ?_
          simp only [go_sem, List.length_range]
          (try simp (disch := omega) only [wrapI])
          repeat first | intro _ | refine ⟨(by omega), ?_⟩ | refine ⟨⟨by omega, by omega⟩, ?_⟩
          refine hK _ ?_
          clear hK K
          refine awp_sub (sub_keep [0, 1, 4, 6, 7, 8]) ?_
          simp only [go_sem]
          repeat refine awp_seq ?_
          refine awp_reg (by kernel_rfl) fun K hK => ?_
          simp only [go_sem]
          (try simp (disch := omega) only [wrapI])
          repeat first | intro _ | refine ⟨(by omega), ?_⟩ | refine ⟨⟨by omega, by omega⟩, ?_⟩
          refine hK _ ?_
          clear hK K
          try simp only [go_sem]
          refine ⟨hci, fitV_of (F := fun vs => [(0, .r (bytesR b)), (1, .r (i64 n)), (4, .pt 4 (vs 4) 0), (6, .pt 6 (vs 6) 0), (7, .os 67 (vs 67) 4 0 (i + 1)), (8, .r (i64 (i + 1 : Nat)))]) [10] ?_ ?_⟩
          · try simp only [go_sem]
          · try simp only [go_sem]
            simp [hgs, hsh, hNe]
        · have c11 : (N % 11 == 0) = false := by simp [h11]
          have hsh : sheetN b i = ⟨i, 1 + N % 5, N / 5 % (1 + N % 5), 0⟩ := by simp [sheetN, ← hNe, h11, h2]
          repeat refine awp_seq ?_
          refine awp_reg (by kernel_rfl) fun K hK => ?_
          simp only [go_sem]
          (try simp (disch := omega) only [wrapI])
          repeat first | intro _ | refine ⟨(by omega), ?_⟩ | refine ⟨⟨by omega, by omega⟩, ?_⟩
          refine hK _ ?_
          clear hK K
          simp only [t11]
          rw [c11]
          repeat refine awp_seq ?_
          refine awp_cond rfl (fun hc => ?_) (fun hc => ?_) <;> (try simp only [go_sem] at hc)
          refine awp_skip ?_
          try simp only [go_sem]
          refine awp_sub (sub_keep [0, 1, 4, 6, 7, 8, 10]) ?_
          simp only [go_sem]
          repeat refine awp_seq ?_
          refine awp_reg (by kernel_rfl) fun K hK => ?_
          simp only [go_sem, List.length_range]
          (try simp (disch := omega) only [wrapI])
          repeat first | intro _ | refine ⟨(by omega), ?_⟩ | refine ⟨⟨by omega, by omega⟩, ?_⟩
          refine hK _ ?_
          clear hK K
          refine awp_sub (sub_keep [0, 1, 4, 6, 7, 8]) ?_
          simp only [go_sem]
          repeat refine awp_seq ?_
          refine awp_reg (by kernel_rfl) fun K hK => ?_
          simp only [go_sem]
          (try simp (disch := omega) only [wrapI])
          repeat first | intro _ | refine ⟨(by omega), ?_⟩ | refine ⟨⟨by omega, by omega⟩, ?_⟩
          refine hK _ ?_
          clear hK K
          try simp only [go_sem]
          refine ⟨hci, fitV_of (F := fun vs => [(0, .r (bytesR b)), (1, .r (i64 n)), (4, .pt 4 (vs 4) 0), (6, .pt 6 (vs 6) 0), (7, .os 67 (vs 67) 4 0 (i + 1)), (8, .r (i64 (i + 1 : Nat)))]) [10] ?_ ?_⟩
          · try simp only [go_sem]
          · try simp only [go_sem]
            simp [hgs, hsh, hNe]
    · refine awp_exit ?_
      simp only [go_sem]
      have : i = n := by omega
      subst this
      repeat refine awp_seq ?_
      refine awp_reg (by kernel_rfl) fun K hK => ?_
      simp only [go_sem]
      (try simp (disch := omega) only [wrapI])
      repeat first | intro _ | refine ⟨(by omega), ?_⟩ | refine ⟨⟨by omega, by omega⟩, ?_⟩
      refine hK _ ?_
      clear hK K
      refine awp_ret ?_
      simp only [go_sem]
      simp [rulesN, sheetsN, List.map_map, Function.comp_def]
      rw [List.take_of_length_le (by simp), List.take_of_length_le (by simp)]
      simp
end Go.Proofs.Ytaniakoadbkadaa

/- Stable sorting of a few numbers, in place. -/
namespace Go.Proofs.Ytaniakoadbkadaa
open Go Go.Oc
set_option linter.unusedSimpArgs false
set_option linter.unusedVariables false
set_option maxRecDepth 8000
/-! ### Insertion -/
/-- A number comes to its place in a list that is sorted backwards. -/
def insB (lt : Nat → Nat → Bool) (x : Nat) : List Nat → List Nat
  | [] => [x]
  | y :: ys => if lt x y then y :: insB lt x ys else x :: y :: ys
def sortB (lt : Nat → Nat → Bool) : List Nat → List Nat → List Nat
  | [], R => R
  | x :: xs, R => sortB lt xs (insB lt x R)
def sortN (lt : Nat → Nat → Bool) (l : List Nat) : List Nat := (sortB lt l []).reverse
theorem insB_len (lt : Nat → Nat → Bool) (x : Nat) : ∀ R, (insB lt x R).length = R.length + 1
  | [] => rfl
  | y :: R => by
    unfold insB
    split
    · simp [insB_len lt x R]
    · rfl
theorem insB_skip (lt : Nat → Nat → Bool) (x : Nat) : ∀ (R : List Nat) (k : Nat), (∀ y ∈ R.take k, lt x y = true) → insB lt x R = R.take k ++ insB lt x (R.drop k)
  | R, 0, _ => by simp
  | [], k + 1, _ => by simp
  | y :: R, k + 1, h => by
    have hy : lt x y = true := h y (by simp)
    have ih := insB_skip lt x R k fun z hz => h z (by simp [hz])
    simp only [List.take_succ_cons, List.drop_succ_cons, List.cons_append]
    rw [← ih]
    simp [insB, hy]
theorem sortB_snoc (lt : Nat → Nat → Bool) : ∀ (l : List Nat) (x : Nat) (R : List Nat), sortB lt (l ++ [x]) R = insB lt x (sortB lt l R)
  | [], _, _ => rfl
  | y :: l, x, R => by simp only [List.cons_append, sortB]; exact sortB_snoc lt l x _
theorem sortB_len (lt : Nat → Nat → Bool) : ∀ (l R : List Nat), (sortB lt l R).length = l.length + R.length
  | [], R => by simp [sortB]
  | x :: l, R => by simp only [sortB]; rw [sortB_len lt l, insB_len]; simp; omega
theorem mem_insB (lt : Nat → Nat → Bool) (x z : Nat) : ∀ R, z ∈ insB lt x R ↔ z = x ∨ z ∈ R
  | [] => by simp [insB]
  | y :: R => by
    unfold insB
    split
    · simp only [List.mem_cons, mem_insB lt x z R]
      constructor
      · rintro (h | h | h) <;> simp [h]
      · rintro (h | h | h) <;> simp [h]
    · simp
theorem mem_sortB (lt : Nat → Nat → Bool) (z : Nat) : ∀ l R, z ∈ sortB lt l R ↔ z ∈ l ∨ z ∈ R
  | [], R => by simp [sortB]
  | x :: l, R => by
    simp only [sortB]
    rw [mem_sortB lt z l, mem_insB]
    simp only [List.mem_cons]
    constructor
    · rintro (h | h | h) <;> simp [h]
    · rintro ((h | h) | h) <;> simp [h]
/-- What lies in the row while number x goes down: k numbers have been passed. -/
def holeL (R : List Nat) (x k : Nat) (rest : List Nat) : List Nat := (R.drop k).reverse ++ x :: ((R.take k).reverse ++ rest)
theorem hole_len (R : List Nat) (x k : Nat) (rest : List Nat) (hk : k ≤ R.length) : (holeL R x k rest).length = R.length + 1 + rest.length := by
  simp [holeL]; omega
theorem hole_at (R : List Nat) (x k : Nat) (rest : List Nat) (hk : k ≤ R.length) : (holeL R x k rest)[R.length - k]? = some x := by
  unfold holeL
  rw [List.getElem?_append_right (by simp)]
  simp
theorem hole_next {R : List Nat} {x k y : Nat} {rest : List Nat} (hy : R[k]? = some y) : (holeL R x k rest)[R.length - k - 1]? = some y ∧ (holeL R x k rest) = (R.drop (k + 1)).reverse ++ y :: x :: ((R.take k).reverse ++ rest) ∧ holeL R x (k + 1) rest = (R.drop (k + 1)).reverse ++ x :: y :: ((R.take k).reverse ++ rest) := by
  have hk := (List.getElem?_eq_some_iff.1 hy).1
  have hd := drop_of_opt hy
  have ht := take_of_opt hy
  have e1 : (holeL R x k rest) = (R.drop (k + 1)).reverse ++ y :: x :: ((R.take k).reverse ++ rest) := by
    unfold holeL; rw [hd]; simp
  refine ⟨?_, e1, by unfold holeL; rw [ht]; simp⟩
  rw [e1, List.getElem?_append_right (by simp; omega)]
  have : R.length - k - 1 - (R.drop (k + 1)).reverse.length = 0 := by simp; omega
  rw [this]; rfl
theorem hole_swap {α : Type} (g : Nat → α) {R : List Nat} {x k y : Nat} {rest : List Nat} (hy : R[k]? = some y) :
    (((holeL R x k rest).map g).set (R.length - k) (g y)).set (R.length - k - 1) (g x) = (holeL R x (k + 1) rest).map g := by
  obtain ⟨_, e1, e2⟩ := hole_next (x := x) (rest := rest) hy
  have hk := (List.getElem?_eq_some_iff.1 hy).1
  rw [e1, e2, ← List.map_set, ← List.map_set]
  congr 1
  have hl : (R.drop (k + 1)).reverse.length = R.length - k - 1 := by simp; omega
  generalize (R.drop (k + 1)).reverse = A at hl
  generalize (R.take k).reverse ++ rest = B
  have e3 : R.length - k = A.length + 1 := by omega
  rw [e3, Nat.add_sub_cancel]
  rw [List.set_append_right _ _ (by omega)]
  simp only [Nat.add_sub_cancel_left, List.set_cons_succ, List.set_cons_zero]
  rw [List.set_append_right _ _ (by omega)]
  simp
theorem lent_put {vs : Nat → Nat} {k : Nat} (h : Lent vs) : Lent (upd vs k 0) := fun j hj => by
  unfold upd; split
  · rfl
  · exact h j hj
abbrev idx (l : List Nat) : List (List RV) := l.map fun (x : Nat) => [i64 (x : Int)]
theorem insertion_ok (lt : Nat → Nat → Bool) (c : Nat → Nat → Int) (f : Nat) (caps : List RV) (l : List Nat) (hl : l.length ≤ 1000) (hlt : ∀ x y, lt x y = decide (c x y < 0))
    (hcc : ∀ x ∈ l, ∀ y ∈ l, ACalls Try.prog f (i64 (x : Int) :: i64 (y : Int) :: caps) (i64 (c x y))) :
    MCalls Try.prog 74 [(1000, .arr 3 1 (idx l))] [(1000, .arr 3 1 (idx (sortN lt l)))] [.os 1000 0 1 0 l.length, .r (i64 0), .r (i64 l.length), .r (.fn f caps)] (.tu []) := by
  refine mcalls_st (n := 53) (rs := []) _ _ [] Try.func74 rfl (by kernel_rfl) Try.ntmps74 rfl (by simp) rfl rfl fun C => ?_
  have hmem : ∀ i z, z ∈ sortB lt (l.take i) [] → z ∈ l := fun i z hz => by
    rw [mem_sortB] at hz
    rcases hz with hz | hz
    · exact List.mem_of_mem_take hz
    · cases hz
  repeat refine awp_seq ?_
  refine awp_reg (by kernel_rfl) fun K hK => ?_
  simp only [go_sem]
  (try simp (disch := omega) only [wrapI])
  repeat first | intro _ | refine ⟨(by omega), ?_⟩ | refine ⟨⟨by omega, by omega⟩, ?_⟩
  refine hK _ ?_
  clear hK K
  refine awp_sub (sub_keep [0, 1, 2, 3, 8]) ?_
  simp only [go_sem]
  repeat refine awp_seq ?_
  refine awp_block ?_
  refine awp_upto0 (n := 53) (max l.length 1) (fun i vs => [(0, .os 1000 0 1 0 l.length), (1, .r (i64 0)), (2, .r (i64 l.length)), (3, .r (.fn f caps)), (8, .r (i64 i))])
    (fun i => [(1000, .arr 3 1 (idx ((sortB lt (l.take i) []).reverse ++ l.drop i)))]) (fun i => 1 ≤ i) 1 (fit0_of [] lent_zero ?_ ?_) (by omega) (Nat.le_refl _) ?_
  · try simp only [go_sem]
  · simp only [go_sem]
    cases l with
    | nil => rfl
    | cons x l => simp [sortB, insB]
  · intro i vs hv hi hi1
    have hv0 := hv 1000 (by omega)
    repeat refine awp_seq ?_
    refine awp_reg (by kernel_rfl) fun K hK => ?_
    simp only [go_sem]
    (try simp (disch := omega) only [wrapI])
    repeat first | intro _ | refine ⟨(by omega), ?_⟩ | refine ⟨⟨by omega, by omega⟩, ?_⟩
    refine hK _ ?_
    clear hK K
    refine awp_sub (sub_keep [0, 1, 2, 3, 8, 14]) ?_
    simp only [go_sem]
    repeat refine awp_seq ?_
    refine awp_cond rfl (fun hc => ?_) (fun hc => ?_) <;> (try simp only [go_sem] at hc)
    · have hci : i < l.length := by omega
      obtain ⟨x, hx⟩ := opt_of_lt hci
      obtain ⟨R, hR⟩ : ∃ R, R = sortB lt (l.take i) [] := ⟨_, rfl⟩
      have hRl : R.length = i := by rw [hR, sortB_len]; simp; omega
      have hRm : ∀ z ∈ R, z ∈ l := fun z hz => hmem i z (hR ▸ hz)
      have hnx : sortB lt (l.take (i + 1)) [] = insB lt x R := by rw [take_of_opt hx, sortB_snoc, hR]
      have hst : (sortB lt (l.take i) []).reverse ++ l.drop i = holeL R x 0 (l.drop (i + 1)) := by rw [← hR, drop_of_opt hx]; simp [holeL]
      rw [hst]
      refine awp_skip ?_
      repeat refine awp_seq ?_
      refine awp_block ?_
      repeat refine awp_seq ?_
      refine awp_reg (by kernel_rfl) fun K hK => ?_
      simp only [go_sem]
      (try simp (disch := omega) only [wrapI])
      repeat first | intro _ | refine ⟨(by omega), ?_⟩ | refine ⟨⟨by omega, by omega⟩, ?_⟩
      refine hK _ ?_
      clear hK K
      refine awp_sub (sub_keep [0, 1, 2, 3, 8, 9]) ?_
      simp only [go_sem]
      repeat refine awp_seq ?_
      refine awp_block ?_
      refine awp_upto0 (n := 53) i (fun k vs => [(0, .os 1000 0 1 0 l.length), (1, .r (i64 0)), (2, .r (i64 l.length)), (3, .r (.fn f caps)), (8, .r (i64 i)), (9, .r (i64 (i - k : Nat)))])
        (fun k => [(1000, .arr 3 1 (idx (holeL R x k (l.drop (i + 1)))))]) (fun k => ∀ y ∈ R.take k, lt x y = true) 0 (fit0_of [] hv ?_ ?_) (Nat.zero_le _) (by simp) ?_
      · try simp only [go_sem]
      · try simp only [go_sem]
      · intro k vs hv hk hI
        have hv0 := hv 1000 (by omega)
        have hins := insB_skip lt x R k hI
        -- the number is at its place
        have done : insB lt x (R.drop k) = x :: R.drop k → sortB lt (l.take (i + 1)) [] = R.take k ++ x :: R.drop k := fun h => by rw [hnx, hins, h]
        by_cases hk0 : k = i
        · have e0 : i - k = 0 := by omega
          repeat refine awp_seq ?_
          refine awp_dreg2 [(0, some 1000)] follows (by decide +kernel) (by kernel_rfl) (by simp only [keysOk, List.mem_cons, List.not_mem_nil, forall_eq_or_imp, Oc.keyOf, go_sem]; simp) fun K hK => ?_
          simp only [go_sem, hv0, e0]
          (try simp (disch := omega) only [wrapI])
          repeat first | intro _ | refine ⟨(by omega), ?_⟩ | refine ⟨⟨by omega, by omega⟩, ?_⟩
          refine hK _ ?_
          clear hK K
          refine awp_sub (sub_keep [0, 1, 2, 3, 8, 9, 34]) ?_
          simp only [go_sem]
          repeat refine awp_seq ?_
          refine awp_cond rfl (fun hc => ?_) (fun hc => ?_) <;> (try simp only [go_sem] at hc)
          refine awp_exit ?_
          simp only [go_sem]
          repeat refine awp_seq ?_
          refine awp_reg (by kernel_rfl) fun K hK => ?_
          simp only [go_sem]
          (try simp (disch := omega) only [wrapI])
          repeat first | intro _ | refine ⟨(by omega), ?_⟩ | refine ⟨⟨by omega, by omega⟩, ?_⟩
          refine hK _ ?_
          clear hK K
          try simp only [go_sem]
          refine ⟨by omega, fit0_of [] hv ?_ ?_⟩
          · try simp only [go_sem]
          · have hd0 : R.drop k = [] := List.drop_eq_nil_of_le (by omega)
            have := done (by rw [hd0]; rfl)
            simp only [go_sem, this]
            simp [holeL]
        · obtain ⟨y, hy⟩ := opt_of_lt (l := R) (i := k) (by omega)
          obtain ⟨j, hj⟩ : ∃ j, i - k = j + 1 := ⟨i - k - 1, by omega⟩
          have hjs : IntKind.i64.wrap ((j : Int) + 1 - 1) = j := by rw [wrapI] <;> omega
          have hlen : (holeL R x k (l.drop (i + 1))).length = l.length := by rw [hole_len _ _ _ _ (by omega), List.length_drop]; omega
          have hxa : (holeL R x k (l.drop (i + 1)))[j + 1]? = some x := by rw [← hj, ← hRl]; exact hole_at R x k _ (by omega)
          have hya : (holeL R x k (l.drop (i + 1)))[j]? = some y := by
            have := (hole_next (x := x) (rest := l.drop (i + 1)) hy).1
            rw [hRl, hj] at this
            exact this
          have hcall := hcc x (mem_of_opt hx) y (hRm y (mem_of_opt hy))
          have hpos : (0 < (j : Int) + 1) = True := by simp
          have hlxy := hlt x y
          repeat refine awp_seq ?_
          refine awp_dreg2 [(0, some 1000)] follows (by decide +kernel) (by kernel_rfl) (by simp only [keysOk, List.mem_cons, List.not_mem_nil, forall_eq_or_imp, Oc.keyOf, go_sem]; simp) fun K hK => ?_
          simp only [go_sem, hv0, hj, hjs, hxa, hya, hlen, hpos]
          (try simp (disch := omega) only [wrapI])
          refine ⟨by omega, by omega, ?_⟩
          refine xcall_eq (hcall) rfl (by simp only [go_sem, i64, ints, hv0]) (by simp only [go_sem, i64, ints, hv0]) (by first | exact .inl rfl | exact .inr rfl) ?_
          (try simp only [go_sem, hv0])
          (try simp (disch := omega) only [wrapI])
          repeat first | intro _ | refine ⟨(by omega), ?_⟩ | refine ⟨⟨by omega, by omega⟩, ?_⟩
          refine hK _ ?_
          clear hK K
          refine awp_sub (sub_keep [0, 1, 2, 3, 8, 9, 34]) ?_
          simp only [go_sem]
          cases hcx : decide (c x y < 0)
          · repeat refine awp_seq ?_
            refine awp_cond rfl (fun hc => ?_) (fun hc => ?_) <;> (try simp only [go_sem] at hc)
            refine awp_exit ?_
            simp only [go_sem]
            repeat refine awp_seq ?_
            refine awp_reg (by kernel_rfl) fun K hK => ?_
            simp only [go_sem]
            (try simp (disch := omega) only [wrapI])
            repeat first | intro _ | refine ⟨(by omega), ?_⟩ | refine ⟨⟨by omega, by omega⟩, ?_⟩
            refine hK _ ?_
            clear hK K
            try simp only [go_sem]
            refine ⟨by omega, fit0_of [] hv ?_ ?_⟩
            · try simp only [go_sem]
            · have := done (by rw [drop_of_opt hy]; simp [insB, hlxy, hcx])
              simp only [go_sem, this]
              simp [holeL]
          · repeat refine awp_seq ?_
            refine awp_cond rfl (fun hc => ?_) (fun hc => ?_) <;> (try simp only [go_sem] at hc)
            refine awp_skip ?_
            try simp only [go_sem]
            repeat refine awp_seq ?_
            refine awp_block ?_
            have hset : ((idx (holeL R x k (l.drop (i + 1)))).set (j + 1) [i64 (y : Int)]).getD j [] = [i64 (y : Int)] := by
              rw [List.getD_eq_getElem?_getD, List.getElem?_set_ne (by omega), List.getElem?_map, hya]; rfl
            have hsw := hole_swap (fun (x : Nat) => [i64 (x : Int)]) (x := x) (rest := l.drop (i + 1)) hy
            rw [hRl, hj] at hsw
            simp only [Nat.add_sub_cancel] at hsw
            repeat refine awp_seq ?_
            refine awp_dreg2 [(0, some 1000)] follows (by decide +kernel) (by kernel_rfl) (by simp only [keysOk, List.mem_cons, List.not_mem_nil, forall_eq_or_imp, Oc.keyOf, go_sem]; simp) fun K hK => ?_
            simp only [go_sem, hv0, hj, hjs, hxa, hya, hlen, hset, List.length_set]
            (try simp (disch := omega) only [wrapI])
            repeat' first | intro _ | refine And.intro ?_ ?_
            all_goals first | omega | skip
            all_goals (refine hK _ ?_; clear hK K)
            refine awp_sub (sub_keep [0, 1, 2, 3, 8, 9]) ?_
            simp only [go_sem]
            repeat refine awp_seq ?_
            refine awp_reg (by kernel_rfl) fun K hK => ?_
            simp only [go_sem, hjs]
            (try simp (disch := omega) only [wrapI])
            repeat first | intro _ | refine ⟨(by omega), ?_⟩ | refine ⟨⟨by omega, by omega⟩, ?_⟩
            refine hK _ ?_
            clear hK K
            try simp only [go_sem]
            have hj2 : i - (k + 1) = j := by omega
            refine ⟨by omega, ?_, fit0_of [] (lent_put (lent_put hv)) ?_ ?_⟩
            · rw [take_of_opt hy]
              intro z hz
              rcases List.mem_append.1 hz with hz | hz
              · exact hI z hz
              · simp only [List.mem_singleton] at hz
                subst hz
                rw [hlxy, hcx]
            · simp only [go_sem, hj2]
            · simp only [go_sem]
              exact congrArg (fun z => [(1000, RowC.arr 3 1 z)]) hsw
    · refine awp_exit ?_
      simp only [go_sem]
      have h1 : l.take i = l := List.take_of_length_le (by omega)
      have h2 : l.drop i = [] := List.drop_eq_nil_of_le (by omega)
      rw [h1, h2, List.append_nil]
      rfl
theorem stable_ok (lt : Nat → Nat → Bool) (c : Nat → Nat → Int) (f : Nat) (caps : List RV) (l : List Nat) (hl : l.length ≤ 19) (hlt : ∀ x y, lt x y = decide (c x y < 0))
    (hcc : ∀ x ∈ l, ∀ y ∈ l, ACalls Try.prog f (i64 (x : Int) :: i64 (y : Int) :: caps) (i64 (c x y))) :
    MCalls Try.prog 60 [(1000, .arr 3 1 (idx l))] [(1000, .arr 3 1 (idx (sortN lt l)))] [.os 1000 0 1 0 l.length, .r (i64 l.length), .r (.fn f caps)] (.tu []) := by
  refine mcalls_st (n := 63) (rs := []) _ _ [] Try.func60 rfl (by kernel_rfl) Try.ntmps60 rfl (by simp) rfl rfl fun C => ?_
  repeat refine awp_seq ?_
  refine awp_reg (by kernel_rfl) fun K hK => ?_
  simp only [go_sem]
  (try simp (disch := omega) only [wrapI])
  repeat first | intro _ | refine ⟨(by omega), ?_⟩ | refine ⟨⟨by omega, by omega⟩, ?_⟩
  refine hK _ ?_
  clear hK K
  repeat refine awp_seq ?_
  refine awp_reg (by kernel_rfl) fun K hK => ?_
  simp only [go_sem]
  (try simp (disch := omega) only [wrapI])
  repeat first | intro _ | refine ⟨(by omega), ?_⟩ | refine ⟨⟨by omega, by omega⟩, ?_⟩
  refine hK _ ?_
  clear hK K
  refine awp_sub (sub_keep [0, 1, 2, 6, 7, 8]) ?_
  simp only [go_sem]
  repeat refine awp_seq ?_
  refine awp_block ?_
  refine awp_upto0 (n := 63) 0 (fun i vs => [(0, .os 1000 0 1 0 l.length), (1, .r (i64 l.length)), (2, .r (.fn f caps)), (6, .r (i64 20)), (7, .r (i64 0)), (8, .r (i64 20))])
    (fun i => [(1000, .arr 3 1 (idx l))]) (fun i => True) 0 (fit0_of [] lent_zero ?_ ?_) (Nat.zero_le _) trivial ?_
  · try simp only [go_sem]
  · try simp only [go_sem]
  intro i vs hv _ _
  have hv0 := hv 1000 (by omega)
  repeat refine awp_seq ?_
  refine awp_reg (by kernel_rfl) fun K hK => ?_
  simp only [go_sem]
  (try simp (disch := omega) only [wrapI])
  repeat first | intro _ | refine ⟨(by omega), ?_⟩ | refine ⟨⟨by omega, by omega⟩, ?_⟩
  refine hK _ ?_
  clear hK K
  repeat refine awp_seq ?_
  refine awp_cond rfl (fun hc => ?_) (fun hc => ?_) <;> (try simp only [go_sem] at hc)
  · omega
  refine awp_exit ?_
  simp only [go_sem]
  repeat refine awp_seq ?_
  refine awp_reg (by kernel_rfl) fun K hK => ?_
  simp only [go_sem]
  (try simp (disch := omega) only [wrapI])
  refine xcall_mut (insertion_ok lt c f caps l (by omega) hlt hcc) [(1000, 1000)] rfl (by simp only [go_sem, i64, ints, hv0]) (by simp only [go_sem, i64, ints, hv0]) (by rfl) (by rfl) ?_
  (try simp only [go_sem, hv0])
  (try simp (disch := omega) only [wrapI])
  repeat first | intro _ | refine ⟨(by omega), ?_⟩ | refine ⟨⟨by omega, by omega⟩, ?_⟩
  refine hK _ ?_
  clear hK K
  try simp only [go_sem]
  repeat refine awp_seq ?_
  refine awp_block ?_
  refine awp_upto0 (n := 63) 0 (fun i vs => [(1, .r (i64 l.length)), (6, .r (i64 20))])
    (fun i => [(1000, .arr 3 1 (idx (sortN lt l)))]) (fun i => True) 0 (fit0_of [] hv ?_ ?_) (Nat.zero_le _) trivial ?_
  · try simp only [go_sem]
  · try simp only [go_sem]
  intro i vs hv _ _
  repeat refine awp_seq ?_
  refine awp_reg (by kernel_rfl) fun K hK => ?_
  simp only [go_sem]
  (try simp (disch := omega) only [wrapI])
  repeat first | intro _ | refine ⟨(by omega), ?_⟩ | refine ⟨⟨by omega, by omega⟩, ?_⟩
  refine hK _ ?_
  clear hK K
  repeat refine awp_seq ?_
  refine awp_cond rfl (fun hc => ?_) (fun hc => ?_) <;> (try simp only [go_sem] at hc)
  · omega
  refine awp_exit ?_
  simp only [go_sem]
theorem sortStable_ok (lt : Nat → Nat → Bool) (c : Nat → Nat → Int) (f : Nat) (caps : List RV) (l : List Nat) (hl : l.length ≤ 19) (hlt : ∀ x y, lt x y = decide (c x y < 0))
    (hcc : ∀ x ∈ l, ∀ y ∈ l, ACalls Try.prog f (i64 (x : Int) :: i64 (y : Int) :: caps) (i64 (c x y))) :
    MCalls Try.prog 32 [(1000, .arr 3 1 (idx l))] [(1000, .arr 3 1 (idx (sortN lt l)))] [.os 1000 0 1 0 l.length, .r (.fn f caps)] (.tu []) := by
  refine mcalls_st (n := 9) (rs := []) _ _ [] Try.func32 rfl (by kernel_rfl) Try.ntmps32 rfl (by simp) rfl rfl fun C => ?_
  repeat refine awp_seq ?_
  refine awp_reg (by kernel_rfl) fun K hK => ?_
  simp only [go_sem]
  (try simp (disch := omega) only [wrapI])
  intro _
  refine xcall_mut (stable_ok lt c f caps l (by omega) hlt hcc) [(1000, 1000)] rfl (by simp only [go_sem, i64, ints]) (by simp only [go_sem, i64, ints]) (by rfl) (by rfl) ?_
  (try simp only [go_sem])
  (try simp (disch := omega) only [wrapI])
  repeat first | intro _ | refine ⟨(by omega), ?_⟩ | refine ⟨⟨by omega, by omega⟩, ?_⟩
  refine hK _ ?_
  clear hK K
  try simp only [go_sem]
theorem mem_sortN {lt : Nat → Nat → Bool} {l : List Nat} {z : Nat} : z ∈ sortN lt l ↔ z ∈ l := by
  unfold sortN
  rw [List.mem_reverse, mem_sortB]
  simp
theorem sortN_len (lt : Nat → Nat → Bool) (l : List Nat) : (sortN lt l).length = l.length := by
  unfold sortN
  rw [List.length_reverse, sortB_len]
  simp
theorem rep_at {g : List (List RV)} {z : List RV} {n i : Nat} (hg : g.length = i) (hi : i < n) : (g ++ List.replicate (n - i) z).getD i [] = z := by
  rw [List.getD_eq_getElem?_getD, List.getElem?_append_right (by omega), hg, Nat.sub_self, List.getElem?_replicate, if_pos (by omega)]
  rfl
theorem rep_len {g : List (List RV)} {z : List RV} {n i : Nat} (hg : g.length = i) (hi : i < n) : (g ++ List.replicate (n - i) z).length = n := by simp; omega
theorem rep_set {g : List (List RV)} {z v : List RV} {n i : Nat} (hg : g.length = i) (hi : i < n) : (g ++ List.replicate (n - i) z).set i v = (g ++ [v]) ++ List.replicate (n - (i + 1)) z := by
  rw [List.set_append_right _ _ (by omega), hg, Nat.sub_self]
  have : n - i = (n - (i + 1)) + 1 := by omega
  rw [this, List.replicate_succ, List.set_cons_zero]
  simp
theorem relV_unmap {w : World} {p : Plan} {ver : Nat → Nat} : ∀ {xs : List RV} {vs : List Value}, AV.relV w p ver (xs.map .r) vs → RV.relV w p.R xs vs
  | [], _, h => by simpa only [List.map_nil, AV.relV, RV.relV] using h
  | x :: xs, vs, h => by
    simp only [List.map_cons, AV.relV, AV.rel] at h
    simp only [RV.relV]
    obtain ⟨u, us, h1, h2, h3⟩ := h
    exact ⟨u, us, h1, h2, relV_unmap h3⟩
theorem mcalls_fn {F : Nat} {L L' : List (Nat × RowC)} {x r : AV} {f : Nat} {caps : List RV} (h : MCalls Try.prog F L L' [x, .r (.fn f caps)] r) : MCalls Try.prog F L L' [x, .fn f (caps.map .r)] r :=
  ⟨h.1, fun w p vs h1 h2 h3 h4 h5 h6 hV => h.2 w p vs h1 h2 h3 h4 h5 h6 (by
    simp only [AV.relV] at hV ⊢
    obtain ⟨u, us, e1, k1, u', us', e2, k2, e3⟩ := hV
    refine ⟨u, us, e1, k1, u', us', e2, ?_, e3⟩
    simp only [AV.rel, RV.rel] at k2 ⊢
    obtain ⟨ws, k3, k4⟩ := k2
    exact ⟨ws, k3, relV_unmap k4⟩)⟩
end Go.Proofs.Ytaniakoadbkadaa

/- Shares: what is left over goes to the greatest remainders. -/
namespace Go.Proofs.Ytaniakoadbkadaa
open Go Go.Oc
set_option linter.unusedVariables false
def ltS (m s : Int) (ws : List Int) (x y : Nat) : Bool := decide (m * (ws[y]?).getD 0 % s - m * (ws[x]?).getD 0 % s < 0)
def bump : List Int → List Nat → List Int
  | p, [] => p
  | p, i :: is => bump (p.set i ((p[i]?).getD 0 + 1)) is
def partsS (m s : Int) (ws : List Int) : List Int := ws.map fun w => m * w / s
def shareL (m : Int) (ws : List Int) : List Int :=
  bump (partsS m ws.sum ws) ((sortN (ltS m ws.sum ws) (List.range ws.length)).take (m - (partsS m ws.sum ws).sum).toNat)
theorem bump_snoc : ∀ (is : List Nat) (p : List Int) (i : Nat), bump p (is ++ [i]) = (bump p is).set i (((bump p is)[i]?).getD 0 + 1)
  | [], _, _ => rfl
  | j :: is, p, i => by simp only [List.cons_append, bump]; exact bump_snoc is _ i
theorem bump_len : ∀ (is : List Nat) (p : List Int), (bump p is).length = p.length
  | [], _ => rfl
  | j :: is, p => by simp only [bump]; rw [bump_len is]; simp
/-- What the parts lack is at most one for each weight. -/
theorem parts_near {m s : Int} (hs : 0 < s) (hm : 0 ≤ m) : ∀ (ws : List Int), (∀ w ∈ ws, 0 ≤ w) → s * (partsS m s ws).sum ≤ m * ws.sum ∧ m * ws.sum ≤ s * (partsS m s ws).sum + s * (ws.length : Int) ∧ 0 ≤ (partsS m s ws).sum
  | [], _ => by simp [partsS]
  | w :: ws, h => by
    obtain ⟨h1, h2, h3⟩ := parts_near hs hm ws fun x hx => h x (by simp [hx])
    have e := Int.emod_add_mul_ediv (m * w) s
    have r1 := Int.emod_nonneg (m * w) (show s ≠ 0 by omega)
    have r2 := Int.emod_lt_of_pos (m * w) hs
    have p1 : 0 ≤ m * w / s := Int.ediv_nonneg (Int.mul_nonneg hm (h w (by simp))) (by omega)
    simp only [partsS, List.map_cons, List.sum_cons, List.length_cons, Int.natCast_add, Int.mul_add] at h1 h2 h3 ⊢
    omega
theorem parts_lack {m : Int} {ws : List Int} (hs : 0 < ws.sum) (hm : 0 ≤ m) (h : ∀ w ∈ ws, 0 ≤ w) : 0 ≤ (partsS m ws.sum ws).sum ∧ (partsS m ws.sum ws).sum ≤ m ∧ m ≤ (partsS m ws.sum ws).sum + (ws.length : Int) := by
  obtain ⟨h1, h2, h3⟩ := parts_near hs hm ws h
  refine ⟨h3, ?_, ?_⟩
  · rw [Int.mul_comm m] at h1
    exact Int.le_of_mul_le_mul_left h1 hs
  · rw [Int.mul_comm m, ← Int.mul_add] at h2
    exact Int.le_of_mul_le_mul_left h2 hs
theorem sort2 (lt : Nat → Nat → Bool) : sortN lt (List.range 2) = if lt 1 0 = true then [1, 0] else [0, 1] := by
  have : List.range 2 = [0, 1] := rfl
  rw [this]
  simp only [sortN, sortB, insB]
  split <;> rfl
/-- Two weights. -/
theorem share2 {m p q : Int} (hm : 0 ≤ m) (hp : 0 ≤ p) (hq : 0 ≤ q) (hs : 0 < p + q) :
    ∃ a b, shareL m [p, q] = [a, b] ∧ a + b = m ∧ (q < p → b ≤ a) ∧ (p < q → a ≤ b) ∧ (p = q → a - b = m % 2) ∧ (p = 0 → a = 0) := by
  have e1 := Int.emod_add_mul_ediv (m * p) (p + q)
  have e2 := Int.emod_add_mul_ediv (m * q) (p + q)
  have r1 := Int.emod_nonneg (m * p) (show p + q ≠ 0 by omega)
  have r2 := Int.emod_lt_of_pos (m * p) hs
  have r3 := Int.emod_nonneg (m * q) (show p + q ≠ 0 by omega)
  have r4 := Int.emod_lt_of_pos (m * q) hs
  have hsum : [p, q].sum = p + q := by simp
  have hps : partsS m (p + q) [p, q] = [m * p / (p + q), m * q / (p + q)] := rfl
  have hlt : ltS m (p + q) [p, q] 1 0 = decide (m * p % (p + q) - m * q % (p + q) < 0) := rfl
  have hlen : [p, q].length = 2 := rfl
  unfold shareL
  rw [hsum, hps, hlen, sort2, hlt]
  have hz : p = 0 → m * p / (p + q) = 0 ∧ m * p % (p + q) = 0 := fun h => by subst h; simp
  have heq : p = q → m * p / (p + q) = m * q / (p + q) ∧ m * p % (p + q) = m * q % (p + q) := fun h => by subst h; exact ⟨rfl, rfl⟩
  have hmd : m * (p + q) = m * p + m * q := Int.mul_add _ _ _
  have hle : q ≤ p → m * q ≤ m * p := fun h => Int.mul_le_mul_of_nonneg_left h hm
  have hle' : p ≤ q → m * p ≤ m * q := fun h => Int.mul_le_mul_of_nonneg_left h hm
  have hd1 : q ≤ p → m * q / (p + q) ≤ m * p / (p + q) := fun h => Int.ediv_le_ediv hs (hle h)
  have hd2 : p ≤ q → m * p / (p + q) ≤ m * q / (p + q) := fun h => Int.ediv_le_ediv hs (hle' h)
  generalize hA : m * p / (p + q) = A at *
  generalize hB : m * q / (p + q) = B at *
  generalize hR : m * p % (p + q) = R at *
  generalize hS : m * q % (p + q) = S at *
  have hAB : [A, B].sum = A + B := by simp
  rw [hAB]
  have key : (p + q) * (m - (A + B)) = R + S := by
    rw [Int.mul_sub, Int.mul_add, Int.mul_comm (p + q) m]
    omega
  have hab0 : A = B → R - S = m * p - m * q := fun h => by subst h; omega
  have hd : m - (A + B) = 0 ∨ m - (A + B) = 1 := by
    by_cases h0 : m - (A + B) < 0
    · have := Int.mul_le_mul_of_nonneg_left (show m - (A + B) ≤ -1 by omega) (show 0 ≤ p + q by omega)
      omega
    · by_cases h2 : 2 ≤ m - (A + B)
      · have := Int.mul_le_mul_of_nonneg_left h2 (show 0 ≤ p + q by omega)
        omega
      · omega
  rcases hd with hd | hd
  · rw [hd]
    refine ⟨A, B, by simp [bump], by omega, fun h => hd1 (by omega), fun h => hd2 (by omega), fun h => ?_, fun h => (hz h).1⟩
    have := (heq h).1
    omega
  · rw [hd]
    rw [hd] at key
    by_cases hc : R - S < 0
    · refine ⟨A, B + 1, by simp [hc, bump], by omega, fun h => ?_, fun h => ?_, fun h => ?_, fun h => (hz h).1⟩
      · have h1 := hd1 (by omega)
        have h2 := hle (by omega)
        by_cases e : A = B
        · have := hab0 e; omega
        · omega
      · have := hd2 (by omega); omega
      · have := (heq h).2; omega
    · refine ⟨A + 1, B, by simp [hc, bump], by omega, fun h => ?_, fun h => ?_, fun h => ?_, fun h => ?_⟩
      · have := hd1 (by omega); omega
      · have h1 := hd2 (by omega)
        have h2 := hle' (by omega)
        by_cases e : A = B
        · have h3 := hab0 e
          have h4 : m * q = m * p := by omega
          have h5 : m * (q - p) = 0 := by rw [Int.mul_sub]; omega
          rcases Int.mul_eq_zero.1 h5 with h6 | h6
          · subst h6
            simp at hA hB
            omega
          · omega
        · omega
      · have := (heq h).1; omega
      · have := (hz h).2; omega
end Go.Proofs.Ytaniakoadbkadaa

/- What Share returns, by the program. -/
namespace Go.Proofs.Ytaniakoadbkadaa
open Go Go.Oc
set_option linter.unusedSimpArgs false
set_option linter.unusedVariables false
set_option maxRecDepth 8000
theorem pWithin1_ok (n a b : Int) : ACalls Try.prog 54 [i64 n, .rp [i64 a], .rp [i64 b]] (.bo (decide (n < a) || decide (b < n))) := by
  refine acalls_st (rs := [.bo (decide (n < a) || decide (b < n))]) [.tmp 4] Try.func54 rfl (by kernel_rfl) Try.ntmps54 rfl (by simp) rfl fun C vs => ?_
  repeat refine awp_seq ?_
  refine awp_reg (by kernel_rfl) fun K hK => ?_
  simp only [go_sem]
  (try simp (disch := omega) only [wrapI])
  repeat first | intro _ | refine ⟨(by omega), ?_⟩ | refine ⟨⟨by omega, by omega⟩, ?_⟩
  refine hK _ ?_
  clear hK K
  repeat refine awp_seq ?_
  refine awp_reg (by kernel_rfl) fun K hK => ?_
  simp only [go_sem]
  (try simp (disch := omega) only [wrapI])
  refine ⟨fun h => ?_, fun h => ?_⟩ <;>
  · repeat first | intro _ | refine ⟨(by omega), ?_⟩ | refine ⟨⟨by omega, by omega⟩, ?_⟩
    refine hK _ ?_
    clear hK K
    refine awp_ret ?_
    simp only [go_sem]
    try simp [h]
theorem pWithin_ok (a b : Int) (l : List Int) : ACalls Try.prog 27 [i64 a, i64 b, ints l] (.bo (withinL a b l)) := by
  refine acalls_st (rs := [.bo (withinL a b l)]) [.tmp 6] Try.func27 rfl (by kernel_rfl) Try.ntmps27 rfl (by simp) rfl fun C vs => ?_
  repeat refine awp_seq ?_
  refine awp_reg (by kernel_rfl) fun K hK => ?_
  simp only [go_sem]
  (try simp (disch := omega) only [wrapI])
  repeat first | intro _ | refine ⟨(by omega), ?_⟩ | refine ⟨⟨by omega, by omega⟩, ?_⟩
  refine hK _ ?_
  clear hK K
  repeat refine awp_seq ?_
  refine awp_reg (by kernel_rfl) fun K hK => ?_
  simp only [go_sem]
  (try simp (disch := omega) only [wrapI])
  refine xcall_eq (contains_ok (fun n => decide (n < a) || decide (b < n)) 54 [.rp [i64 a], .rp [i64 b]] l fun x _ => pWithin1_ok x a b) rfl (by simp only [go_sem, i64, ints]) (by simp only [go_sem, i64, ints]) (by first | exact .inl rfl | exact .inr rfl) ?_
  (try simp only [go_sem])
  (try simp (disch := omega) only [wrapI])
  repeat first | intro _ | refine ⟨(by omega), ?_⟩ | refine ⟨⟨by omega, by omega⟩, ?_⟩
  refine hK _ ?_
  clear hK K
  refine awp_ret ?_
  simp only [go_sem]
  rw [← withinL_not]
theorem psum_le (b : Int) : ∀ (l : List Int), (∀ x ∈ l, 0 ≤ x ∧ x ≤ b) → 0 ≤ l.sum ∧ l.sum ≤ b * l.length
  | [], _ => by simp
  | x :: l, h => by
    have ih := psum_le b l fun y hy => h y (by simp [hy])
    have h1 := h x (by simp)
    simp only [List.sum_cons, List.length_cons]
    have : b * ((l.length + 1 : Nat) : Int) = b * l.length + b := by rw [Int.natCast_add, Int.mul_add]; simp
    omega
theorem ptotal_ok (l : List Int) (hl : l.length ≤ 1000) (h : ∀ x ∈ l, 0 ≤ x ∧ x ≤ 100000000000000) : ACalls Try.prog 28 [ints l] (i64 l.sum) := by
  refine acalls_st (rs := [i64 l.sum]) [.tmp 2] Try.func28 rfl (by kernel_rfl) Try.ntmps28 rfl (by simp) rfl fun C vs => ?_
  repeat refine awp_seq ?_
  refine awp_reg (by kernel_rfl) fun K hK => ?_
  simp only [go_sem]
  (try simp (disch := omega) only [wrapI])
  repeat first | intro _ | refine ⟨(by omega), ?_⟩ | refine ⟨⟨by omega, by omega⟩, ?_⟩
  refine hK _ ?_
  clear hK K
  repeat refine awp_seq ?_
  refine awp_reg (by kernel_rfl) fun K hK => ?_
  simp only [go_sem]
  (try simp (disch := omega) only [wrapI])
  intro _
  repeat first | intro _ | refine ⟨(by omega), ?_⟩ | refine ⟨⟨by omega, by omega⟩, ?_⟩
  refine hK _ ?_
  clear hK K
  repeat refine awp_seq ?_
  refine awp_block ?_
  refine awp_upto (n := 16) l.length (fun i vs => [(5, .r (ints l)), (6, .r (i64 l.length)), (7, .r (i64 i)), (2, .r (i64 (l.take i).sum))]) (fun _ => [])
    (fun i => True) 0 (fit_of [] ?_ rfl) (Nat.zero_le _) trivial ?_
  · try simp only [go_sem]
    simp
  · intro i vs hi _
    repeat refine awp_seq ?_
    refine awp_reg (by kernel_rfl) fun K hK => ?_
    simp only [go_sem]
    (try simp (disch := omega) only [wrapI])
    repeat first | intro _ | refine ⟨(by omega), ?_⟩ | refine ⟨⟨by omega, by omega⟩, ?_⟩
    refine hK _ ?_
    clear hK K
    repeat refine awp_seq ?_
    refine awp_cond rfl (fun hc => ?_) (fun hc => ?_) <;> (try simp only [go_sem] at hc)
    · obtain ⟨x, hx⟩ := opt_of_lt hc
      have hx1 := h x (mem_of_opt hx)
      have hs := psum_le 100000000000000 (l.take i) fun y hy => h y (List.mem_of_mem_take hy)
      simp only [List.length_take] at hs
      have hsn : (l.take (i + 1)).sum = (l.take i).sum + x := by rw [take_of_opt hx]; simp
      refine awp_skip ?_
      repeat refine awp_seq ?_
      refine awp_block ?_
      repeat refine awp_seq ?_
      refine awp_reg (by kernel_rfl) fun K hK => ?_
      simp only [go_sem, hx, hc]
      (try simp (disch := omega) only [wrapI])
      repeat first | intro _ | refine ⟨(by omega), ?_⟩ | refine ⟨⟨by omega, by omega⟩, ?_⟩
      refine hK _ ?_
      clear hK K
      repeat refine awp_seq ?_
      refine awp_reg (by kernel_rfl) fun K hK => ?_
      simp only [go_sem]
      (try simp (disch := omega) only [wrapI])
      repeat first | intro _ | refine ⟨(by omega), ?_⟩ | refine ⟨⟨by omega, by omega⟩, ?_⟩
      refine hK _ ?_
      clear hK K
      try simp only [go_sem]
      repeat refine awp_seq ?_
      refine awp_reg (by kernel_rfl) fun K hK => ?_
      simp only [go_sem]
      (try simp (disch := omega) only [wrapI])
      repeat first | intro _ | refine ⟨(by omega), ?_⟩ | refine ⟨⟨by omega, by omega⟩, ?_⟩
      refine hK _ ?_
      clear hK K
      try simp only [go_sem]
      refine ⟨hc, fit_of [] ?_ rfl⟩
      try simp only [go_sem]
      omega
    · refine awp_exit ?_
      simp only [go_sem]
      repeat refine awp_seq ?_
      refine awp_reg (by kernel_rfl) fun K hK => ?_
      simp only [go_sem]
      (try simp (disch := omega) only [wrapI])
      repeat first | intro _ | refine ⟨(by omega), ?_⟩ | refine ⟨⟨by omega, by omega⟩, ?_⟩
      refine hK _ ?_
      clear hK K
      refine awp_ret ?_
      simp only [go_sem]
      rw [List.take_of_length_le (by omega)]
def cS (m s : Int) (ws : List Int) (x y : Nat) : Int := m * (ws[y]?).getD 0 % s - m * (ws[x]?).getD 0 % s
theorem mul_w {m w : Int} (hm : 0 ≤ m ∧ m ≤ 1000000000) (hw : 0 ≤ w ∧ w ≤ 10000) : 0 ≤ m * w ∧ m * w ≤ 10000000000000 := by
  refine ⟨Int.mul_nonneg hm.1 hw.1, ?_⟩
  have := Int.mul_le_mul hm.2 hw.2 hw.1 (by omega)
  omega
theorem share1_ok (m s : Int) (ws : List Int) (a b : Nat) (hm : 0 ≤ m ∧ m ≤ 1000000000) (hw : ∀ w ∈ ws, 0 ≤ w ∧ w ≤ 10000) (hs : 0 < s ∧ s ≤ 10000000) (ha : a < ws.length) (hb : b < ws.length) :
    ACalls Try.prog 33 [i64 a, i64 b, .rp [i64 m], .rp [ints ws], .rp [i64 s]] (i64 (cS m s ws a b)) := by
  obtain ⟨x, hx⟩ := opt_of_lt ha
  obtain ⟨y, hy⟩ := opt_of_lt hb
  have hx1 := mul_w hm (hw x (mem_of_opt hx))
  have hy1 := mul_w hm (hw y (mem_of_opt hy))
  have r1 := Int.emod_nonneg (m * x) (show s ≠ 0 by omega)
  have r2 := Int.emod_lt_of_pos (m * x) hs.1
  have r3 := Int.emod_nonneg (m * y) (show s ≠ 0 by omega)
  have r4 := Int.emod_lt_of_pos (m * y) hs.1
  have t1 : Int.tmod (m * x) s = m * x % s := Int.tmod_eq_emod_of_nonneg hx1.1
  have t2 : Int.tmod (m * y) s = m * y % s := Int.tmod_eq_emod_of_nonneg hy1.1
  refine acalls_st (rs := [i64 (cS m s ws a b)]) [.tmp 7] Try.func33 rfl (by kernel_rfl) Try.ntmps33 rfl (by simp) rfl fun C vs => ?_
  repeat refine awp_seq ?_
  refine awp_reg (by kernel_rfl) fun K hK => ?_
  simp only [go_sem]
  (try simp (disch := omega) only [wrapI])
  repeat first | intro _ | refine ⟨(by omega), ?_⟩ | refine ⟨⟨by omega, by omega⟩, ?_⟩
  refine hK _ ?_
  clear hK K
  repeat refine awp_seq ?_
  refine awp_dreg follows (by decide +kernel) (by kernel_rfl) fun K hK => ?_
  simp only [go_sem, hx, hy, ha, hb, t1, t2]
  (try simp (disch := omega) only [wrapI])
  repeat first | intro _ | refine ⟨(by omega), ?_⟩ | refine ⟨⟨by omega, by omega⟩, ?_⟩
  refine hK _ ?_
  clear hK K
  refine awp_ret ?_
  simp only [go_sem]
  simp [cS, hx, hy, t1, t2]
theorem bump_le (b : Int) : ∀ (is : List Nat) (c : Int) (p : List Int), (∀ x ∈ p, 0 ≤ x ∧ x ≤ c) → 0 ≤ c → (c + is.length ≤ b) → ∀ x ∈ bump p is, 0 ≤ x ∧ x ≤ b
  | [], c, p, h, _, hb => fun x hx => by
    have := h x hx
    simp at hb
    omega
  | i :: is, c, p, h, hc, hb => by
    simp only [List.length_cons] at hb
    simp only [bump]
    refine bump_le b is (c + 1) _ (fun x hx => ?_) (by omega) (by omega)
    rcases List.mem_or_eq_of_mem_set hx with h1 | h1
    · have := h x h1; omega
    · subst h1
      cases hp : p[i]? with
      | none => simp; omega
      | some y => have := h y (mem_of_opt hp); simp; omega
theorem share_ok (m : Int) (ws : List Int) (hm : 0 ≤ m ∧ m ≤ 1000000000) (hl : 1 ≤ ws.length ∧ ws.length ≤ 19) (hw : ∀ w ∈ ws, 0 ≤ w ∧ w ≤ 10000) (hs : 0 < ws.sum) :
    ACalls Try.prog 16 [i64 m, ints ws] (.tu [ints (shareL m ws), i64 0]) := by
  have hsum := psum_le 10000 ws hw
  have hs2 : ws.sum ≤ 10000000 := by omega
  have w1 : withinL 0 1000000000 [m] = true := by simp [withinL]; omega
  have w2 : withinL 1 60 [(ws.length : Int)] = true := by simp [withinL]; omega
  have w3 : withinL 0 10000 ws = true := by
    unfold withinL
    rw [List.all_eq_true]
    intro x hx
    have := hw x hx
    simp; omega
  obtain ⟨q1, q2, q3⟩ := parts_lack hs hm.1 fun w h => (hw w h).1
  refine acalls_st (rs := [ints (shareL m ws), i64 0]) [.tmp 4, .tmp 5] Try.func16 rfl (by kernel_rfl) Try.ntmps16 rfl (by simp) rfl fun C vs => ?_
  repeat refine awp_seq ?_
  refine awp_reg (by kernel_rfl) fun K hK => ?_
  simp only [go_sem]
  (try simp (disch := omega) only [wrapI])
  repeat first | intro _ | refine ⟨(by omega), ?_⟩ | refine ⟨⟨by omega, by omega⟩, ?_⟩
  refine hK _ ?_
  clear hK K
  refine awp_sub (sub_frzP 2 2 [i64 m] (by omega) rfl rfl) ?_
  refine awp_sub (sub_frzP 3 3 [ints ws] (by omega) rfl rfl) ?_
  refine awp_sub (sub_keep [2, 3, 4]) ?_
  simp only [go_sem]
  repeat refine awp_seq ?_
  refine awp_reg (by kernel_rfl) fun K hK => ?_
  simp only [go_sem]
  (try simp (disch := omega) only [wrapI])
  refine xcall_eq (ptotal_ok ws (by omega) (fun x hx => by have := hw x hx; omega)) rfl (by simp only [go_sem, i64, ints]) (by simp only [go_sem, i64, ints]) (by first | exact .inl rfl | exact .inr rfl) ?_
  (try simp only [go_sem])
  (try simp (disch := omega) only [wrapI])
  repeat first | intro _ | refine ⟨(by omega), ?_⟩ | refine ⟨⟨by omega, by omega⟩, ?_⟩
  refine hK _ ?_
  clear hK K
  refine awp_sub (sub_frzP 6 6 [i64 ws.sum] (by omega) rfl rfl) ?_
  refine awp_sub (sub_keep [2, 3, 4, 6]) ?_
  simp only [go_sem]
  repeat refine awp_seq ?_
  refine awp_block ?_
  repeat refine awp_seq ?_
  refine awp_reg (by kernel_rfl) fun K hK => ?_
  simp only [go_sem]
  (try simp (disch := omega) only [wrapI])
  refine xcall_eq (pWithin_ok 0 1000000000 [m]) rfl (by simp only [go_sem, i64, ints]) (by simp only [go_sem, i64, ints]) (by first | exact .inl rfl | exact .inr rfl) ?_
  (try simp only [go_sem])
  (try simp (disch := omega) only [wrapI])
  repeat first | intro _ | refine ⟨(by omega), ?_⟩ | refine ⟨⟨by omega, by omega⟩, ?_⟩
  refine hK _ ?_
  clear hK K
  rw [w1]
  repeat refine awp_seq ?_
  refine awp_cond rfl (fun hc => ?_) (fun hc => ?_) <;> (try simp only [go_sem] at hc)
  repeat refine awp_seq ?_
  refine awp_reg (by kernel_rfl) fun K hK => ?_
  simp only [go_sem]
  (try simp (disch := omega) only [wrapI])
  intro _
  refine xcall_eq (pWithin_ok 1 60 [(ws.length : Int)]) rfl (by simp only [go_sem, i64, ints]) (by simp only [go_sem, i64, ints]) (by first | exact .inl rfl | exact .inr rfl) ?_
  (try simp only [go_sem])
  (try simp (disch := omega) only [wrapI])
  repeat first | intro _ | refine ⟨(by omega), ?_⟩ | refine ⟨⟨by omega, by omega⟩, ?_⟩
  refine hK _ ?_
  clear hK K
  rw [w2]
  repeat refine awp_seq ?_
  refine awp_cond rfl (fun hc => ?_) (fun hc => ?_) <;> (try simp only [go_sem] at hc)
  repeat refine awp_seq ?_
  refine awp_reg (by kernel_rfl) fun K hK => ?_
  simp only [go_sem]
  (try simp (disch := omega) only [wrapI])
  refine xcall_eq (pWithin_ok 0 10000 ws) rfl (by simp only [go_sem, i64, ints]) (by simp only [go_sem, i64, ints]) (by first | exact .inl rfl | exact .inr rfl) ?_
  (try simp only [go_sem])
  (try simp (disch := omega) only [wrapI])
  repeat first | intro _ | refine ⟨(by omega), ?_⟩ | refine ⟨⟨by omega, by omega⟩, ?_⟩
  refine hK _ ?_
  clear hK K
  rw [w3]
  repeat refine awp_seq ?_
  refine awp_cond rfl (fun hc => ?_) (fun hc => ?_) <;> (try simp only [go_sem] at hc)
  repeat refine awp_seq ?_
  refine awp_reg (by kernel_rfl) fun K hK => ?_
  simp only [go_sem]
  (try simp (disch := omega) only [wrapI])
  repeat first | intro _ | refine ⟨(by omega), ?_⟩ | refine ⟨⟨by omega, by omega⟩, ?_⟩
  refine hK _ ?_
  clear hK K
  have z0 : (ws.sum == 0) = false := by simp; omega
  rw [z0]
  repeat refine awp_seq ?_
  refine awp_cond rfl (fun hc => ?_) (fun hc => ?_) <;> (try simp only [go_sem] at hc)
  refine awp_skip ?_
  try simp only [go_sem]
  repeat refine awp_seq ?_
  refine awp_reg (by kernel_rfl) fun K hK => ?_
  simp only [go_sem]
  (try simp (disch := omega) only [wrapI])
  repeat first | intro _ | refine ⟨(by omega), ?_⟩ | refine ⟨⟨by omega, by omega⟩, ?_⟩
  refine hK _ ?_
  clear hK K
  refine awp_sub (sub_keep [2, 3, 4, 6, 7]) ?_
  simp only [go_sem]
  repeat refine awp_seq ?_
  refine awp_reg (by kernel_rfl) fun K hK => ?_
  simp only [go_sem]
  (try simp (disch := omega) only [wrapI])
  intro _
  repeat first | intro _ | refine ⟨(by omega), ?_⟩ | refine ⟨⟨by omega, by omega⟩, ?_⟩
  refine hK _ ?_
  clear hK K
  refine awp_sub (sub_keep [2, 3, 4, 6, 7, 31, 32, 33]) ?_
  simp only [go_sem]
  repeat refine awp_seq ?_
  refine awp_block ?_
  have hP : ∀ i ≤ ws.length, (partsS m ws.sum (ws.take i)).length = i := fun i hi => by simp [partsS]; omega
  refine awp_sub (sub_own 4 45 3 1 (by omega) rfl) ?_
  refine awp_sub (sub_own 7 49 3 1 (by omega) rfl) ?_
  refine awp_upto (n := 73) ws.length (fun i vs => [(2, .r (.rp [i64 m])), (3, .r (.rp [ints ws])), (4, .os 45 (vs 45) 1 0 i), (6, .r (.rp [i64 ws.sum])), (7, .os 49 (vs 49) 1 0 i), (31, .r (ints ws)), (32, .r (i64 ws.length)), (33, .r (i64 i))])
    (fun i => [(45, .arr 3 1 ((partsS m ws.sum (ws.take i)).map fun x => [i64 x])), (49, .arr 3 1 (idx (List.range i)))]) (fun _ => True) 0 (fit_of [] ?_ ?_) (Nat.zero_le _) trivial ?_
  · try simp only [go_sem]
  · try simp only [go_sem]
    simp [partsS]
  · intro i vs hi _
    repeat refine awp_seq ?_
    refine awp_reg (by kernel_rfl) fun K hK => ?_
    simp only [go_sem]
    (try simp (disch := omega) only [wrapI])
    repeat first | intro _ | refine ⟨(by omega), ?_⟩ | refine ⟨⟨by omega, by omega⟩, ?_⟩
    refine hK _ ?_
    clear hK K
    repeat refine awp_seq ?_
    refine awp_cond rfl (fun hc => ?_) (fun hc => ?_) <;> (try simp only [go_sem] at hc)
    · have hci := hc
      obtain ⟨x, hx⟩ := opt_of_lt hci
      have hx1 := mul_w hm (hw x (mem_of_opt hx))
      have t1 : Int.tdiv (m * x) ws.sum = m * x / ws.sum := Int.tdiv_eq_ediv_of_nonneg hx1.1
      have p1 : 0 ≤ m * x / ws.sum := Int.ediv_nonneg hx1.1 (by omega)
      have p2 : m * x / ws.sum ≤ m * x := Int.ediv_le_self _ hx1.1
      have hpl := hP i (by omega)
      refine awp_skip ?_
      try simp only [go_sem]
      repeat refine awp_seq ?_
      refine awp_block ?_
      repeat refine awp_seq ?_
      refine awp_reg (by kernel_rfl) fun K hK => ?_
      simp only [go_sem, hx, hci]
      (try simp (disch := omega) only [wrapI])
      repeat first | intro _ | refine ⟨(by omega), ?_⟩ | refine ⟨⟨by omega, by omega⟩, ?_⟩
      refine hK _ ?_
      clear hK K
      refine awp_sub (sub_keep [2, 3, 4, 6, 7, 8, 9, 31, 32, 33]) ?_
      simp only [go_sem]
      repeat refine awp_seq ?_
      refine awp_reg (by kernel_rfl) fun K hK => ?_
      simp only [go_sem, hpl, t1, List.length_range]
      (try simp (disch := omega) only [wrapI])
      repeat first | intro _ | refine ⟨(by omega), ?_⟩ | refine ⟨⟨by omega, by omega⟩, ?_⟩
      refine hK _ ?_
      clear hK K
      refine awp_sub (sub_keep [2, 3, 4, 6, 7, 31, 32, 33]) ?_
      simp only [go_sem]
      repeat refine awp_seq ?_
      refine awp_reg (by kernel_rfl) fun K hK => ?_
      simp only [go_sem]
      (try simp (disch := omega) only [wrapI])
      repeat first | intro _ | refine ⟨(by omega), ?_⟩ | refine ⟨⟨by omega, by omega⟩, ?_⟩
      refine hK _ ?_
      clear hK K
      try simp only [go_sem]
      refine ⟨hci, fit_of [] ?_ ?_⟩
      · try simp only [go_sem]
      · try simp only [go_sem]
        simp [t1, partsS, take_of_opt hx]
    · refine awp_exit ?_
      simp only [go_sem]
      have hii : i = ws.length := by omega
      subst hii
      have e3 : ws.take ws.length = ws := List.take_length
      rw [e3]
      have hpl := hP ws.length (Nat.le_refl _)
      rw [e3] at hpl
      have hsort := sortStable_ok (ltS m ws.sum ws) (cS m ws.sum ws) 33 [.rp [i64 m], .rp [ints ws], .rp [i64 ws.sum]] (List.range ws.length) (by simpa using hl.2) (fun _ _ => rfl) (fun i hi k hk =>
        share1_ok m ws.sum ws i k hm hw ⟨hs, hs2⟩ (List.mem_range.1 hi) (List.mem_range.1 hk))
      rw [List.length_range] at hsort
      repeat refine awp_seq ?_
      refine awp_reg (by kernel_rfl) fun K hK => ?_
      simp only [go_sem]
      (try simp (disch := omega) only [wrapI])
      refine xcall_mut (mcalls_fn hsort) [(1000, 49)] rfl (by simp only [go_sem, i64, ints]) (by simp only [go_sem, i64, ints]) (by rfl) (by rfl) ?_
      (try simp only [go_sem])
      (try simp (disch := omega) only [wrapI])
      repeat first | intro _ | refine ⟨(by omega), ?_⟩ | refine ⟨⟨by omega, by omega⟩, ?_⟩
      refine hK _ ?_
      clear hK K
      refine awp_sub (sub_keep [2, 4, 7]) ?_
      simp only [go_sem]
      obtain ⟨S, hS⟩ : ∃ S, S = sortN (ltS m ws.sum ws) (List.range ws.length) := ⟨_, rfl⟩
      obtain ⟨Q, hQ⟩ : ∃ Q, Q = partsS m ws.sum ws := ⟨_, rfl⟩
      have hSl : S.length = ws.length := by rw [hS, sortN_len, List.length_range]
      have hSm : ∀ i ∈ S, i < ws.length := fun i hi => by rw [hS, mem_sortN, List.mem_range] at hi; exact hi
      have hQb : ∀ x ∈ Q, 0 ≤ x ∧ x ≤ 10000000000000 := fun x hx => by
        rw [hQ] at hx
        obtain ⟨w, hw1, rfl⟩ := List.mem_map.1 hx
        have h1 := mul_w hm (hw w hw1)
        have h2 := Int.ediv_nonneg (b := ws.sum) h1.1 (by omega)
        have h3 := Int.ediv_le_self ws.sum h1.1
        omega
      rw [← hS]
      rw [← hQ] at hpl q1 q2 q3 ⊢
      have tk : ∀ g : Int → List RV, List.take ws.length (Q.map g) = Q.map g := fun g => by rw [← hpl, ← List.length_map (f := g), List.take_length]
      have hle : ws.length ≤ Q.length := by omega
      repeat refine awp_seq ?_
      refine awp_dreg2 [(2, none), (4, some 45), (7, some 49)] follows (by decide +kernel) (by kernel_rfl) (by simp only [keysOk, List.mem_cons, List.not_mem_nil, forall_eq_or_imp, Oc.keyOf, go_sem]; simp) fun K hK => ?_
      simp only [go_sem, hSl]
      (try simp (disch := omega) only [wrapI])
      refine xcall_eq (ptotal_ok Q (by omega) (fun x hx => by have := hQb x hx; omega)) rfl (by simp only [go_sem, i64, ints, tk, hle]) (by simp only [go_sem, i64, ints, tk, hle]) (by first | exact .inl rfl | exact .inr rfl) ?_
      (try simp only [go_sem, tk, hle])
      (try simp (disch := omega) only [wrapI])
      repeat first | intro _ | refine ⟨(by omega), ?_⟩ | refine ⟨⟨by omega, by omega⟩, ?_⟩
      refine hK _ ?_
      clear hK K
      obtain ⟨k, hk⟩ : ∃ k, k = (m - Q.sum).toNat := ⟨_, rfl⟩
      have hkn : k ≤ ws.length := by omega
      rw [← hk]
      refine awp_sub (sub_keep [4, 59, 60, 61]) ?_
      simp only [go_sem]
      repeat refine awp_seq ?_
      refine awp_block ?_
      refine awp_upto (n := 73) k (fun i vs => [(4, .os 45 (vs 45) 1 0 ws.length), (59, .os 49 (vs 49) 1 0 k), (60, .r (i64 k)), (61, .r (i64 i))])
        (fun i => [(45, .arr 3 1 ((bump Q (S.take i)).map fun x => [i64 x])), (49, .arr 3 1 (idx S))]) (fun _ => True) 0 (fit_of [] ?_ ?_) (Nat.zero_le _) trivial ?_
      · try simp only [go_sem]
      · try simp only [go_sem]
        simp [bump]
      · intro q vs hq _
        repeat refine awp_seq ?_
        refine awp_reg (by kernel_rfl) fun K hK => ?_
        simp only [go_sem]
        (try simp (disch := omega) only [wrapI])
        repeat first | intro _ | refine ⟨(by omega), ?_⟩ | refine ⟨⟨by omega, by omega⟩, ?_⟩
        refine hK _ ?_
        clear hK K
        repeat refine awp_seq ?_
        refine awp_cond rfl (fun hc => ?_) (fun hc => ?_) <;> (try simp only [go_sem] at hc)
        · have hci := hc
          obtain ⟨i, hi⟩ := opt_of_lt (l := S) (i := q) (by omega)
          have hil := hSm i (mem_of_opt hi)
          obtain ⟨F, hF⟩ : ∃ F, F = bump Q (S.take q) := ⟨_, rfl⟩
          have hFl : F.length = ws.length := by rw [hF, bump_len, hpl]
          have hFb : ∀ x ∈ F, 0 ≤ x ∧ x ≤ 100000000000000 := by
            rw [hF]
            refine bump_le 100000000000000 _ 10000000000000 Q hQb (by omega) ?_
            rw [List.length_take]
            omega
          obtain ⟨o, ho⟩ := opt_of_lt (l := F) (i := i) (by omega)
          have hob := hFb o (mem_of_opt ho)
          have hnx : bump Q (S.take (q + 1)) = F.set i (o + 1) := by
            rw [take_of_opt hi, bump_snoc, ← hF]
            simp [ho]
          rw [← hF]
          refine awp_skip ?_
          try simp only [go_sem]
          repeat refine awp_seq ?_
          refine awp_block ?_
          repeat refine awp_seq ?_
          refine awp_reg (by kernel_rfl) fun K hK => ?_
          simp only [go_sem, hi, hci]
          (try simp (disch := omega) only [wrapI])
          repeat first | intro _ | refine ⟨(by omega), ?_⟩ | refine ⟨⟨by omega, by omega⟩, ?_⟩
          refine hK _ ?_
          clear hK K
          refine awp_sub (sub_keep [4, 11, 59, 60, 61]) ?_
          simp only [go_sem]
          repeat refine awp_seq ?_
          refine awp_reg (by kernel_rfl) fun K hK => ?_
          simp only [go_sem, ho, hil, hFl]
          (try simp (disch := omega) only [wrapI])
          repeat first | intro _ | refine ⟨(by omega), ?_⟩ | refine ⟨⟨by omega, by omega⟩, ?_⟩
          refine hK _ ?_
          clear hK K
          refine awp_sub (sub_keep [4, 59, 60, 61]) ?_
          simp only [go_sem]
          repeat refine awp_seq ?_
          refine awp_reg (by kernel_rfl) fun K hK => ?_
          simp only [go_sem]
          (try simp (disch := omega) only [wrapI])
          repeat first | intro _ | refine ⟨(by omega), ?_⟩ | refine ⟨⟨by omega, by omega⟩, ?_⟩
          refine hK _ ?_
          clear hK K
          try simp only [go_sem]
          refine ⟨hci, fit_of [] ?_ ?_⟩
          · simp only [go_sem]
          · simp only [go_sem, hnx]
            rw [List.map_set]
        · refine awp_exit ?_
          simp only [go_sem]
          have hqk : q = k := by omega
          subst hqk
          repeat refine awp_seq ?_
          refine awp_reg (by kernel_rfl) fun K hK => ?_
          simp only [go_sem]
          (try simp (disch := omega) only [wrapI])
          repeat first | intro _ | refine ⟨(by omega), ?_⟩ | refine ⟨⟨by omega, by omega⟩, ?_⟩
          refine hK _ ?_
          clear hK K
          refine awp_ret ?_
          simp only [go_sem]
          have hbl : (bump Q (S.take q)).length = ws.length := by rw [bump_len, hpl]
          refine ⟨by omega, ?_⟩
          rw [List.take_of_length_le (by rw [List.length_map]; omega)]
          unfold shareL
          rw [← hS, ← hQ, ← hk]
end Go.Proofs.Ytaniakoadbkadaa
