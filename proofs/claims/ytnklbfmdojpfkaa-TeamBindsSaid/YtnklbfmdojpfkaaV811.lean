/- For every input the law that closed orders bind, 'TeamBinds', returns true, and each argument reads afterwards as it read before; without conditions. -/
import Derived.Test.YtnklbfmdojpfkaaV810
import Derived.Test.YtnklbfmdojpfkaaV89
import Derived.Test.YtnklbfmdojpfkaaV86
import Derived.Test.YtnklbfmdojpfkaaV88
import Derived.Test.YtnklbfmdojpfkaaV87
import Derived.ChangeShapes
import Derived.WideShapes
import Derived.OpenShut
import Derived.ShutString
import Derived.ChangeOld
import Derived.Carry
import Derived.Below
import Derived.Test.YtnklbfmdojpfkaaRows
import Derived.JoinedOf
/- Closed orders bind: what is sealed with a key is opened as what it was, and as nothing else. -/
namespace Go.Proofs.Ytnklbfmdojpfkaa
open Go Go.Oc
set_option linter.unusedVariables false
theorem sealAt_get {k : Int} {l : List (List Int)} {n i : Nat} (h : i < n) : (sealAt k l n)[i]? = some (tmul (codeL (l.getD i [])) (tpow 48271 (k.toNat * (i + 1)))) := by
  unfold sealAt
  rw [List.getElem?_map, List.getElem?_range h]; rfl
theorem openAt_get {r : Rules} {B : List Int} {k : Int} {n i : Nat} (h : i < n) : (openAt r B k n)[i]? = some (playersL (tover (B.getD i 0) (tpow 48271 (k.toNat * (i + 1)))) ((r.gs.map Game.pl).getD i 0)) := by
  unfold openAt
  rw [List.getElem?_map, List.getElem?_range h]; rfl
/-- One game: its number is that of these players just if it is opened as these players. -/
theorem match_game {r : Rules} {g : Game} {x : List Int} {b : Int} (n : Nat) (g1 : 1 ≤ g.pl) (g2 : g.pl ≤ 2) (hs : r.squad ≤ 16) (hp : playB r x g = true) (hb : 0 ≤ b) (hb' : b < 2147483647) :
    tmul (codeL x) (tpow 48271 n) = b ↔ playersL (tover b (tpow 48271 n)) g.pl = x := by
  simp only [playB, Bool.and_eq_true, decide_eq_true_eq] at hp
  obtain ⟨⟨h1, h2⟩, _⟩ := hp
  have hm := withinL_mem h2
  have hpl : g.pl = 1 ∨ g.pl = 2 := by omega
  rcases hpl with e | e
  · obtain ⟨a, rfl⟩ : ∃ a, x = [a] := List.length_eq_one_iff.1 (by omega)
    have := hm a (by simp)
    rw [e]
    exact match_one rfl hb hb' (by omega) (by omega)
  · obtain ⟨a, v, rfl⟩ := two_of (x := x) (by omega)
    have m1 := hm a (by simp)
    have m2 := hm v (by simp)
    rw [e]
    exact match_two rfl hb hb' (by omega) (by omega) (by omega) (by omega)
theorem order_game {r : Rules} {l : List (List Int)} {i : Nat} {g : Game} (h : orderB r l = true) (hg : r.gs[i]? = some g) : ∃ x, l[i]? = some x ∧ playB r x g = true := by
  simp only [orderB, Bool.and_eq_true, decide_eq_true_eq] at h
  obtain ⟨⟨h1, h2⟩, _⟩ := h
  have hi := (List.getElem?_eq_some_iff.1 hg).1
  obtain ⟨x, hx⟩ := opt_of_lt (l := l) (i := i) (by omega)
  exact ⟨x, hx, List.all_eq_true.1 h2 _ (List.mem_of_getElem? (zip_get hx hg))⟩
theorem open_iff {r : Rules} {l : List (List Int)} {B : List Int} {k : Int} (hr : rulesB r = true) (ho : orderB r l = true) (hl : B.length = r.gs.length) (hB : ∀ b ∈ B, 0 ≤ b ∧ b < 2147483647) :
    openAt r B k B.length = l ↔ B = sealAt k l l.length := by
  obtain ⟨⟨f1, f2⟩, _, _, f7, _⟩ := rulesB_facts hr
  have hll := (order_mem hr ho).1
  have each : ∀ i, i < r.gs.length → ((openAt r B k B.length)[i]? = l[i]? ↔ B[i]? = (sealAt k l l.length)[i]?) := fun i hi => by
    obtain ⟨g, hg⟩ := opt_of_lt (l := r.gs) (i := i) hi
    obtain ⟨⟨g1, g2, _⟩, _⟩ := f7 g (mem_of_opt hg)
    obtain ⟨x, hx, hp⟩ := order_game ho hg
    obtain ⟨b, hb⟩ := opt_of_lt (l := B) (i := i) (by omega)
    obtain ⟨b1, b2⟩ := hB b (mem_of_opt hb)
    have hgp : (r.gs.map Game.pl).getD i 0 = g.pl := by rw [List.getD_eq_getElem?_getD, List.getElem?_map, hg]; rfl
    have hbd : B.getD i 0 = b := by rw [List.getD_eq_getElem?_getD, hb]; rfl
    have hxd : l.getD i [] = x := by rw [List.getD_eq_getElem?_getD, hx]; rfl
    rw [openAt_get (by omega), sealAt_get (by omega), hx, hb, hgp, hbd, hxd, Option.some.injEq, Option.some.injEq, ← match_game (k.toNat * (i + 1)) g1 g2 f2 hp b1 b2]
    exact eq_comm
  constructor
  · intro h
    refine List.ext_getElem? fun i => ?_
    by_cases hi : i < r.gs.length
    · exact (each i hi).1 (by rw [h])
    · rw [List.getElem?_eq_none (by omega), List.getElem?_eq_none (by rw [sealAt_length]; omega)]
  · intro h
    refine List.ext_getElem? fun i => ?_
    by_cases hi : i < r.gs.length
    · exact (each i hi).2 (by rw [← h])
    · rw [List.getElem?_eq_none (by rw [openAt_length]; omega), List.getElem?_eq_none (by omega)]
theorem seal_in {r : Rules} {l : List (List Int)} {k : Int} (hr : rulesB r = true) (ho : orderB r l = true) : ∀ b ∈ sealAt k l l.length, 1 ≤ b ∧ b ≤ 2147483646 := fun b hb => by
  obtain ⟨hll, hm⟩ := order_mem hr ho
  obtain ⟨i, hi⟩ := List.getElem?_of_mem hb
  have hil : i < l.length := by have := (List.getElem?_eq_some_iff.1 hi).1; rwa [sealAt_length] at this
  obtain ⟨x, hx⟩ := opt_of_lt hil
  have hxd : l.getD i [] = x := by rw [List.getD_eq_getElem?_getD, hx]; rfl
  rw [sealAt_get hil, Option.some.injEq, hxd] at hi
  subst hi
  obtain ⟨h1, h2⟩ := hm x (mem_of_opt hx)
  have h3 := codeL_in x h2
  have h4 := mask_pos (c := codeL x) (k.toNat * (i + 1)) h3.1 (by omega)
  have h5 := tmul_hi (codeL x) (tpow 48271 (k.toNat * (i + 1)))
  omega
theorem seven_in (n : Nat) : 1 ≤ tpow 7 n ∧ tpow 7 n ≤ 2147483646 := by
  have h := seven_pos n
  have : tpow 7 n < 2147483647 := by unfold tpow; omega
  omega
theorem open_all {r : Rules} {B : List Int} {k : Int} (A : Int) (hr : rulesB r = true) (hk : 0 ≤ k) (hk' : k ≤ 2147483645) (hl : B.length = r.gs.length) (hB : ∀ b ∈ B, 1 ≤ b ∧ b ≤ 2147483646) (hA : 1 ≤ A ∧ A ≤ 2147483646) :
    openL r A B k = if A ≠ tpow 7 k.toNat then ⟨[], 0, 9⟩ else if orderB r (openAt r B k B.length) = false then ⟨[], 0, 7⟩ else ⟨openAt r B k B.length, k, 0⟩ := by
  have h1 : withinL 0 2147483645 [k] = true := by simp [withinL]; omega
  have h2 : (decide (B.length = r.gs.length) && withinL 1 2147483646 [A] && withinL 1 2147483646 B) = true := by
    have h3 : withinL 1 2147483646 B = true := List.all_eq_true.2 fun x hx => by have := hB x hx; simp; omega
    have h4 : withinL 1 2147483646 [A] = true := by simp [withinL]; omega
    rw [h3, h4, hl]; simp
  unfold openL
  simp only [hr, h1, h2, if_false, Bool.true_eq_false]
/-- What the law says of an order and a key. -/
theorem bind_open {r : Rules} {l : List (List Int)} {k : Int} (hr : rulesB r = true) (ho : orderB r l = true) (hk : 0 ≤ k) (hk' : k ≤ 2147483645) :
    openL r (tpow 7 k.toNat) (sealAt k l l.length) k = ⟨l, k, 0⟩ := by
  have hll := (order_mem hr ho).1
  have hin := seal_in (k := k) hr ho
  have hb : ∀ b ∈ sealAt k l l.length, 0 ≤ b ∧ b < 2147483647 := fun b hb => by have := hin b hb; omega
  have e := (open_iff (k := k) hr ho (by rw [sealAt_length]; exact hll) hb).2 rfl
  rw [open_all _ hr hk hk' (by rw [sealAt_length]; exact hll) hin (seven_in _), e, ho]
  simp
theorem bind_other {r : Rules} {l : List (List Int)} {k q : Int} (hr : rulesB r = true) (ho : orderB r l = true) (hk : 0 ≤ k) (hk' : k ≤ 2147483645) (hq : 0 ≤ q) (hq' : q ≤ 2147483645) (hne : q ≠ k) :
    openL r (tpow 7 k.toNat) (sealAt k l l.length) q = ⟨[], 0, 9⟩ := by
  have hll := (order_mem hr ho).1
  rw [open_all _ hr hq hq' (by rw [sealAt_length]; exact hll) (seal_in hr ho) (seven_in _)]
  have : tpow 7 k.toNat ≠ tpow 7 q.toNat := fun h => hne (by have := seven_inj (a := k.toNat) (b := q.toNat) (by omega) (by omega) h; omega)
  rw [if_pos this]
theorem bind_seal {r : Rules} {l l' : List (List Int)} {k q : Int} (hr : rulesB r = true) (ho : orderB r l = true) (ho' : orderB r l' = true) (hk : 0 ≤ k) (hk' : k ≤ 2147483645) (hq : 0 ≤ q) (hq' : q ≤ 2147483645) :
    (tpow 7 k.toNat = tpow 7 q.toNat ∧ sealAt k l l.length = sealAt q l' l'.length) ↔ (q = k ∧ l' = l) := by
  constructor
  · rintro ⟨h1, h2⟩
    have : k = q := by have := seven_inj (a := k.toNat) (b := q.toNat) (by omega) (by omega) h1; omega
    subst this
    refine ⟨rfl, ?_⟩
    have e1 := bind_open hr ho hk hk'
    have e2 := bind_open hr ho' hk hk'
    rw [h2, e2] at e1
    exact congrArg OpenR.l e1
  · rintro ⟨rfl, rfl⟩
    exact ⟨rfl, rfl⟩
theorem bind_changed {r : Rules} {l : List (List Int)} {k v : Int} {i : Nat} (hr : rulesB r = true) (ho : orderB r l = true) (hk : 0 ≤ k) (hk' : k ≤ 2147483645) (hi : i < l.length) (hv : 1 ≤ v) (hv' : v ≤ 2147483646) :
    let y := openL r (tpow 7 k.toNat) ((sealAt k l l.length).set i v) k
    (y.e = 0 ∧ (y.l = l ↔ v = (sealAt k l l.length).getD i 0)) ∨ (y.e = 7 ∧ y.l = []) := by
  have hll := (order_mem hr ho).1
  have hin : ∀ b ∈ (sealAt k l l.length).set i v, 1 ≤ b ∧ b ≤ 2147483646 := fun b hb => by
    rcases List.mem_or_eq_of_mem_set hb with h | h
    · exact seal_in hr ho b h
    · omega
  have hlen : ((sealAt k l l.length).set i v).length = r.gs.length := by rw [List.length_set, sealAt_length]; exact hll
  have hop := open_iff (k := k) hr ho hlen fun b hb => by have := hin b hb; omega
  have hsi : i < (sealAt k l l.length).length := by rw [sealAt_length]; exact hi
  have hset : (sealAt k l l.length).set i v = sealAt k l l.length ↔ v = (sealAt k l l.length).getD i 0 := by
    rw [List.getD_eq_getElem?_getD, List.getElem?_eq_getElem hsi, Option.getD_some]
    constructor
    · intro h
      have := congrArg (fun z => z[i]?) h
      simp only [List.getElem?_set_self hsi, List.getElem?_eq_getElem hsi, Option.some.injEq] at this
      exact this
    · rintro rfl
      exact List.set_getElem_self hsi
  intro y
  have hy : y = _ := open_all (tpow 7 k.toNat) hr hk hk' hlen hin (seven_in _)
  rw [if_neg (by simp)] at hy
  cases h : orderB r (openAt r ((sealAt k l l.length).set i v) k ((sealAt k l l.length).set i v).length)
  · rw [h, if_pos rfl] at hy
    rw [hy]
    exact .inr ⟨rfl, rfl⟩
  · rw [h, if_neg (by simp)] at hy
    rw [hy]
    exact .inl ⟨rfl, hop.trans hset⟩
end Go.Proofs.Ytnklbfmdojpfkaa

/- The law that closed orders bind returns true. -/
namespace Go.Proofs.Ytnklbfmdojpfkaa
open Go Go.Oc
set_option linter.unusedSimpArgs false
set_option linter.unusedVariables false
set_option maxRecDepth 8000
theorem keyM_in {n : Int} : 0 ≤ keyM n ∧ keyM n ≤ 2147483645 := by unfold keyM; omega
set_option maxHeartbeats 4000000 in
theorem law8 (m : Meet) (c : Int) (hm : MeetOk m) (hc0 : 0 ≤ c ∧ c ≤ 4294967295) : ACalls Try.prog 8 [.ag (meetC m), .it .u32 c] (.bo true) := by
  have hr := rulesM_valid hm
  obtain ⟨r, hrm⟩ : ∃ r, rulesM m = r := ⟨_, rfl⟩
  have hrules := rulesM_ok m hm
  rw [hrm] at hr hrules
  obtain ⟨⟨f1, f2⟩, ⟨f3, f4⟩, _, f7, _⟩ := rulesB_facts hr
  have hord0 := order_ok m r 0 hm hr (by omega)
  have hord1 := order_ok m r 1 hm hr (by omega)
  have hb0 := stop_order (f := 0) hm hr
  have hb1 := stop_order (f := 1) hm hr
  have hl0 : (playsM m r 0 (stopM m r 0 r.gs.length)).length ≤ 25 := by rw [playsM_length]; have := stopM_le m r 0 r.gs.length; omega
  have hl1 : (playsM m r 1 (stopM m r 1 r.gs.length)).length ≤ 25 := by rw [playsM_length]; have := stopM_le m r 1 r.gs.length; omega
  have hx0 : ∀ x ∈ playsM m r 0 (stopM m r 0 r.gs.length), x.length ≤ 1000 := fun x hx => by
    obtain ⟨j, _, rfl⟩ := List.mem_map.1 hx
    have := playM_le m r 0 j; omega
  have hx1 : ∀ x ∈ playsM m r 1 (stopM m r 1 r.gs.length), x.length ≤ 1000 := fun x hx => by
    obtain ⟨j, _, rfl⟩ := List.mem_map.1 hx
    have := playM_le m r 1 j; omega
  generalize playsM m r 0 (stopM m r 0 r.gs.length) = l at *
  generalize playsM m r 1 (stopM m r 1 r.gs.length) = l2 at *
  have kin := keyM_in (n := m.k0)
  have qin := keyM_in (n := m.k1)
  have tq : m.k1.tmod 2147483646 = keyM m.k1 := Int.tmod_eq_emod_of_nonneg hm.2.2.2.2.2.1
  generalize keyM m.k0 = k at *
  generalize keyM m.k1 = q at *
  have h25 : r.gs.length ≤ 25 := by omega
  have hk1 : 0 ≤ m.k1 ∧ m.k1 ≤ 4294967295 := hm.2.2.2.2.2
  refine acalls_st (rs := [.bo true]) [.tmp 4] Try.func8 rfl (by kernel_rfl) Try.ntmps8 rfl (by simp) rfl fun C vs => ?_
  repeat refine awp_seq ?_
  refine awp_reg (by kernel_rfl) fun K hK => ?_
  simp only [go_sem]
  (try simp (disch := omega) only [wrapI])
  repeat first | intro _ | refine ⟨(by omega), ?_⟩ | refine ⟨⟨by omega, by omega⟩, ?_⟩
  refine hK _ ?_
  clear hK K
  refine awp_sub (sub_frzP 2 2 (meetC m) (by omega) rfl rfl) ?_
  try simp only [go_sem]
  refine awp_sub (sub_keep [1, 2]) ?_
  simp only [go_sem]
  repeat refine awp_seq ?_
  refine awp_reg (by kernel_rfl) fun K hK => ?_
  simp only [go_sem]
  (try simp (disch := omega) only [wrapI])
  refine xcall_eq (hrules) rfl (by simp only [go_sem, i64, ints]) (by simp only [go_sem, i64, ints]) (by first | exact .inl rfl | exact .inr rfl) ?_
  (try simp only [go_sem])
  (try simp (disch := omega) only [wrapI])
  repeat first | intro _ | refine ⟨(by omega), ?_⟩ | refine ⟨⟨by omega, by omega⟩, ?_⟩
  refine hK _ ?_
  clear hK K
  refine awp_sub (sub_keep [1, 2, 5]) ?_
  simp only [go_sem]
  refine awp_sub (sub_frzP 5 5 (rulesC r) (by omega) rfl rfl) ?_
  try simp only [go_sem]
  repeat refine awp_seq ?_
  refine awp_reg (by kernel_rfl) fun K hK => ?_
  simp only [go_sem]
  (try simp (disch := omega) only [wrapI])
  refine xcall_eq (hord0) rfl (by simp only [go_sem, i64, ints]) (by simp only [go_sem, i64, ints]) (by first | exact .inl rfl | exact .inr rfl) ?_
  (try simp only [go_sem])
  (try simp (disch := omega) only [wrapI])
  repeat first | intro _ | refine ⟨(by omega), ?_⟩ | refine ⟨⟨by omega, by omega⟩, ?_⟩
  refine hK _ ?_
  clear hK K
  refine awp_sub (sub_keep [1, 2, 5, 6, 7]) ?_
  simp only [go_sem]
  cases hdec : decide (stopM m r 0 r.gs.length = r.gs.length)
  · rw [hdec] at hb0
    refine awp_sub (sub_frzP 6 6 [listsR l, i64 k] (by omega) rfl rfl) ?_
    try simp only [go_sem]
    repeat refine awp_seq ?_
    refine awp_reg (by kernel_rfl) fun K hK => ?_
    simp only [go_sem]
    (try simp (disch := omega) only [wrapI])
    repeat first | intro _ | refine ⟨(by omega), ?_⟩ | refine ⟨⟨by omega, by omega⟩, ?_⟩
    refine hK _ ?_
    clear hK K
    refine awp_sub (sub_keep [1, 2, 5, 6, 34]) ?_
    simp only [go_sem]
    repeat refine awp_seq ?_
    refine awp_cond rfl (fun hc => ?_) (fun hc => ?_) <;> (try simp only [go_sem] at hc)
    have hs : sealL r l k = ⟨0, [], 4⟩ := by simp [sealL, hr, hb0]
    repeat refine awp_seq ?_
    refine awp_dreg follows (by decide +kernel) (by kernel_rfl) fun K hK => ?_
    simp only [go_sem]
    (try simp (disch := omega) only [wrapI])
    refine xcall_eq (rules_ok r h25) rfl (by simp only [go_sem, i64, ints]) (by simp only [go_sem, i64, ints]) (by first | exact .inl rfl | exact .inr rfl) ?_
    (try simp only [go_sem])
    (try simp (disch := omega) only [wrapI])
    refine xcall_eq (lists_ok l (by omega) hx0) rfl (by simp only [go_sem, i64, ints]) (by simp only [go_sem, i64, ints]) (by first | exact .inl rfl | exact .inr rfl) ?_
    (try simp only [go_sem])
    (try simp (disch := omega) only [wrapI])
    refine xcall_eq (seal_ok r l k hl0 h25) rfl (by simp only [go_sem, i64, ints]) (by simp only [go_sem, i64, ints]) (by first | exact .inl rfl | exact .inr rfl) ?_
    (try simp only [go_sem])
    (try simp (disch := omega) only [wrapI])
    rw [hs]
    repeat first | intro _ | refine ⟨(by omega), ?_⟩ | refine ⟨⟨by omega, by omega⟩, ?_⟩
    refine hK _ ?_
    clear hK K
    refine awp_sub (sub_keep [8, 9]) ?_
    simp only [go_sem]
    repeat refine awp_seq ?_
    refine awp_reg (by kernel_rfl) fun K hK => ?_
    simp only [go_sem, beq_self_eq_true]
    (try simp (disch := omega) only [wrapI])
    refine xcall_eq (known_ok) rfl (by simp only [go_sem, i64, ints]) (by simp only [go_sem, i64, ints]) (by first | exact .inl rfl | exact .inr rfl) ?_
    (try simp only [go_sem])
    (try simp (disch := omega) only [wrapI])
    repeat first | intro _ | refine ⟨(by omega), ?_⟩ | refine ⟨⟨by omega, by omega⟩, ?_⟩
    refine hK _ ?_
    clear hK K
    refine awp_sub (sub_keep [4]) ?_
    simp only [go_sem]
    refine awp_ret ?_
    simp only [go_sem]
  rw [hdec] at hb0
  refine awp_sub (sub_frzP 6 6 [listsR l, i64 k] (by omega) rfl rfl) ?_
  try simp only [go_sem]
  repeat refine awp_seq ?_
  refine awp_reg (by kernel_rfl) fun K hK => ?_
  simp only [go_sem]
  (try simp (disch := omega) only [wrapI])
  repeat first | intro _ | refine ⟨(by omega), ?_⟩ | refine ⟨⟨by omega, by omega⟩, ?_⟩
  refine hK _ ?_
  clear hK K
  refine awp_sub (sub_keep [1, 2, 5, 6, 34]) ?_
  simp only [go_sem]
  repeat refine awp_seq ?_
  refine awp_cond rfl (fun hc => ?_) (fun hc => ?_) <;> (try simp only [go_sem] at hc)
  refine awp_skip ?_
  try simp only [go_sem]
  have wk : withinL 0 2147483645 [k] = true := by simp [withinL]; omega
  have hs : sealL r l k = ⟨tpow 7 k.toNat, sealAt k l l.length, 0⟩ := by simp [sealL, hr, hb0, wk]
  have hbo := bind_open hr hb0 kin.1 kin.2
  have hbx := fun h => bind_other (q := q) hr hb0 kin.1 kin.2 qin.1 qin.2 h
  have hbs := fun (l' : List (List Int)) (q' : Int) ho' h1 h2 => bind_seal (l' := l') (q := q') hr hb0 ho' kin.1 kin.2 h1 h2
  have hbc := fun (v : Int) (i : Nat) => bind_changed (v := v) (i := i) hr hb0 kin.1 kin.2
  have hll := (order_mem hr hb0).1
  have hBl : (sealAt k l l.length).length = l.length := sealAt_length _ _ _
  repeat refine awp_seq ?_
  refine awp_dreg follows (by decide +kernel) (by kernel_rfl) fun K hK => ?_
  simp only [go_sem]
  (try simp (disch := omega) only [wrapI])
  refine xcall_eq (rules_ok r h25) rfl (by simp only [go_sem, i64, ints]) (by simp only [go_sem, i64, ints]) (by first | exact .inl rfl | exact .inr rfl) ?_
  (try simp only [go_sem])
  (try simp (disch := omega) only [wrapI])
  refine xcall_eq (lists_ok l (by omega) hx0) rfl (by simp only [go_sem, i64, ints]) (by simp only [go_sem, i64, ints]) (by first | exact .inl rfl | exact .inr rfl) ?_
  (try simp only [go_sem])
  (try simp (disch := omega) only [wrapI])
  refine xcall_eq (seal_ok r l k hl0 h25) rfl (by simp only [go_sem, i64, ints]) (by simp only [go_sem, i64, ints]) (by first | exact .inl rfl | exact .inr rfl) ?_
  (try simp only [go_sem])
  (try simp (disch := omega) only [wrapI])
  rw [hs]
  repeat first | intro _ | refine ⟨(by omega), ?_⟩ | refine ⟨⟨by omega, by omega⟩, ?_⟩
  refine hK _ ?_
  clear hK K
  refine awp_sub (sub_keep [1, 2, 5, 6, 10, 11]) ?_
  simp only [go_sem]
  generalize hA : tpow 7 k.toNat = A at *
  generalize hB : sealAt k l l.length = B at *
  refine awp_sub (sub_frzP 10 10 [i64 A, ints B] (by omega) rfl rfl) ?_
  try simp only [go_sem]
  have e0 : ((B.length : Int) != (r.gs.length : Int)) = false := by simp; omega
  repeat refine awp_seq ?_
  refine awp_reg (by kernel_rfl) fun K hK => ?_
  simp only [go_sem, bne_self_eq_false, e0]
  (try simp (disch := omega) only [wrapI])
  repeat first | intro _ | refine ⟨(by omega), ?_⟩ | refine ⟨⟨by omega, by omega⟩, ?_⟩
  refine hK _ ?_
  clear hK K
  refine awp_sub (sub_keep [1, 2, 5, 6, 10, 85]) ?_
  simp only [go_sem]
  repeat refine awp_seq ?_
  refine awp_cond rfl (fun hc => ?_) (fun hc => ?_) <;> (try simp only [go_sem] at hc)
  refine awp_skip ?_
  try simp only [go_sem]
  repeat refine awp_seq ?_
  refine awp_dreg follows (by decide +kernel) (by kernel_rfl) fun K hK => ?_
  simp only [go_sem]
  (try simp (disch := omega) only [wrapI])
  refine xcall_eq (rules_ok r h25) rfl (by simp only [go_sem, i64, ints]) (by simp only [go_sem, i64, ints]) (by first | exact .inl rfl | exact .inr rfl) ?_
  (try simp only [go_sem])
  (try simp (disch := omega) only [wrapI])
  refine xcall_eq (ints_ok B (by omega)) rfl (by simp only [go_sem, i64, ints]) (by simp only [go_sem, i64, ints]) (by first | exact .inl rfl | exact .inr rfl) ?_
  (try simp only [go_sem])
  (try simp (disch := omega) only [wrapI])
  refine xcall_eq (open_ok r A B k (by omega) h25) rfl (by simp only [go_sem, i64, ints]) (by simp only [go_sem, i64, ints]) (by first | exact .inl rfl | exact .inr rfl) ?_
  (try simp only [go_sem])
  (try simp (disch := omega) only [wrapI])
  rw [hbo]
  repeat first | intro _ | refine ⟨(by omega), ?_⟩ | refine ⟨⟨by omega, by omega⟩, ?_⟩
  refine hK _ ?_
  clear hK K
  refine awp_sub (sub_keep [1, 2, 5, 6, 10, 12, 13]) ?_
  simp only [go_sem]
  refine awp_sub (sub_frzP 12 12 [listsR l, i64 k] (by omega) rfl rfl) ?_
  try simp only [go_sem]
  repeat refine awp_seq ?_
  refine awp_reg (by kernel_rfl) fun K hK => ?_
  simp only [go_sem]
  (try simp (disch := omega) only [wrapI])
  rw [tq]
  repeat first | intro _ | refine ⟨(by omega), ?_⟩ | refine ⟨⟨by omega, by omega⟩, ?_⟩
  refine hK _ ?_
  clear hK K
  refine awp_sub (sub_keep [1, 2, 5, 6, 10, 12, 13, 14]) ?_
  simp only [go_sem]
  obtain ⟨y, hy⟩ : ∃ y, openL r A B q = y := ⟨_, rfl⟩
  repeat refine awp_seq ?_
  refine awp_dreg follows (by decide +kernel) (by kernel_rfl) fun K hK => ?_
  simp only [go_sem]
  (try simp (disch := omega) only [wrapI])
  refine xcall_eq (rules_ok r h25) rfl (by simp only [go_sem, i64, ints]) (by simp only [go_sem, i64, ints]) (by first | exact .inl rfl | exact .inr rfl) ?_
  (try simp only [go_sem])
  (try simp (disch := omega) only [wrapI])
  refine xcall_eq (ints_ok B (by omega)) rfl (by simp only [go_sem, i64, ints]) (by simp only [go_sem, i64, ints]) (by first | exact .inl rfl | exact .inr rfl) ?_
  (try simp only [go_sem])
  (try simp (disch := omega) only [wrapI])
  refine xcall_eq (open_ok r A B q (by omega) h25) rfl (by simp only [go_sem, i64, ints]) (by simp only [go_sem, i64, ints]) (by first | exact .inl rfl | exact .inr rfl) ?_
  (try simp only [go_sem])
  (try simp (disch := omega) only [wrapI])
  rw [hy]
  repeat first | intro _ | refine ⟨(by omega), ?_⟩ | refine ⟨⟨by omega, by omega⟩, ?_⟩
  refine hK _ ?_
  clear hK K
  refine awp_sub (sub_keep [1, 2, 5, 6, 10, 12, 13, 14, 15, 16]) ?_
  simp only [go_sem]
  refine awp_sub (sub_frzP 15 15 [listsR y.l, i64 y.k] (by omega) rfl rfl) ?_
  try simp only [go_sem]
  repeat refine awp_seq ?_
  refine awp_join (n := 268) (fun (_ : Unit) vs => [(1, .r (.it .u32 c)), (2, .r (.rp (meetC m))), (5, .r (.rp (rulesC r))), (6, .r (.rp [listsR l, i64 k])), (10, .r (.rp [i64 A, ints B])), (14, .r (i64 q)), (150, .r (.bo false))]) (fun _ => []) (fun _ => True) (fun _ h => h) ?_ ?_
  · by_cases hqk : q = k
    · have eqk : (q != k) = false := by simp [hqk]
      repeat refine awp_seq ?_
      refine awp_reg (by kernel_rfl) fun K hK => ?_
      simp only [go_sem, bne_self_eq_false, eqk]
      (try simp (disch := omega) only [wrapI])
      refine xcall_eq (same_ok2 l l) rfl (by simp only [go_sem, i64, ints, eqk, bne_self_eq_false, Bool.not_true, Bool.not_false]) (by simp only [go_sem, i64, ints, eqk, bne_self_eq_false, Bool.not_true, Bool.not_false]) (by first | exact .inl rfl | exact .inr rfl) ?_
      (try simp only [go_sem, eqk, bne_self_eq_false, Bool.not_true, Bool.not_false])
      (try simp (disch := omega) only [wrapI])
      repeat first | intro _ | refine ⟨(by omega), ?_⟩ | refine ⟨⟨by omega, by omega⟩, ?_⟩
      refine hK _ ?_
      clear hK K
      try simp only [go_sem]
      exact ⟨(), fit_of [] (by try simp only [go_sem]) rfl⟩
    · have eqk : (q != k) = true := by simp [hqk]
      rw [hbx hqk] at hy
      subst hy
      repeat refine awp_seq ?_
      refine awp_reg (by kernel_rfl) fun K hK => ?_
      simp only [go_sem, bne_self_eq_false, eqk]
      (try simp (disch := omega) only [wrapI])
      refine xcall_eq (same_ok2 l l) rfl (by simp only [go_sem, i64, ints, eqk, bne_self_eq_false, Bool.not_true, Bool.not_false]) (by simp only [go_sem, i64, ints, eqk, bne_self_eq_false, Bool.not_true, Bool.not_false]) (by first | exact .inl rfl | exact .inr rfl) ?_
      (try simp only [go_sem, eqk, bne_self_eq_false, Bool.not_true, Bool.not_false])
      (try simp (disch := omega) only [wrapI])
      repeat first | intro _ | refine ⟨(by omega), ?_⟩ | refine ⟨⟨by omega, by omega⟩, ?_⟩
      refine hK _ ?_
      clear hK K
      try simp only [go_sem]
      exact ⟨(), fit_of [] (by try simp only [go_sem]) rfl⟩
  intro _ vs _
  repeat refine awp_seq ?_
  refine awp_cond rfl (fun hc => ?_) (fun hc => ?_) <;> (try simp only [go_sem] at hc)
  refine awp_skip ?_
  try simp only [go_sem]
  repeat refine awp_seq ?_
  refine awp_reg (by kernel_rfl) fun K hK => ?_
  simp only [go_sem]
  (try simp (disch := omega) only [wrapI])
  refine xcall_eq (hord1) rfl (by simp only [go_sem, i64, ints]) (by simp only [go_sem, i64, ints]) (by first | exact .inl rfl | exact .inr rfl) ?_
  (try simp only [go_sem])
  (try simp (disch := omega) only [wrapI])
  repeat first | intro _ | refine ⟨(by omega), ?_⟩ | refine ⟨⟨by omega, by omega⟩, ?_⟩
  refine hK _ ?_
  clear hK K
  refine awp_sub (sub_keep [1, 5, 6, 10, 14, 17, 18]) ?_
  simp only [go_sem]
  repeat refine awp_seq ?_
  refine awp_reg (by kernel_rfl) fun K hK => ?_
  simp only [go_sem]
  (try simp (disch := omega) only [wrapI])
  repeat first | intro _ | refine ⟨(by omega), ?_⟩ | refine ⟨⟨by omega, by omega⟩, ?_⟩
  refine hK _ ?_
  clear hK K
  refine awp_sub (sub_keep [1, 5, 6, 10, 14, 17, 18, 19]) ?_
  simp only [go_sem]
  repeat refine awp_seq ?_
  refine awp_block ?_
  generalize hfine : decide (stopM m r 1 r.gs.length = r.gs.length) = fine at *
  refine awp_upto (n := 268) 2 (fun i vs => [(1, .r (.it .u32 c)), (5, .r (.rp (rulesC r))), (6, .r (.rp [listsR l, i64 k])), (10, .r (.rp [i64 A, ints B])), (14, .r (i64 q)), (17, .pt 17 (vs 17) 0), (18, .r (.bo fine)), (19, .r (i64 i))])
    (fun i => [(17, .box [.r (listsR l2), .r (i64 (if i = 2 then q else k))])]) (fun _ => True) 0 (fit_of [] ?_ ?_) (Nat.zero_le _) trivial ?_
  · try simp only [go_sem]
  · try simp only [go_sem]
  · intro i vs hi _
    repeat refine awp_seq ?_
    refine awp_join (n := 268) (fun (_ : Unit) vs => [(1, .r (.it .u32 c)), (5, .r (.rp (rulesC r))), (6, .r (.rp [listsR l, i64 k])), (10, .r (.rp [i64 A, ints B])), (14, .r (i64 q)), (17, .pt 17 (vs 17) 0), (18, .r (.bo fine)), (19, .r (i64 i)), (161, .r (.bo (decide (i < 2) && fine)))])
      (fun _ => [(17, .box [.r (listsR l2), .r (i64 (if i = 2 then q else k))])]) (fun _ => True) (fun _ h => h) ?_ ?_
    · repeat refine awp_seq ?_
      refine awp_reg (by kernel_rfl) fun K hK => ?_
      simp only [go_sem]
      (try simp (disch := omega) only [wrapI])
      repeat' first | intro _ | refine And.intro ?_ ?_
      all_goals first | omega | skip
      all_goals (refine hK _ ?_; clear hK K)
      all_goals try simp only [go_sem]
      all_goals (refine ⟨(), fit_of [] ?_ ?_⟩ <;> try simp only [go_sem])
      all_goals (rw [Bool.eq_iff_iff]; simp; omega)
    intro _ vs _
    repeat refine awp_seq ?_
    refine awp_cond rfl (fun hc => ?_) (fun hc => ?_) <;> (try simp only [go_sem] at hc)
    · simp only [Bool.and_eq_true, decide_eq_true_eq] at hc
      obtain ⟨hi2, hf⟩ := hc
      rw [hf] at hb1
      refine awp_skip ?_
      try simp only [go_sem]
      repeat refine awp_seq ?_
      refine awp_block ?_
      obtain ⟨kk, hkk⟩ : ∃ kk, (if i = 0 then k else q) = kk := ⟨_, rfl⟩
      have hkin : 0 ≤ kk ∧ kk ≤ 2147483645 := by rw [← hkk]; split <;> omega
      have hnext : (if i = 1 then q else k) = kk := by
        rw [← hkk]
        have : i = 0 ∨ i = 1 := by omega
        rcases this with rfl | rfl <;> rfl
      repeat refine awp_seq ?_
      refine awp_join (n := 268) (fun (_ : Unit) vs => [(1, .r (.it .u32 c)), (5, .r (.rp (rulesC r))), (6, .r (.rp [listsR l, i64 k])), (10, .r (.rp [i64 A, ints B])), (14, .r (i64 q)), (17, .pt 17 (vs 17) 0), (18, .r (.bo fine)), (19, .r (i64 i))])
        (fun _ => [(17, .box [.r (listsR l2), .r (i64 kk)])]) (fun _ => True) (fun _ h => h) ?_ ?_
      · have : i = 0 ∨ i = 1 := by omega
        rcases this with rfl | rfl
        · obtain rfl : k = kk := hkk
          repeat refine awp_seq ?_
          refine awp_reg (by kernel_rfl) fun K hK => ?_
          simp only [go_sem]
          (try simp (disch := omega) only [wrapI])
          repeat first | intro _ | refine ⟨(by omega), ?_⟩ | refine ⟨⟨by omega, by omega⟩, ?_⟩
          refine hK _ ?_
          clear hK K
          try simp only [go_sem]
          exact ⟨(), fit_of [] (by try simp only [go_sem]) (by try simp only [go_sem])⟩
        · obtain rfl : q = kk := hkk
          repeat refine awp_seq ?_
          refine awp_reg (by kernel_rfl) fun K hK => ?_
          simp only [go_sem]
          (try simp (disch := omega) only [wrapI])
          repeat first | intro _ | refine ⟨(by omega), ?_⟩ | refine ⟨⟨by omega, by omega⟩, ?_⟩
          refine hK _ ?_
          clear hK K
          try simp only [go_sem]
          exact ⟨(), fit_of [] (by try simp only [go_sem]) (by try simp only [go_sem])⟩
      intro _ vs _
      have wkk : withinL 0 2147483645 [kk] = true := by simp [withinL]; omega
      have hs2 : sealL r l2 kk = ⟨tpow 7 kk.toNat, sealAt kk l2 l2.length, 0⟩ := by simp [sealL, hr, hb1, wkk]
      have hiff := hbs l2 kk hb1 hkin.1 hkin.2
      repeat refine awp_seq ?_
      refine awp_dreg2 [(5, none), (17, some 17)] follows (by decide +kernel) (by kernel_rfl) (by simp only [keysOk, List.mem_cons, List.not_mem_nil, forall_eq_or_imp, Oc.keyOf, go_sem]; simp) fun K hK => ?_
      simp only [go_sem]
      (try simp (disch := omega) only [wrapI])
      refine xcall_eq (rules_ok r h25) rfl (by simp only [go_sem, i64, ints]) (by simp only [go_sem, i64, ints]) (by first | exact .inl rfl | exact .inr rfl) ?_
      (try simp only [go_sem])
      (try simp (disch := omega) only [wrapI])
      refine xcall_eq (lists_ok l2 (by omega) hx1) rfl (by simp only [go_sem, i64, ints]) (by simp only [go_sem, i64, ints]) (by first | exact .inl rfl | exact .inr rfl) ?_
      (try simp only [go_sem])
      (try simp (disch := omega) only [wrapI])
      refine xcall_eq (seal_ok r l2 kk hl1 h25) rfl (by simp only [go_sem, i64, ints]) (by simp only [go_sem, i64, ints]) (by first | exact .inl rfl | exact .inr rfl) ?_
      (try simp only [go_sem])
      (try simp (disch := omega) only [wrapI])
      rw [hs2]
      repeat first | intro _ | refine ⟨(by omega), ?_⟩ | refine ⟨⟨by omega, by omega⟩, ?_⟩
      refine hK _ ?_
      clear hK K
      refine awp_sub (sub_keep [1, 5, 6, 10, 14, 17, 18, 19, 20, 21]) ?_
      simp only [go_sem]
      generalize tpow 7 kk.toNat = A2 at *
      generalize sealAt kk l2 l2.length = B2 at *
      refine awp_sub (sub_frzP 20 20 [i64 A2, ints B2] (by omega) rfl rfl) ?_
      try simp only [go_sem]
      repeat refine awp_seq ?_
      refine awp_join (n := 268) (fun (_ : Unit) vs => [(1, .r (.it .u32 c)), (5, .r (.rp (rulesC r))), (6, .r (.rp [listsR l, i64 k])), (10, .r (.rp [i64 A, ints B])), (14, .r (i64 q)), (17, .pt 17 (vs 17) 0), (18, .r (.bo fine)), (19, .r (i64 i)), (202, .r (.bo false))])
        (fun _ => [(17, .box [.r (listsR l2), .r (i64 kk)])]) (fun _ => True) (fun _ h => h) ?_ ?_
      · by_cases hq : kk = k
        · have e1 : (kk == k) = true := by simp [hq]
          have e2 : (!(decide (A = A2 ∧ B = B2) == decide (l2 = l))) = false := by
            rw [Bool.not_eq_false', beq_iff_eq, decide_eq_decide, hiff]
            exact ⟨fun h => h.2, fun h => ⟨hq, h⟩⟩
          repeat refine awp_seq ?_
          refine awp_dreg2 [(6, none), (10, none), (17, some 17), (20, none)] follows (by decide +kernel) (by kernel_rfl) (by simp only [keysOk, List.mem_cons, List.not_mem_nil, forall_eq_or_imp, Oc.keyOf, go_sem]; simp) fun K hK => ?_
          simp only [go_sem, bne_self_eq_false, e1]
          (try simp (disch := omega) only [wrapI])
          refine xcall_eq (alike_ok A A2 B B2) rfl (by simp only [go_sem, i64, ints, e1]) (by simp only [go_sem, i64, ints, e1]) (by first | exact .inl rfl | exact .inr rfl) ?_
          (try simp only [go_sem, e1])
          (try simp (disch := omega) only [wrapI])
          refine xcall_eq (same_ok2 l2 l) rfl (by simp only [go_sem, i64, ints, e2]) (by simp only [go_sem, i64, ints, e2]) (by first | exact .inl rfl | exact .inr rfl) ?_
          (try simp only [go_sem, e2])
          (try simp (disch := omega) only [wrapI])
          repeat first | intro _ | refine ⟨(by omega), ?_⟩ | refine ⟨⟨by omega, by omega⟩, ?_⟩
          refine hK _ ?_
          clear hK K
          try simp only [go_sem]
          exact ⟨(), fit_of [] (by try simp only [go_sem]) (by try simp only [go_sem])⟩
        · have e1 : (kk == k) = false := by simp [hq]
          have e2 : decide (A = A2 ∧ B = B2) = false := by
            rw [decide_eq_false_iff_not, hiff]
            exact fun h => hq h.1
          repeat refine awp_seq ?_
          refine awp_dreg2 [(6, none), (10, none), (17, some 17), (20, none)] follows (by decide +kernel) (by kernel_rfl) (by simp only [keysOk, List.mem_cons, List.not_mem_nil, forall_eq_or_imp, Oc.keyOf, go_sem]; simp) fun K hK => ?_
          simp only [go_sem, bne_self_eq_false, e1]
          (try simp (disch := omega) only [wrapI])
          refine xcall_eq (alike_ok A A2 B B2) rfl (by simp only [go_sem, i64, ints, e1, e2, beq_self_eq_true, Bool.not_true]) (by simp only [go_sem, i64, ints, e1, e2, beq_self_eq_true, Bool.not_true]) (by first | exact .inl rfl | exact .inr rfl) ?_
          (try simp only [go_sem, e1, e2, beq_self_eq_true, Bool.not_true])
          (try simp (disch := omega) only [wrapI])
          repeat first | intro _ | refine ⟨(by omega), ?_⟩ | refine ⟨⟨by omega, by omega⟩, ?_⟩
          refine hK _ ?_
          clear hK K
          try simp only [go_sem]
          exact ⟨(), fit_of [] (by try simp only [go_sem]) (by try simp only [go_sem])⟩
      intro _ vs _
      repeat refine awp_seq ?_
      refine awp_cond rfl (fun hc => ?_) (fun hc => ?_) <;> (try simp only [go_sem] at hc)
      refine awp_skip ?_
      try simp only [go_sem]
      repeat refine awp_seq ?_
      refine awp_reg (by kernel_rfl) fun K hK => ?_
      simp only [go_sem]
      (try simp (disch := omega) only [wrapI])
      repeat first | intro _ | refine ⟨(by omega), ?_⟩ | refine ⟨⟨by omega, by omega⟩, ?_⟩
      refine hK _ ?_
      clear hK K
      try simp only [go_sem]
      refine ⟨hi2, fit_of [] ?_ ?_⟩
      · try simp only [go_sem]
      · try simp only [go_sem]
        rw [hnext]
    · refine awp_exit ?_
      simp only [go_sem]
      have hBpos : 0 < B.length := by omega
      have tc : c.tmod (B.length : Int) = ((c.toNat % B.length : Nat) : Int) := by
        obtain ⟨cn, rfl⟩ := Int.eq_ofNat_of_zero_le hc0.1
        rfl
      have tv : c.tmod 2147483646 = c % 2147483646 := Int.tmod_eq_emod_of_nonneg hc0.1
      obtain ⟨i0, hi0⟩ : ∃ i0, c.toNat % B.length = i0 := ⟨_, rfl⟩
      have hi0l : i0 < B.length := by rw [← hi0]; exact Nat.mod_lt _ hBpos
      obtain ⟨v, hv⟩ : ∃ v, 1 + c % 2147483646 = v := ⟨_, rfl⟩
      have hvin : 1 ≤ v ∧ v ≤ 2147483646 := by omega
      obtain ⟨b0, hb0'⟩ := opt_of_lt hi0l
      have hch := hbc v i0 (by omega) hvin.1 hvin.2
      have hgd : B.getD i0 0 = b0 := by rw [List.getD_eq_getElem?_getD, hb0']; rfl
      rw [hgd] at hch
      have hB0 : (B.length : Int) ≠ 0 := by omega
      refine awp_sub (sub_keep [1, 5, 6, 10]) ?_
      simp only [go_sem]
      repeat refine awp_seq ?_
      refine awp_dreg2 [(1, none), (10, none)] follows (by decide +kernel) (by kernel_rfl) (by simp only [keysOk, List.mem_cons, List.not_mem_nil, forall_eq_or_imp, Oc.keyOf, go_sem]; simp) fun K hK => ?_
      simp only [go_sem, hB0]
      (try simp (disch := omega) only [wrapI])
      refine xcall_own (intsOwn_ok B (by omega)) rfl (by simp only [go_sem, i64, ints, hB0]) (by simp only [go_sem, i64, ints, hB0]) (by decide) (by intro h; first | (cases h; done) | rfl) ?_
      (try simp only [go_sem, hB0])
      (try simp (disch := omega) only [wrapI])
      rw [tc, hi0]
      repeat first | intro _ | refine ⟨(by omega), ?_⟩ | refine ⟨⟨by omega, by omega⟩, ?_⟩
      refine hK _ ?_
      clear hK K
      refine awp_sub (sub_keep [1, 5, 6, 10, 22, 23]) ?_
      simp only [go_sem]
      repeat refine awp_seq ?_
      refine awp_reg (by kernel_rfl) fun K hK => ?_
      simp only [go_sem, Int.toNat_natCast, hb0']
      (try simp (disch := omega) only [wrapI])
      rw [tv, hv]
      repeat first | intro _ | refine ⟨(by omega), ?_⟩ | refine ⟨⟨by omega, by omega⟩, ?_⟩
      refine hK _ ?_
      clear hK K
      refine awp_sub (sub_keep [5, 6, 10, 22, 23]) ?_
      simp only [go_sem]
      have hset : (B.map fun x => [i64 x]).set i0 [RV.it IntKind.i64 v] = (B.set i0 v).map fun x => [i64 x] := by rw [List.map_set]
      rw [hset]
      obtain ⟨z, hz⟩ : ∃ z, openL r A (B.set i0 v) k = z := ⟨_, rfl⟩
      rw [hz] at hch
      refine awp_sub (sub_frzB 22 1 207 (by omega) (by omega) rfl rfl rfl (by simp)) ?_
      try simp only [go_sem]
      have hfull : ((B.set i0 v).map fun x => [i64 x]).take B.length = (B.set i0 v).map fun x => [i64 x] := List.take_of_length_le (by simp)
      simp only [List.drop_zero, hfull]
      refine awp_sub (sub_frzP 22 22 [i64 A, ints (B.set i0 v)] (by omega) rfl rfl) ?_
      try simp only [go_sem]
      refine awp_sub (sub_keep [5, 6, 10, 22, 23]) ?_
      simp only [go_sem]
      repeat refine awp_seq ?_
      refine awp_dreg follows (by decide +kernel) (by kernel_rfl) fun K hK => ?_
      simp only [go_sem]
      (try simp (disch := omega) only [wrapI])
      refine xcall_eq (rules_ok r h25) rfl (by simp only [go_sem, i64, ints]) (by simp only [go_sem, i64, ints]) (by first | exact .inl rfl | exact .inr rfl) ?_
      (try simp only [go_sem])
      (try simp (disch := omega) only [wrapI])
      refine xcall_eq (open_ok r A (B.set i0 v) k (by simp; omega) h25) rfl (by simp only [go_sem, i64, ints]) (by simp only [go_sem, i64, ints]) (by first | exact .inl rfl | exact .inr rfl) ?_
      (try simp only [go_sem])
      (try simp (disch := omega) only [wrapI])
      rw [hz]
      repeat first | intro _ | refine ⟨(by omega), ?_⟩ | refine ⟨⟨by omega, by omega⟩, ?_⟩
      refine hK _ ?_
      clear hK K
      refine awp_sub (sub_keep [6, 10, 11, 22, 23, 24]) ?_
      simp only [go_sem]
      refine awp_sub (sub_frzP 24 24 [listsR z.l, i64 z.k] (by omega) rfl rfl) ?_
      try simp only [go_sem]
      have hgs : (B.set i0 v)[i0]? = some v := by rw [List.getElem?_set_self hi0l]
      have hsl : i0 < (B.set i0 v).length := by rw [List.length_set]; exact hi0l
      rcases hch with ⟨ze, zl⟩ | ⟨ze, zl⟩
      · have e2 : (!(decide (z.l = l) == (v == b0))) = false := by
          rw [Bool.not_eq_false', beq_iff_eq, Bool.eq_iff_iff]
          simpa using zl
        rw [ze]
        repeat refine awp_seq ?_
        refine awp_dreg follows (by decide +kernel) (by kernel_rfl) fun K hK => ?_
        simp only [go_sem, hb0', hgs, hi0l, hsl, beq_self_eq_true, Int.toNat_natCast]
        (try simp (disch := omega) only [wrapI])
        refine xcall_eq (same_ok2 z.l l) rfl (by simp only [go_sem, i64, ints, hb0', hgs, hi0l, hsl, Int.toNat_natCast, e2]) (by simp only [go_sem, i64, ints, hb0', hgs, hi0l, hsl, Int.toNat_natCast, e2]) (by first | exact .inl rfl | exact .inr rfl) ?_
        (try simp only [go_sem, hb0', hgs, hi0l, hsl, Int.toNat_natCast, e2])
        (try simp (disch := omega) only [wrapI])
        repeat first | intro _ | refine ⟨(by omega), ?_⟩ | refine ⟨⟨by omega, by omega⟩, ?_⟩
        refine hK _ ?_
        clear hK K
        refine awp_sub (sub_keep [11, 24, 252]) ?_
        simp only [go_sem]
        repeat refine awp_seq ?_
        refine awp_cond rfl (fun hc => ?_) (fun hc => ?_) <;> (try simp only [go_sem] at hc)
        refine awp_skip ?_
        try simp only [go_sem]
        repeat refine awp_seq ?_
        refine awp_reg (by kernel_rfl) fun K hK => ?_
        simp only [go_sem, beq_self_eq_true]
        (try simp (disch := omega) only [wrapI])
        refine xcall_eq (known_ok) rfl (by simp only [go_sem, i64, ints]) (by simp only [go_sem, i64, ints]) (by first | exact .inl rfl | exact .inr rfl) ?_
        (try simp only [go_sem])
        (try simp (disch := omega) only [wrapI])
        repeat first | intro _ | refine ⟨(by omega), ?_⟩ | refine ⟨⟨by omega, by omega⟩, ?_⟩
        refine hK _ ?_
        clear hK K
        refine awp_sub (sub_keep [4]) ?_
        simp only [go_sem]
        refine awp_ret ?_
        simp only [go_sem]
      · rw [ze, zl]
        repeat refine awp_seq ?_
        refine awp_dreg follows (by decide +kernel) (by kernel_rfl) fun K hK => ?_
        simp only [go_sem]
        (try simp (disch := omega) only [wrapI])
        repeat first | intro _ | refine ⟨(by omega), ?_⟩ | refine ⟨⟨by omega, by omega⟩, ?_⟩
        refine hK _ ?_
        clear hK K
        refine awp_sub (sub_keep [11, 24, 252]) ?_
        simp only [go_sem]
        repeat refine awp_seq ?_
        refine awp_cond rfl (fun hc => ?_) (fun hc => ?_) <;> (try simp only [go_sem] at hc)
        refine awp_skip ?_
        try simp only [go_sem]
        repeat refine awp_seq ?_
        refine awp_reg (by kernel_rfl) fun K hK => ?_
        simp only [go_sem, beq_self_eq_true, List.length_nil]
        (try simp (disch := omega) only [wrapI])
        refine xcall_eq (known_ok) rfl (by simp only [go_sem, i64, ints]) (by simp only [go_sem, i64, ints]) (by first | exact .inl rfl | exact .inr rfl) ?_
        (try simp only [go_sem])
        (try simp (disch := omega) only [wrapI])
        repeat first | intro _ | refine ⟨(by omega), ?_⟩ | refine ⟨⟨by omega, by omega⟩, ?_⟩
        refine hK _ ?_
        clear hK K
        refine awp_sub (sub_keep [4]) ?_
        simp only [go_sem]
        refine awp_ret ?_
        simp only [go_sem]
end Go.Proofs.Ytnklbfmdojpfkaa

/- What a reading of the arguments says of them: plain data of a shape. -/
namespace Go.Oc
open Go Go.RowKit Go.ChangeShapes Go.WideShapes

inductive Sh where
  | int (k : IntKind)
  | bool
  | sl (es : List Sh)
def fieldsSh (P : Program) (sh : TypeId → Option (List Sh)) : List Field → Nat → Option (List Sh)
  | [], _ => some []
  | f :: fs, o =>
    match sh f.type with
    | some ss => if f.offset == o && ss.length == P.cellsOf f.type then match fieldsSh P sh fs (o + ss.length) with | some q => some (ss ++ q) | none => none else none
    | none => none
/-- The cells of a type. -/
def shape (P : Program) : Nat → TypeId → Option (List Sh)
  | 0, _ => none
  | n + 1, t =>
    match P.underlying t with
    | some (.int k) => some [.int k]
    | some .bool => some [.bool]
    | some (.slice e) =>
      match shape P n e with
      | some ss => if ss.length == P.cellsOf e && decide (0 < ss.length) then some [.sl ss] else none
      | none => none
    | some (.array m e) =>
      match shape P n e with
      | some ss => if ss.length == P.cellsOf e && P.cellsOf t == m * ss.length then some (List.replicate m ss).flatten else none
      | none => none
    | some (.struct fs) =>
      match fieldsSh P (shape P n) fs.toList 0 with
      | some ss => if ss.length == P.cellsOf t then some ss else none
      | none => none
    | _ => none
mutual
def Fits : Sh → RV → Prop
  | .int k, x => ∃ n, x = .it k n ∧ (Lit.int k n).wf = true
  | .bool, x => ∃ b, x = .bo b
  | .sl ss, x => ∃ es, x = .sl ss.length es ∧ FitsE ss es
def FitsL : List Sh → List RV → Prop
  | [], xs => xs = []
  | s :: ss, xs => ∃ y ys, xs = y :: ys ∧ Fits s y ∧ FitsL ss ys
def FitsE (ss : List Sh) : List (List RV) → Prop
  | [] => True
  | e :: es => FitsL ss e ∧ FitsE ss es
end

theorem fitsL_append : ∀ {s1 s2 : List Sh} {x1 x2 : List RV}, FitsL s1 x1 → FitsL s2 x2 → FitsL (s1 ++ s2) (x1 ++ x2)
  | [], _, _, _, h1, h2 => by simp only [FitsL] at h1; subst h1; simpa using h2
  | s :: ss, s2, x1, x2, h1, h2 => by
    simp only [FitsL] at h1
    obtain ⟨y, ys, rfl, h3, h4⟩ := h1
    simp only [List.cons_append, FitsL]
    exact ⟨y, _, rfl, h3, fitsL_append h4 h2⟩
theorem fitsL_length : ∀ {ss : List Sh} {xs : List RV}, FitsL ss xs → xs.length = ss.length
  | [], _, h => by simp only [FitsL] at h; subst h; rfl
  | s :: ss, _, h => by
    simp only [FitsL] at h
    obtain ⟨y, ys, rfl, _, h⟩ := h
    simp [fitsL_length h]
theorem fitsE_of : ∀ {ss : List Sh} {es : List (List RV)}, (∀ e ∈ es, FitsL ss e) → FitsE ss es
  | _, [], _ => by simp only [FitsE]
  | ss, e :: es, h => by simp only [FitsE]; exact ⟨h e (by simp), fitsE_of fun x hx => h x (by simp [hx])⟩
theorem choice {α : Type} {Q : Nat → α → Prop} : ∀ (n : Nat), (∀ i, i < n → ∃ x, Q i x) → ∃ xs : List α, xs.length = n ∧ ∀ i x, xs[i]? = some x → Q i x
  | 0, _ => ⟨[], rfl, by simp⟩
  | n + 1, h => by
    obtain ⟨xs, hl, hx⟩ := choice n fun i hi => h i (by omega)
    obtain ⟨y, hy⟩ := h n (by omega)
    refine ⟨xs ++ [y], by simp [hl], fun i x hi => ?_⟩
    by_cases h1 : i < n
    · rw [List.getElem?_append_left (by omega)] at hi; exact hx i x hi
    · rw [List.getElem?_append_right (by omega)] at hi
      have : i = n := by have := (List.getElem?_eq_some_iff.1 hi).1; simp at this; omega
      subst this
      simp [hl] at hi
      exact hi ▸ hy
section
variable {w : World} {P : Program}
theorem cells?_get {base n : Nat} {a : Addr} {cs : List Value} (h : w.cells? base a n = some cs) : cs.length = n ∧ ∀ i, i < n → w.cell? (a.add i) = cs[i]? := by
  unfold World.cells? at h
  split at h
  · exact ⟨by simpa using mapM_some_length h, fun i hi => mapM_some_get h i i (by simp [hi])⟩
  · cases h
theorem cell_lt {a : Addr} {v : Value} (h : w.cell? a = some v) : a.block < w.heap.size := by
  refine Decidable.byContradiction fun hn => ?_
  have : w.heap[a.block]? = none := by simp; omega
  simp [World.cell?, this] at h
/-- All that was there. -/
def old (w : World) : Nat → Prop := fun b => b < w.heap.size
theorem relC_of_cells {xs : List RV} {cs : List Value} {ad : Addr} (hV : RV.relV w (old w) xs cs) (hone : ∀ u ∈ cs, u.oneCell' = true) (hc : ∀ i, i < cs.length → w.cell? (ad.add i) = cs[i]?) : RV.relC w (old w) xs ad 0 := by
  refine RV.relC_of_get fun i x hx => ?_
  obtain ⟨u, hu, hr⟩ := RV.relV_get hV hx
  have hi := (List.getElem?_eq_some_iff.1 hu).1
  refine ⟨u, ?_, hone u (List.mem_of_getElem? hu), hr⟩
  rw [Nat.zero_add, hc i hi, hu]

variable {H : Type} {enc : TypeId × Value → H} {base : Nat} {spare : Nat → Bool} {held : Bool}
def Good3 (w : World) (ss : List Sh) (cs : List Value) : Prop := ∃ xs, FitsL ss xs ∧ RV.relV w (old w) xs cs ∧ ∀ u ∈ cs, u.oneCell' = true
theorem good3_append {s1 s2 : List Sh} {c1 c2 : List Value} (h1 : Good3 w s1 c1) (h2 : Good3 w s2 c2) : Good3 w (s1 ++ s2) (c1 ++ c2) := by
  obtain ⟨x1, f1, r1, o1⟩ := h1
  obtain ⟨x2, f2, r2, o2⟩ := h2
  refine ⟨x1 ++ x2, fitsL_append f1 f2, RV.relV_append r1 r2, fun u hu => ?_⟩
  rcases List.mem_append.1 hu with hu | hu
  · exact o1 u hu
  · exact o2 u hu
theorem good3_length {ss : List Sh} {cs : List Value} (h : Good3 w ss cs) : cs.length = ss.length := by
  obtain ⟨xs, f, r, _⟩ := h
  rw [RV.relV_length r, fitsL_length f]
theorem trod_fits : ∀ (fuel n : Nat) (t : TypeId) (cs : List Value) (x : DataW H × List MemPlace) (ss : List Sh), DataW.trod enc P w base spare held fuel t cs = some x → shape P n t = some ss → Good3 w ss cs := by
  intro fuel
  induction fuel with
  | zero => intro n t cs x ss h; simp [DataW.trod] at h
  | succ fuel ih =>
    intro n t cs x ss h hs
    cases n with
    | zero => simp [shape] at hs
    | succ n =>
      unfold shape at hs
      split at hs
      · rename_i k ht
        injection hs with hs; subst hs
        obtain ⟨m, rfl, _, hw⟩ := DataW.trod_int ht h
        exact ⟨[.it k m], by simp only [FitsL, Fits]; exact ⟨_, [], rfl, ⟨m, rfl, hw⟩, rfl⟩, by simp only [RV.relV, RV.rel]; exact ⟨_, [], rfl, rfl, rfl⟩, by simp [Value.oneCell']⟩
      · rename_i ht
        injection hs with hs; subst hs
        obtain ⟨b, rfl, _⟩ := DataW.trod_bool ht h
        exact ⟨[.bo b], by simp only [FitsL, Fits]; exact ⟨_, [], rfl, ⟨b, rfl⟩, rfl⟩, by simp only [RV.relV, RV.rel]; exact ⟨_, [], rfl, rfl, rfl⟩, by simp [Value.oneCell']⟩
      · rename_i e ht
        split at hs
        · rename_i es hes
          split at hs
          · rename_i hc
            simp only [Bool.and_eq_true, beq_iff_eq, decide_eq_true_eq] at hc
            injection hs with hs; subst hs
            rcases DataW.trod_slice ht h with ⟨rfl, _⟩ | ⟨a, len, cap, elems, rest, m, hm, rfl, _, _, hlc, hcm, hel, hget, _⟩
            · refine ⟨[.sl es.length []], ?_, ?_, by simp [Value.oneCell']⟩
              · simp only [FitsL, Fits]
                exact ⟨_, [], rfl, ⟨[], rfl, by simp only [FitsE]⟩, rfl⟩
              · simp only [RV.relV, RV.rel]
                exact ⟨_, [], rfl, ⟨none, 0, rfl, Nat.le_refl _, Nat.zero_le _, fun h => absurd rfl h⟩, rfl⟩
            · injection hm with hm; subst hm
              have hall : ∀ i, i < len → ∃ e', FitsL es e' ∧ e'.length = es.length ∧ RV.relC w (old w) e' (a.add (i * es.length)) 0 ∧ a.block < w.heap.size := fun i hi => by
                have h1 := hget i hi
                have h2 : i < elems.length := by omega
                rw [List.getElem?_eq_getElem h2] at h1
                obtain ⟨ci, hci, htr⟩ := Option.bind_eq_some_iff.1 h1
                rw [← hc.1] at hci
                obtain ⟨hl, hcell⟩ := cells?_get hci
                obtain ⟨xs, f, r, o⟩ := ih n e ci _ es htr hes
                refine ⟨xs, f, fitsL_length f, relC_of_cells r o (fun j hj => hcell j (by omega)), ?_⟩
                have h3 := hcell 0 hc.2
                have h4 : 0 < ci.length := by omega
                rw [List.getElem?_eq_getElem h4] at h3
                have := cell_lt h3
                rwa [block_add, block_add] at this
              obtain ⟨els, hlen, hels⟩ := choice len hall
              refine ⟨[.sl es.length els], ?_, ?_, by simp [Value.oneCell']⟩
              · simp only [FitsL, Fits]
                refine ⟨_, [], rfl, ⟨els, rfl, fitsE_of fun e' he' => ?_⟩, rfl⟩
                obtain ⟨i, hi⟩ := List.getElem?_of_mem he'
                exact (hels i e' hi).1
              · simp only [RV.relV, RV.rel]
                refine ⟨_, [], rfl, ⟨some a, cap, by rw [hlen], by omega, hcm, fun hne => ?_⟩, rfl⟩
                obtain ⟨e0, he0⟩ : ∃ e0, els[0]? = some e0 := by
                  cases els with
                  | nil => exact absurd rfl hne
                  | cons a l => exact ⟨a, rfl⟩
                refine ⟨a, rfl, (hels 0 e0 he0).2.2.2, RV.relE_of_get fun i e' he' => ?_⟩
                obtain ⟨_, q1, q2, _⟩ := hels i e' he'
                exact ⟨q1, RV.relC_unbase _ q2⟩
          · cases hs
        · cases hs
      · rename_i m e ht
        split at hs
        · rename_i es hes
          split at hs
          · rename_i hc
            simp only [Bool.and_eq_true, beq_iff_eq] at hc
            injection hs with hs; subst hs
            obtain ⟨xs, fm, hm, _, hcl, hxl, hget⟩ := DataW.trod_array ht h
            injection hm with hm; subst hm
            have key : ∀ j, j ≤ m → Good3 w (List.replicate j es).flatten (cs.take (j * es.length)) := by
              intro j
              induction j with
              | zero => intro _; exact ⟨[], by simp [FitsL], by simp [RV.relV], by simp⟩
              | succ j ihj =>
                intro hj
                have h1 := hget j (by omega)
                have h2 : j < xs.length := by omega
                rw [List.getElem?_eq_getElem h2, ← hc.1] at h1
                have h3 := ih n e _ _ es h1 hes
                have := good3_append (ihj (by omega)) h3
                rw [← List.take_add] at this
                rw [List.replicate_succ', List.flatten_append, Nat.add_mul]
                simpa using this
            have := key m (Nat.le_refl _)
            rwa [← hc.2, ← hcl, List.take_length] at this
          · cases hs
        · cases hs
      · rename_i fs ht
        split at hs
        · rename_i q hq
          split at hs
          · rename_i hc
            simp only [beq_iff_eq] at hc
            injection hs with hs; subst hs
            obtain ⟨xs, fm, hm, _, hcl, hxl, hget⟩ := DataW.trod_struct ht h
            injection hm with hm; subst hm
            have key : ∀ (l : List Field) (o : Nat) (q : List Sh), (∀ f ∈ l, ∃ y, DataW.trod enc P w base spare held fuel f.type ((cs.drop f.offset).take (P.cellsOf f.type)) = some y) → fieldsSh P (shape P n) l o = some q → Good3 w q ((cs.drop o).take q.length) := by
              intro l
              induction l with
              | nil =>
                intro o q _ hq
                simp only [fieldsSh, Option.some.injEq] at hq
                subst hq
                exact ⟨[], by simp [FitsL], by simp [RV.relV], by simp⟩
              | cons f l ihl =>
                intro o q hall hq
                simp only [fieldsSh] at hq
                split at hq
                · rename_i s1 hs1
                  split at hq
                  · rename_i hc1
                    simp only [Bool.and_eq_true, beq_iff_eq] at hc1
                    split at hq
                    · rename_i q2 hq2
                      injection hq with hq; subst hq
                      obtain ⟨y, hy⟩ := hall f (by simp)
                      have g1 := ih n f.type _ _ s1 hy hs1
                      have g2 := ihl (o + s1.length) q2 (fun f' hf' => hall f' (by simp [hf'])) hq2
                      rw [hc1.1, ← hc1.2] at g1
                      have := good3_append g1 g2
                      rw [← List.drop_drop, ← List.take_add] at this
                      simpa using this
                    · cases hq
                  · cases hq
                · cases hq
            have := key fs.toList 0 q (fun f hf => by
              obtain ⟨i, hi⟩ := List.getElem?_of_mem hf
              have hi' : fs[i]? = some f := by simpa using hi
              have h1 := hget i f hi'
              have h2 : i < xs.length := by have := (Array.getElem?_eq_some_iff.1 hi').1; omega
              exact ⟨xs[i], by rw [h1]; exact List.getElem?_eq_getElem h2⟩) hq
            rwa [List.drop_zero, hc, ← hcl, List.take_length] at this
          · cases hs
        · cases hs
      · cases hs

/-- An argument of a type. -/
def FitsT (P : Program) (n : Nat) (t : TypeId) (x : RV) : Prop := ∃ ss, shape P n t = some ss ∧ if aggOf P t then ∃ xs, x = .ag xs ∧ FitsL ss xs else FitsL ss [x]
theorem arg_fits {n : Nat} {t : TypeId} {v : Value} {d : DataW H} {ps : List MemPlace} {r : Reach} {b0 : Nat} (hs : (shape P n t).isSome = true) (hval : Value.okWide P w r b0 t v) (h : DataW.Trod enc P w base spare held t v d ps) :
    ∃ x, FitsT P n t x ∧ x.rel w (old w) v := by
  obtain ⟨ss, hss⟩ := Option.isSome_iff_exists.1 hs
  obtain ⟨fuel, hf⟩ := h
  obtain ⟨xs, f, r, o⟩ := trod_fits fuel n t _ _ ss hf hss
  have one : aggOf P t = false → v.cells.toList = [v] → ∃ x, FitsT P n t x ∧ x.rel w (old w) v := fun ha hc => by
    rw [hc] at r
    match xs, r with
    | [x], r =>
      simp only [RV.relV] at r
      obtain ⟨u, us, e, hr, _⟩ := r
      injection e with e1 e2
      subst e1
      exact ⟨x, ⟨ss, hss, by rw [ha]; exact f⟩, hr⟩
    | [], r => simp [RV.relV] at r
    | _ :: _ :: _, r =>
      simp only [RV.relV] at r
      obtain ⟨u, us, e, _, u2, us2, e2, _⟩ := r
      injection e with _ e
      rw [e2] at e; cases e
  cases n with
  | zero => simp [shape] at hss
  | succ n =>
    have hss' := hss
    unfold shape at hss'
    split at hss'
    · rename_i k ht
      obtain ⟨m, rfl⟩ := okWide_int ht hval
      exact one (by simp [aggOf, ht]) rfl
    · rename_i ht
      obtain ⟨b, rfl⟩ := okWide_bool ht hval
      exact one (by simp [aggOf, ht]) rfl
    · rename_i e ht
      obtain ⟨a, l, c, rfl⟩ := okWide_slice ht hval
      exact one (by simp [aggOf, ht]) rfl
    · rename_i m e ht
      obtain ⟨cs, rfl⟩ : ∃ cs, v = .agg cs := by
        simp only [Value.okWide, ht] at hval
        obtain ⟨cs, h1, _⟩ := hval
        exact ⟨cs, h1⟩
      exact ⟨.ag xs, ⟨ss, hss, by simp only [aggOf, ht, if_true]; exact ⟨xs, rfl, f⟩⟩, by simp only [RV.rel]; exact ⟨cs, rfl, o, r⟩⟩
    · rename_i fs ht
      obtain ⟨cs, rfl, _⟩ := okWide_struct ht hval
      exact ⟨.ag xs, ⟨ss, hss, by simp only [aggOf, ht, if_true]; exact ⟨xs, rfl, f⟩⟩, by simp only [RV.rel]; exact ⟨cs, rfl, o, r⟩⟩
    · cases hss'

theorem wf_i64 {n : Int} (h : (Lit.int .i64 n).wf = true) : -9223372036854775808 ≤ n ∧ n ≤ 9223372036854775807 := by
  simp only [Lit.wf, Bool.and_eq_true, decide_eq_true_eq] at h
  have h1 : IntKind.min .i64 = -9223372036854775808 := by decide
  have h2 : IntKind.max .i64 = 9223372036854775807 := by decide
  rw [h1, h2] at h
  exact h
theorem fitsE_ints : ∀ {es : List (List RV)}, FitsE [.int .i64] es → ∃ l : List Int, es = l.map (fun x => [.it .i64 x]) ∧ ∀ x ∈ l, -9223372036854775808 ≤ x ∧ x ≤ 9223372036854775807
  | [], _ => ⟨[], rfl, by simp⟩
  | e :: es, h => by
    simp only [FitsE, FitsL, Fits] at h
    obtain ⟨⟨y, ys, rfl, ⟨n, rfl, hn⟩, rfl⟩, h⟩ := h
    obtain ⟨l, rfl, hl⟩ := fitsE_ints h
    refine ⟨n :: l, rfl, fun x hx => ?_⟩
    rcases List.mem_cons.1 hx with rfl | hx
    · exact wf_i64 hn
    · exact hl x hx
theorem fitsT_ag {n : Nat} {t : TypeId} {x : RV} {ss : List Sh} (h : FitsT P n t x) (hs : shape P n t = some ss) (ha : aggOf P t = true) : ∃ xs, x = .ag xs ∧ FitsL ss xs := by
  obtain ⟨s', h1, h2⟩ := h
  rw [hs] at h1; injection h1 with h1; subst h1
  rw [ha] at h2
  exact h2
theorem fitsT_one {n : Nat} {t : TypeId} {x : RV} {s : Sh} (h : FitsT P n t x) (hs : shape P n t = some [s]) (ha : aggOf P t = false) : Fits s x := by
  obtain ⟨s', h1, h2⟩ := h
  rw [hs] at h1; injection h1 with h1; subst h1
  rw [ha] at h2
  simp only [Bool.false_eq_true, if_false, FitsL] at h2
  obtain ⟨y, ys, e, h3, _⟩ := h2
  injection e with e1 e2
  subst e1
  exact h3
theorem fitsT_int {n : Nat} {t : TypeId} {x : RV} (h : FitsT P n t x) (hs : shape P n t = some [.int .i64]) (ha : aggOf P t = false) : ∃ m, x = .it .i64 m ∧ -9223372036854775808 ≤ m ∧ m ≤ 9223372036854775807 := by
  have := fitsT_one h hs ha
  simp only [Fits] at this
  obtain ⟨m, h1, h2⟩ := this
  exact ⟨m, h1, wf_i64 h2⟩
theorem fitsT_ints {n : Nat} {t : TypeId} {x : RV} (h : FitsT P n t x) (hs : shape P n t = some [.sl [.int .i64]]) (ha : aggOf P t = false) : ∃ l : List Int, x = .sl 1 (l.map (fun x => [.it .i64 x])) ∧ ∀ x ∈ l, -9223372036854775808 ≤ x ∧ x ≤ 9223372036854775807 := by
  have := fitsT_one h hs ha
  simp only [Fits] at this
  obtain ⟨es, h1, h2⟩ := this
  obtain ⟨l, rfl, hl⟩ := fitsE_ints h2
  exact ⟨l, h1, hl⟩
end
end Go.Oc

/- The bounds of the small kinds of integers. -/
namespace Go.Oc
open Go Go.RowKit
theorem wf_u8 {n : Int} (h : (Lit.int .u8 n).wf = true) : 0 ≤ n ∧ n ≤ 255 := by
  simp only [Lit.wf, Bool.and_eq_true, decide_eq_true_eq] at h
  have h1 : IntKind.min .u8 = 0 := by decide
  have h2 : IntKind.max .u8 = 255 := by decide
  rw [h1, h2] at h
  exact h
theorem wf_u16 {n : Int} (h : (Lit.int .u16 n).wf = true) : 0 ≤ n ∧ n ≤ 65535 := by
  simp only [Lit.wf, Bool.and_eq_true, decide_eq_true_eq] at h
  have h1 : IntKind.min .u16 = 0 := by decide
  have h2 : IntKind.max .u16 = 65535 := by decide
  rw [h1, h2] at h
  exact h
theorem wf_u32 {n : Int} (h : (Lit.int .u32 n).wf = true) : 0 ≤ n ∧ n ≤ 4294967295 := by
  simp only [Lit.wf, Bool.and_eq_true, decide_eq_true_eq] at h
  have h1 : IntKind.min .u32 = 0 := by decide
  have h2 : IntKind.max .u32 = 4294967295 := by decide
  rw [h1, h2] at h
  exact h
theorem fitsE_u8 : ∀ {es : List (List RV)}, FitsE [.int .u8] es → ∃ l : List Int, es = l.map (fun x => [.it .u8 x]) ∧ ∀ x ∈ l, 0 ≤ x ∧ x ≤ 255
  | [], _ => ⟨[], rfl, by simp⟩
  | e :: es, h => by
    simp only [FitsE, FitsL, Fits] at h
    obtain ⟨⟨y, ys, rfl, ⟨n, rfl, hn⟩, rfl⟩, h⟩ := h
    obtain ⟨l, rfl, hl⟩ := fitsE_u8 h
    refine ⟨n :: l, rfl, fun x hx => ?_⟩
    rcases List.mem_cons.1 hx with rfl | hx
    · exact wf_u8 hn
    · exact hl x hx
theorem fitsE_u16 : ∀ {es : List (List RV)}, FitsE [.int .u16] es → ∃ l : List Int, es = l.map (fun x => [.it .u16 x]) ∧ ∀ x ∈ l, 0 ≤ x ∧ x ≤ 65535
  | [], _ => ⟨[], rfl, by simp⟩
  | e :: es, h => by
    simp only [FitsE, FitsL, Fits] at h
    obtain ⟨⟨y, ys, rfl, ⟨n, rfl, hn⟩, rfl⟩, h⟩ := h
    obtain ⟨l, rfl, hl⟩ := fitsE_u16 h
    refine ⟨n :: l, rfl, fun x hx => ?_⟩
    rcases List.mem_cons.1 hx with rfl | hx
    · exact wf_u16 hn
    · exact hl x hx
end Go.Oc

/- A meeting as an argument. -/
namespace Go.Proofs.Ytnklbfmdojpfkaa
open Go Go.Oc
theorem fitsE_bytes3 : ∀ {es : List (List RV)}, FitsE [.int .u8, .int .u8, .int .u8] es → ∃ gs : List (Int × Int × Int), es = gs.map (fun g => [byte g.1, byte g.2.1, byte g.2.2]) ∧ ∀ g ∈ gs, (0 ≤ g.1 ∧ g.1 ≤ 255) ∧ (0 ≤ g.2.1 ∧ g.2.1 ≤ 255) ∧ 0 ≤ g.2.2 ∧ g.2.2 ≤ 255
  | [], _ => ⟨[], rfl, by simp⟩
  | e :: es, h => by
    simp only [Oc.FitsE, Oc.FitsL, Oc.Fits] at h
    obtain ⟨⟨_, _, rfl, ⟨a, rfl, ha⟩, _, _, rfl, ⟨b, rfl, hb⟩, _, _, rfl, ⟨c, rfl, hc⟩, rfl⟩, h⟩ := h
    obtain ⟨gs, rfl, hg⟩ := fitsE_bytes3 h
    refine ⟨(a, b, c) :: gs, rfl, fun g hgm => ?_⟩
    rcases List.mem_cons.1 hgm with rfl | hgm
    · exact ⟨wf_u8 ha, wf_u8 hb, wf_u8 hc⟩
    · exact hg g hgm
theorem fits78 {x : RV} (h : FitsT Try.prog 9 78 x) : ∃ m, x = .ag (meetC m) ∧ MeetOk m := by
  obtain ⟨xs, rfl, hx⟩ := fitsT_ag (ss := [.int .u8, .int .u8, .sl [.int .u8, .int .u8, .int .u8], .sl [.int .u8], .int .u32, .int .u32]) h (by kernel_rfl) (by kernel_rfl)
  simp only [Oc.FitsL, Oc.Fits] at hx
  obtain ⟨_, _, rfl, ⟨a, rfl, ha⟩, _, _, rfl, ⟨b, rfl, hb⟩, _, _, rfl, ⟨es, rfl, hes⟩, _, _, rfl, ⟨fs, rfl, hfs⟩, _, _, rfl, ⟨c, rfl, hc⟩, _, _, rfl, ⟨d, rfl, hd⟩, rfl⟩ := hx
  obtain ⟨gs, rfl, hg⟩ := fitsE_bytes3 hes
  obtain ⟨ps, rfl, hp⟩ := fitsE_u8 hfs
  exact ⟨⟨a, b, gs, ps, c, d⟩, rfl, wf_u8 ha, wf_u8 hb, hg, hp, wf_u32 hc, wf_u32 hd⟩
end Go.Proofs.Ytnklbfmdojpfkaa

/- The law that closed orders bind returns true for all arguments of its types. -/
namespace Go.Proofs.Ytnklbfmdojpfkaa
open Go Go.Oc
theorem law8' {x0 x1 : RV} (h0 : FitsT Try.prog 9 78 x0) (h1 : FitsT Try.prog 9 75 x1) : ACalls Try.prog 8 [x0, x1] (.bo true) := by
  obtain ⟨m, rfl, hm⟩ := fits78 h0
  have h2 := fitsT_one (s := .int .u32) h1 (by kernel_rfl) (by kernel_rfl)
  simp only [Oc.Fits] at h2
  obtain ⟨c, rfl, hc⟩ := h2
  exact law8 m c hm (wf_u32 hc)
end Go.Proofs.Ytnklbfmdojpfkaa


namespace Go.Proofs.Ytnklbfmdojpfkaa
open Go Go.Oc Go.ChangeShapes Go.WideShapes Go.RowKit
set_option linter.unusedVariables false
theorem own : ownKnob Try.prog.godebug = none := by kernel_rfl
theorem laidOut : laidOutB Try.prog = true := by kernel_rfl
set_option maxRecDepth 100000 in
theorem lifted (os : Os) (started : os.Started) (H : Type) (enc : TypeId × Value → H) :
    ReturnsInHanded {} Try.checked os 8 .any (Rows.teamBindsSpec.pre6 enc Try.prog Try.f8 Rows.teamBindsRow.domain false) (Rows.teamBindsSpec.post enc Try.prog Try.f8 false true false false) := by
  refine returnsInHanded_of_change (C := Try.checked) own started (by kernel_rfl) Try.func8
    (ChangeSpec.witness6 (enc := enc) (C := Try.checked) false ⟨#[], #[.agg #[.int .u8 0, .int .u8 0, .slice none 0 0, .slice none 0 0, .int .u32 0, .int .u32 0], .int .u32 0], []⟩ 8 (by kernel_rfl) (by kernel_rfl) (by kernel_rfl) (by kernel_rfl)) ?_
  intro W base args ds gs before hval0 hW hcnd _
  have hval : ∀ (j : Nat) t v, Try.f8.params[j]? = some t → args[j]? = some v → Value.okWide Try.prog W .any base t v := hval0
  have hW' := hW
  obtain ⟨p, q, hA0, hV, rfl, hfz, hnd⟩ := hW
  have hA : DataW.TrodAll enc Try.prog W 0 (fun _ => true) true Try.f8.params.toList args.toList ds p := hA0
  rw [Try.params8] at hA hval
  obtain ⟨v0, vs0, d0, ds0, p0, q0, hargs, rfl, rfl, h0, r0⟩ := trodAll_cons hA
  obtain ⟨v1, vs1, d1, ds1, p1, q1, rfl, rfl, rfl, h1, r1⟩ := trodAll_cons r0
  obtain ⟨rfl, rfl, rfl⟩ := trodAll_nil r1
  obtain rfl : args = #[v0, v1] := by cases args; simp_all
  obtain ⟨rfl, rfl⟩ := trodVars_none hV
  have lt0 : ∀ x ∈ p0, x.block < W.heap.size := by obtain ⟨m, hm⟩ := h0; exact DataW.trod_lt m _ _ _ hm
  have lt1 : ∀ x ∈ p1, x.block < W.heap.size := by obtain ⟨m, hm⟩ := h1; exact DataW.trod_lt m _ _ _ hm
  obtain ⟨x0, g0, e0⟩ := arg_fits (n := 9) (by kernel_rfl) (hval 0 78 v0 rfl rfl) h0
  obtain ⟨x1, g1, e1⟩ := arg_fits (n := 9) (by kernel_rfl) (hval 1 75 v1 rfl rfl) h1
  clear hA0 hval0
  refine ((law8' g0 g1).2 W (old W) #[v0, v1] (fun _ h => h) (by simp only [RV.relV]; exact ⟨_, _, rfl, e0, _, _, rfl, e1, rfl⟩)).mono fun e W' he => ?_
  obtain ⟨v, R', rfl, bel, _, _, _, hr⟩ := he
  simp only [RV.rel] at hr
  subst hr
  exact ⟨_, rfl, _, _, _, [], _, [], hW', trodAll_mk1 (shut_bool Try.underlying4 _), (trodAll_cons_mk (Below.trod laidOut (by kernel_rfl) (of_decide_eq_true (by kernel_rfl)) h0 bel lt0) (trodAll_cons_mk (Below.trod laidOut (by kernel_rfl) (of_decide_eq_true (by kernel_rfl)) h1 bel lt1) trodAll_mk0)), rfl, bel.frame _, fun h => by cases h⟩
theorem over : Rows.teamBindsRow.holds Try.pinned (OpenSpec.ofChange Rows.teamBindsSpec) :=
  OpenClaim.holds_of_wide 8 Try.f8 rfl rfl rfl rfl rfl rfl rfl ⟨rfl, rfl, rfl, rfl, rfl⟩ rfl rfl rfl rfl rfl (by kernel_rfl) Try.func8 (by kernel_rfl)
    (of_decide_eq_true (by kernel_rfl)) (by unfold Func.isWrapper; first | (rw [if_pos (by decide +kernel)]; kernel_rfl) | (rw [if_neg (by decide +kernel)]; exact ⟨rfl, rfl⟩))
    (fun os started H enc _ => lifted os started H enc)
theorem teamBinds_holds : Rows.TeamBindsSaid := over
#print axioms teamBinds_holds
end Go.Proofs.Ytnklbfmdojpfkaa
