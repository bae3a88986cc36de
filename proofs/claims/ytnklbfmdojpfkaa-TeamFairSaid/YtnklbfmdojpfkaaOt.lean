/- Abstract states in a form that is always the same: slots and rows as lists by number; loops over such states. -/
import Derived.Test.YtnklbfmdojpfkaaOr
namespace Go.Oc
open Go Go.RowKit

def ins : List (Nat × AV) → Nat → AV → List (Nat × AV)
  | [], k, v => [(k, v)]
  | (j, u) :: l, k, v => if k = j then (k, v) :: l else if k < j then (k, v) :: (j, u) :: l else (j, u) :: ins l k v
def insc : List (Nat × RowC) → Nat → RowC → List (Nat × RowC)
  | [], k, v => [(k, v)]
  | (j, u) :: l, k, v => if k = j then (k, v) :: l else if k < j then (k, v) :: (j, u) :: l else (j, u) :: insc l k v
def delc : List (Nat × RowC) → Nat → List (Nat × RowC)
  | [], _ => []
  | (j, u) :: l, k => if k = j then delc l k else (j, u) :: delc l k
/-- The state with these slots, versions and rows. -/
def st (n : Nat) (l : List (Nat × AV)) (vs : Nat → Nat) (cs : List (Nat × RowC)) : AS := ⟨n, look l, fun k => ⟨vs k, lookc cs k⟩⟩

section
variable {n : Nat} {l : List (Nat × AV)} {vs : Nat → Nat} {cs : List (Nat × RowC)}
theorem look_nil {j : Nat} : look [] j = .r .un := rfl
theorem look_cons {k j : Nat} {v : AV} : look ((k, v) :: l) j = if j = k then v else look l j := rfl
theorem look_ins (k : Nat) (v : AV) (j : Nat) : look (ins l k v) j = if j = k then v else look l j := by
  induction l with
  | nil => rfl
  | cons p l ih =>
    obtain ⟨i, u⟩ := p
    unfold ins
    split
    · rename_i e; subst e
      simp only [look_cons]
      split <;> rfl
    · split
      · simp only [look_cons]
      · rename_i h1 h2
        simp only [look_cons, ih]
        by_cases e1 : j = i
        · have : ¬ j = k := by omega
          simp [e1]; omega
        · simp [e1]
theorem lookc_insc (k : Nat) (v : RowC) (j : Nat) : lookc (insc cs k v) j = if j = k then v else lookc cs j := by
  induction cs with
  | nil => rfl
  | cons p l ih =>
    obtain ⟨i, u⟩ := p
    unfold insc
    split
    · rename_i e; subst e
      simp only [lookc_cons]
      split <;> rfl
    · split
      · simp only [lookc_cons]
      · rename_i h1 h2
        simp only [lookc_cons, ih]
        by_cases e1 : j = i
        · have : ¬ j = k := by omega
          simp [e1]; omega
        · simp [e1]
theorem lookc_delc (k : Nat) (j : Nat) : lookc (delc cs k) j = if j = k then .dead else lookc cs j := by
  induction cs with
  | nil => simp [delc, lookc_nil]
  | cons p l ih =>
    obtain ⟨i, u⟩ := p
    unfold delc
    split
    · rename_i e; subst e
      rw [ih, lookc_cons]
      split <;> rfl
    · rename_i h1
      simp only [lookc_cons, ih]
      by_cases e1 : j = i
      · have : ¬ j = k := by omega
        simp [e1]; omega
      · simp [e1]

theorem put_st {k : Nat} {v : AV} : AS.put (st n l vs cs) (some k) v = st n ((k, v) :: l) vs cs := rfl
theorem tm_st {t : Nat} : (st n l vs cs).tm t = look l t := rfl
theorem n_st : (st n l vs cs).n = n := rfl
theorem evt_st {t : Nat} : AS.ev (st n l vs cs) (.tmp t) = look l t := rfl
theorem rows_st {k : Nat} : (st n l vs cs).rows k = ⟨vs k, lookc cs k⟩ := rfl
theorem ver_st {k : Nat} : (st n l vs cs).ver k = vs k := rfl
theorem app_st {d : Option Nat} {v : AV} {k m : Nat} {c : RowC} {e : List (Nat × Row)} : AS.app (st n l vs cs) d ⟨v, (k, ⟨m, c⟩) :: e⟩ = AS.app (st n l (upd vs k m) (insc cs k c)) d ⟨v, e⟩ := by
  have : (⟨n, look l, upd (fun k => ⟨vs k, lookc cs k⟩) k ⟨m, c⟩⟩ : AS) = st n l (upd vs k m) (insc cs k c) := by
    simp only [st, AS.mk.injEq, true_and]
    funext j
    rw [lookc_insc]
    unfold upd
    split <;> rfl
  rw [← this]
  cases d <;> rfl

theorem row_st {k m : Nat} {c : RowC} : AS.row (st n l vs cs) k ⟨m, c⟩ = st n l (upd vs k m) (insc cs k c) := by
  simp only [AS.row, st, AS.mk.injEq, true_and]
  funext j
  rw [lookc_insc]
  unfold upd
  split <;> rfl
theorem verf_st : (st n l vs cs).ver = vs := rfl
def backCs (ρ : List (Nat × Nat)) (ver : Nat → Nat) (L' : List (Nat × RowC)) : List (Nat × Nat) → List (Nat × RowC) → List (Nat × RowC)
  | [], cs => cs
  | (pk, ck) :: l, cs => backCs ρ ver L' l (insc cs ck (backC ρ ver (lookc L' pk)))
theorem backs_st {ρ : List (Nat × Nat)} {L' : List (Nat × RowC)} : (st n l vs cs).backs ρ L' = st n l vs (backCs ρ vs L' ρ cs) := by
  have : ∀ (q : List (Nat × Nat)) (cs : List (Nat × RowC)), backRows ρ vs L' q (fun k => ⟨vs k, lookc cs k⟩) = fun k => ⟨vs k, lookc (backCs ρ vs L' q cs) k⟩ := by
    intro q
    induction q with
    | nil => intro cs; rfl
    | cons x q ih =>
      intro cs
      obtain ⟨pk, ck⟩ := x
      simp only [backRows, backCs]
      rw [← ih]
      congr 1
      funext j
      rw [lookc_insc]
      unfold upd
      split
      · rename_i e; subst e; rfl
      · rfl
  show (⟨n, look l, backRows ρ vs L' ρ fun k => ⟨vs k, lookc cs k⟩⟩ : AS) = _
  rw [this]
  rfl
theorem xcall_mut {P : Program} {F : FuncId} {L L' : List (Nat × RowC)} {args caps : List AV} {r : AV} {d : Option Nat} {f : AV} {xs : List AV} {K : AS → Prop} (h : MCalls P F L L' args r) (ρ : List (Nat × Nat)) (hf : callee? f = some (F, caps))
    (hx : lendL ρ vs (xs ++ caps) = some args) (hl : lendOk ρ (st n l vs cs) ρ L) (ha : apart ρ = true) (hs : sameKeys ρ L' = true) (hK : K (AS.put (st n l vs (backCs ρ vs L' ρ cs)) d (backA ρ vs r))) : xcall P false (st n l vs cs) d f xs K := by
  refine .inr ⟨rfl, .inl ⟨F, caps, ρ, L, L', args, r, hf, hx, hl, ha, hs, h, ?_⟩⟩
  rw [backs_st]
  exact hK

theorem xcall_own {P : Program} {F : FuncId} {args : List RV} {caps : List AV} {t sz m dd : Nat} {es : List (List RV)} {f : AV} {xs : List AV} {K : AS → Prop} (h : OCalls P F args t sz es m) (hf : callee? f = some (F, caps))
    (hs : snapPL (st n l vs cs).rows (xs ++ caps)) (he : snapVL (st n l vs cs).rows (xs ++ caps) = args) (hd : dd < 1000) (hK : K (st n ((dd, .os dd (vs dd + 1) sz 0 m) :: l) (upd vs dd (vs dd + 1)) (insc cs dd (.arr t sz es)))) : xcall P false (st n l vs cs) (some dd) f xs K := by
  refine .inr ⟨rfl, .inr ⟨F, caps, args, t, sz, es, m, dd, hf, hs, he ▸ leL_refl _, h, rfl, hd, ?_⟩⟩
  rw [row_st, put_st]
  exact hK

/-! ### Less is known -/
def keepL (tm : Nat → AV) : List Nat → List (Nat × AV)
  | [] => []
  | k :: l => (k, tm k) :: keepL tm l
theorem keepL_mem {tm : Nat → AV} : ∀ {ks : List Nat}, ∀ p ∈ keepL tm ks, tm p.1 = p.2
  | [], p, h => by simp [keepL] at h
  | k :: ks, p, h => by
    simp only [keepL, List.mem_cons] at h
    rcases h with rfl | h
    · rfl
    · exact keepL_mem p h
theorem sub_keep (ks : List Nat) : Sub (st n l vs cs) (st n (keepL (look l) ks) vs cs) := sub_look _ keepL_mem
theorem sub_killc (k : Nat) (hk0 : k < 1000) : Sub (st n l vs cs) (st n l (upd vs k (vs k + 1)) (delc cs k)) := by
  have := sub_kill (st n l vs cs) k hk0
  have e : ({ st n l vs cs with rows := upd (st n l vs cs).rows k ⟨((st n l vs cs).rows k).ver + 1, .dead⟩ } : AS) = st n l (upd vs k (vs k + 1)) (delc cs k) := by
    simp only [st, AS.mk.injEq, true_and]
    funext j
    rw [lookc_delc]
    unfold upd
    split <;> rfl
  rwa [e] at this
def killV (vs : Nat → Nat) : List Nat → Nat → Nat
  | [] => vs
  | k :: ks => killV (upd vs k (vs k + 1)) ks
def killC (cs : List (Nat × RowC)) : List Nat → List (Nat × RowC)
  | [] => cs
  | k :: ks => killC (delc cs k) ks
def small : List Nat → Bool
  | [] => true
  | k :: ks => decide (k < 1000) && small ks
theorem sub_kills : ∀ (ks : List Nat) (vs : Nat → Nat) (cs : List (Nat × RowC)), small ks = true → Sub (st n l vs cs) (st n l (killV vs ks) (killC cs ks))
  | [], _, _, _ => Sub.refl _
  | k :: ks, _, _, h => by
    simp only [small, Bool.and_eq_true, decide_eq_true_eq] at h
    exact (sub_killc k h.1).trans (sub_kills ks _ _ h.2)
/-- A slice without elements gets a row of its own. -/
theorem sub_own (t k e sz : Nat) (hk0 : k < 1000) (h : look l t = .r .ns) : Sub (st n l vs cs) (st n (ins l t (.os k (vs k + 1) sz 0 0)) (upd vs k (vs k + 1)) (insc cs k (.arr e sz []))) := by
  have := sub_adopt (st n l vs cs) t k e sz hk0 h
  have e : ({ st n l vs cs with tm := upd (st n l vs cs).tm t (.os k (((st n l vs cs).rows k).ver + 1) sz 0 0), rows := upd (st n l vs cs).rows k ⟨((st n l vs cs).rows k).ver + 1, .arr e sz []⟩ } : AS)
      = st n (ins l t (.os k (vs k + 1) sz 0 0)) (upd vs k (vs k + 1)) (insc cs k (.arr e sz [])) := by
    simp only [st, AS.mk.injEq, true_and]
    constructor
    · funext j; rw [look_ins]; rfl
    · funext j
      rw [lookc_insc]
      unfold upd
      split <;> rfl
  rwa [e] at this

/-! ### Loops -/
def allEq (l : List (Nat × AV)) : List (Nat × AV) → Prop
  | [] => True
  | (k, v) :: r => look l k = v ∧ allEq l r
theorem allEq_mem : ∀ {r : List (Nat × AV)}, allEq l r → ∀ p ∈ r, look l p.1 = p.2
  | [], _, p, h => by simp at h
  | q :: r, h, p, hp => by
    simp only [List.mem_cons] at hp
    rcases hp with rfl | hp
    · exact h.1
    · exact allEq_mem h.2 p hp
/-- The state is one of these, for some versions. -/
def Fit (n : Nat) (F : (Nat → Nat) → List (Nat × AV)) (R : List (Nat × RowC)) (s : AS) : Prop := ∃ vs, Sub s (st n (F vs) vs R)
theorem fit_of (ks : List Nat) {F : (Nat → Nat) → List (Nat × AV)} {R : List (Nat × RowC)} (h1 : allEq l (F (killV vs ks))) (h2 : killC cs ks = R) (h3 : small ks = true := by rfl) : Fit n F R (st n l vs cs) := by
  refine ⟨killV vs ks, (sub_kills ks vs cs h3).trans ?_⟩
  subst h2
  exact sub_look _ (allEq_mem h1)
theorem awp_fit {P : Program} {C : Ctx} {c : Code} {Q : Exit → AS → Prop} {s : AS} {F : (Nat → Nat) → List (Nat × AV)} {R : List (Nat × RowC)} (h : Fit n F R s) (k : ∀ vs, awp P C c Q (st n (F vs) vs R)) : awp P C c Q s := by
  obtain ⟨vs, h⟩ := h
  exact awp_sub h (k vs)
/-- Paths meet again: behind c the state is told by z. -/
theorem awp_join {P : Program} {C : Ctx} {c d : Code} {Q Q1 : Exit → AS → Prop} {s : AS} {α : Type} (F : α → (Nat → Nat) → List (Nat × AV)) (R : α → List (Nat × RowC)) (I : α → Prop)
    (h0 : ∀ s, awp P C d Q1 s → Q .normal s) (h1 : awp P C c (andThen (fun s' => ∃ z, I z ∧ Fit n (F z) (R z) s') Q) s) (h2 : ∀ z vs, I z → awp P C d Q1 (st n (F z vs) vs (R z))) : awp P C c Q s := by
  refine awp_mono ?_ h1
  intro e s' hq
  cases e with
  | normal =>
    obtain ⟨z, hz, hf⟩ := hq
    exact h0 s' (awp_fit hf fun vs => h2 z vs hz)
  | _ => exact hq
/-- A loop whose state is told by x; I holds of x at each head, m goes down. -/
theorem awp_while {P : Program} {C : Ctx} {c : Code} {Q : Exit → AS → Prop} {s : AS} {α : Type} (F : α → (Nat → Nat) → List (Nat × AV)) (R : α → List (Nat × RowC)) (I : α → Prop) (m : α → Nat) (x0 : α)
    (h0 : Fit n (F x0) (R x0) s) (hI : I x0)
    (round : ∀ x vs, I x → awp P C c (andThen (fun s' => ∃ y, I y ∧ m y < m x ∧ Fit n (F y) (R y) s') Q) (st n (F x vs) vs (R x))) : awp P C (.loop c) Q s := by
  refine awp_loop (fun k s => ∃ x, I x ∧ m x = k ∧ Fit n (F x) (R x) s) (m x0) ⟨x0, hI, rfl, h0⟩ ?_
  rintro k s ⟨x, hx, rfl, vs, hs⟩
  refine awp_sub hs (awp_mono ?_ (round x vs hx))
  intro e s' hq
  cases e with
  | normal =>
    obtain ⟨y, hy, hlt, hf⟩ := hq
    exact ⟨m y, hlt, y, hy, rfl, hf⟩
  | _ => exact hq
/-- The same, counting up to N. -/
theorem awp_upto {P : Program} {C : Ctx} {c : Code} {Q : Exit → AS → Prop} {s : AS} (N : Nat) (F : Nat → (Nat → Nat) → List (Nat × AV)) (R : Nat → List (Nat × RowC)) (I : Nat → Prop) (i0 : Nat)
    (h0 : Fit n (F i0) (R i0) s) (hi : i0 ≤ N) (hI : I i0)
    (round : ∀ i vs, i ≤ N → I i → awp P C c (andThen (fun s' => i < N ∧ I (i + 1) ∧ Fit n (F (i + 1)) (R (i + 1)) s') Q) (st n (F i vs) vs (R i))) : awp P C (.loop c) Q s := by
  refine awp_while F R (fun i => i ≤ N ∧ I i) (fun i => N - i) i0 h0 ⟨hi, hI⟩ ?_
  rintro i vs ⟨hi, hI⟩
  refine awp_mono ?_ (round i vs hi hI)
  intro e s' hq
  cases e with
  | normal =>
    obtain ⟨h1, h2, h3⟩ := hq
    exact ⟨i + 1, ⟨h1, h2⟩, by omega, h3⟩
  | _ => exact hq

/-! ### Functions -/
def argL : Nat → List RV → List (Nat × AV)
  | _, [] => []
  | k, x :: xs => (k, .r x) :: argL (k + 1) xs
theorem argL_mem : ∀ {k : Nat} {xs : List RV}, ∀ p ∈ argL k xs, ∃ i x, p = (k + i, .r x) ∧ xs[i]? = some x
  | k, [], p, h => by simp [argL] at h
  | k, x :: xs, p, h => by
    simp only [argL, List.mem_cons] at h
    rcases h with rfl | h
    · exact ⟨0, x, rfl, rfl⟩
    · obtain ⟨i, y, rfl, e⟩ := argL_mem p h
      exact ⟨i + 1, y, by rw [Nat.add_right_comm, Nat.add_assoc], by simpa using e⟩
/-- What the body must come to; the results are named. -/
def fpostL (P : Program) (res : List ResultVar) (rs : List RV) : Exit → AS → Prop
  | .normal, s => resOk P s res rs
  | .ret, s => resOk P s res rs
  | _, _ => False
theorem argL_look : ∀ {k : Nat} {xs : List RV} {j : Nat} {x : RV}, xs[j]? = some x → look (argL k xs) (k + j) = .r x
  | k, [], j, x, h => by simp at h
  | k, y :: xs, j, x, h => by
    simp only [argL, look_cons]
    cases j with
    | zero => simp at h; subst h; simp
    | succ j =>
      have : ¬ k + (j + 1) = k := by omega
      simp only [this, if_false]
      rw [show k + (j + 1) = k + 1 + j from by omega]
      exact argL_look (by simpa using h)
theorem look_none {l : List (Nat × AV)} {t : Nat} (h : ¬ ∃ x, (t, x) ∈ l) : look l t = .r .un := by
  induction l with
  | nil => rfl
  | cons q l ih =>
    obtain ⟨k, v⟩ := q
    simp only [look_cons]
    by_cases e : t = k
    · subst e; exact absurd ⟨v, by simp⟩ h
    · simp only [e, if_false]
      exact ih (fun ⟨x, hx⟩ => h ⟨x, by simp [hx]⟩)
theorem acalls_st {P : Program} {f : FuncId} {fn : Func} {c : Code} {n : Nat} {args rs : List RV} {r : RV} (res : List ResultVar) (hf : P.funcs[f]? = some fn) (hb : fn.body = some c) (hc : callable P f = true) (hn : fn.ntmps = n) (hres : fn.results.toList = res) (hargs : args.length ≤ n) (hr : resV rs = r)
    (h : ∀ C vs, awp P C c (fpostL P res rs) (st n (argL 0 args) vs [])) : ACalls P f args r :=
  acalls_of hf hb hc hn hargs hr fun C => awp_sub (sub_look _ fun p hp => by
    obtain ⟨i, x, rfl, e⟩ := argL_mem p hp
    simp only [argTm, Nat.zero_add, e]) (awp_mono (fun e s h => by subst hres; cases e <;> exact h) (h C fun _ => 0))

/-! ### Functions that write -/
def keyIn : List (Nat × RowC) → Nat → Bool
  | [], _ => false
  | (k, _) :: L, j => if j = k then true else keyIn L j
/-- A cell as it is left: own slices are handed over as plain data. -/
def frz1 (ks : List (Nat × RowC)) (rows : Nat → Row) : AV → AV
  | .r v => .r v
  | .os j n sz off m => if keyIn ks j then .os j n sz off m else .r (snap1V rows (.os j n sz off m))
  | .pt j n off => if keyIn ks j then .pt j n off else .r .un
  | .pe j n sz idx off => if keyIn ks j then .pe j n sz idx off else .r .un
  | .mp j n => if keyIn ks j then .mp j n else .r .un
  | _ => .r .un
def frzP1 (ks : List (Nat × RowC)) (rows : Nat → Row) : AV → Prop
  | .os j n sz off m => if keyIn ks j then True else (j < 1000 ∧ snap1P rows (.os j n sz off m))
  | _ => True
def frzL (ks : List (Nat × RowC)) (rows : Nat → Row) : List AV → List AV
  | [] => []
  | x :: xs => frz1 ks rows x :: frzL ks rows xs
def frzPL (ks : List (Nat × RowC)) (rows : Nat → Row) : List AV → Prop
  | [] => True
  | x :: xs => frzP1 ks rows x ∧ frzPL ks rows xs
def frzC (ks : List (Nat × RowC)) (rows : Nat → Row) : RowC → RowC
  | .box cs => .box (frzL ks rows cs)
  | .arr t sz es => .arr t sz es
  | .mp m => .mp m
  | _ => .dead
def frzPC (ks : List (Nat × RowC)) (rows : Nat → Row) : RowC → Prop
  | .box cs => frzPL ks rows cs
  | _ => True
def mfin (ks : List (Nat × RowC)) (rows : Nat → Row) : List (Nat × RowC) → List (Nat × RowC) → Prop
  | [], [] => True
  | (k, _) :: L, (k', c') :: L' => k' = k ∧ okC (rows k).c = true ∧ frzPC ks rows (rows k).c ∧ frzC ks rows (rows k).c = c' ∧ mfin ks rows L L'
  | _, _ => False
def pinned : List (Nat × RowC) → Bool
  | [] => true
  | (k, c) :: L => decide (1000 ≤ k) && okC c && !keyIn L k && pinned L
def resM (P : Program) (ks : List (Nat × RowC)) (s : AS) : List ResultVar → List AV → Prop
  | [], rs => rs = []
  | v :: vs, rs => (resA P s v).pre ∧ frzP1 ks s.rows (resA P s v).y.av ∧ ∃ rs', rs = frz1 ks s.rows (resA P s v).y.av :: rs' ∧ resM P ks s vs rs'
def resMV : List AV → AV
  | [r] => r
  | rs => .tu rs
/-- What the body must come to. -/
def mpostL (P : Program) (res : List ResultVar) (rs : List AV) (L L' : List (Nat × RowC)) : Exit → AS → Prop
  | .normal, s => resM P L s res rs ∧ mfin L s.rows L L'
  | .ret, s => resM P L s res rs ∧ mfin L s.rows L L'
  | _, _ => False
theorem mpostL_normal {P : Program} {s : AS} {us : List ResultVar} {rs : List AV} {L L' : List (Nat × RowC)} : mpostL P us rs L L' .normal s = (resM P L s us rs ∧ mfin L s.rows L L') := rfl
theorem mpostL_ret {P : Program} {s : AS} {us : List ResultVar} {rs : List AV} {L L' : List (Nat × RowC)} : mpostL P us rs L L' .ret s = (resM P L s us rs ∧ mfin L s.rows L L') := rfl
def argA : Nat → List AV → List (Nat × AV)
  | _, [] => []
  | k, x :: xs => (k, x) :: argA (k + 1) xs
theorem argA_look : ∀ {k : Nat} {xs : List AV} {j : Nat}, look (argA k xs) j = if k ≤ j then (xs[j - k]?).getD (.r .un) else .r .un
  | k, [], j => by simp [argA, look_nil]
  | k, x :: xs, j => by
    simp only [argA, look_cons, argA_look]
    by_cases e : j = k
    · subst e; simp
    · by_cases e2 : k ≤ j
      · have h1 : k + 1 ≤ j := by omega
        simp only [e, if_false, h1, e2, if_true]
        rw [show j - k = (j - (k + 1)) + 1 from by omega]
        simp
      · have h1 : ¬ k + 1 ≤ j := by omega
        simp [e, h1, e2]
theorem lookc_not {L : List (Nat × RowC)} {k : Nat} (h : keyIn L k = false) : lookc L k = .dead := by
  induction L with
  | nil => rfl
  | cons x L ih =>
    obtain ⟨j, c⟩ := x
    simp only [keyIn] at h
    simp only [lookc_cons]
    split at h
    · cases h
    · rename_i e; simp only [e, if_false]; exact ih h
theorem pinned_ge {L : List (Nat × RowC)} (h : pinned L = true) {k : Nat} (hk : keyIn L k = true) : 1000 ≤ k ∧ okC (lookc L k) = true := by
  induction L with
  | nil => simp [keyIn] at hk
  | cons x L ih =>
    obtain ⟨j, c⟩ := x
    simp only [pinned, Bool.and_eq_true, decide_eq_true_eq] at h
    simp only [keyIn] at hk
    simp only [lookc_cons]
    split at hk
    · rename_i e; subst e; simp only [if_true]; exact ⟨h.1.1.1, h.1.1.2⟩
    · rename_i e; simp only [e, if_false]; exact ih h.2 hk
theorem mfin_get {ks : List (Nat × RowC)} {rows : Nat → Row} : ∀ {L L' : List (Nat × RowC)}, mfin ks rows L L' → (∀ k, keyIn L k = true → okC (rows k).c = true ∧ frzPC ks rows (rows k).c ∧ lookc L' k = frzC ks rows (rows k).c) ∧ ∀ k, keyIn L k = false → lookc L' k = .dead
  | [], [], _ => ⟨fun _ h => by simp [keyIn] at h, fun _ _ => rfl⟩
  | [], _ :: _, h => by simp [mfin] at h
  | _ :: _, [], h => by simp [mfin] at h
  | (k, c) :: L, (k', c') :: L', h => by
    simp only [mfin] at h
    obtain ⟨rfl, h1, h2, h3, h4⟩ := h
    obtain ⟨g1, g2⟩ := mfin_get h4
    refine ⟨fun j hj => ?_, fun j hj => ?_⟩
    · simp only [keyIn] at hj
      simp only [lookc_cons]
      by_cases e : j = k'
      · subst e; simp only [if_true]; exact ⟨h1, h2, h3.symm⟩
      · simp only [e, if_false] at hj ⊢; exact g1 j hj
    · simp only [keyIn] at hj
      simp only [lookc_cons]
      by_cases e : j = k'
      · simp [e] at hj
      · simp only [e, if_false] at hj ⊢; exact g2 j hj

section
variable {P : Program} {C : Ctx} {p p0 : Plan} {s : AS} {a : Act} {w : World}
theorem frz_rel (h : SR C p s a w) {L : List (Nat × RowC)} (hpin : ∀ k, keyIn L k = true → p.β k = p0.β k ∧ p.γ k = p0.γ k ∧ s.ver k = 0) {R' : Nat → Prop} (hR : ∀ b, p.R b → R' b) (hR2 : ∀ j b, j < 1000 → p.β j = some b → R' b)
    {x : AV} {v : Value} (hp : frzP1 L s.rows x) (hv : x.rel w p s.ver v) : (frz1 L s.rows x).rel w { p0 with R := R' } (fun _ => 0) v := by
  have un : ∀ {x : AV}, x = .r .un → x.rel w { p0 with R := R' } (fun _ => 0) v := fun e => by rw [e]; exact AV.rel_un _ _ _ _
  cases x with
  | r x =>
    simp only [AV.rel] at hv
    simp only [frz1, AV.rel]
    exact RV.rel_mono hR (fun _ _ => rfl) _ _ hv
  | os j n sz off m =>
    simp only [frz1]
    simp only [frzP1] at hp
    split
    · rename_i hk
      obtain ⟨h1, h2, h3⟩ := hpin j hk
      simp only [AV.rel] at hv ⊢
      rw [h1, h2, h3] at hv
      exact hv
    · rename_i hk
      rw [if_neg hk] at hp
      simp only [AV.rel]
      exact snap_os h hp.2.1 hp.2.2 hv hR (fun b hb => hR2 j b hp.1 hb)
  | pt j n off =>
    simp only [frz1]
    split
    · rename_i hk
      obtain ⟨h1, h2, h3⟩ := hpin j hk
      simp only [AV.rel] at hv ⊢
      rw [h1, h3] at hv
      exact hv
    · exact AV.rel_un _ _ _ _
  | pe j n sz idx off =>
    simp only [frz1]
    split
    · rename_i hk
      obtain ⟨h1, h2, h3⟩ := hpin j hk
      simp only [AV.rel] at hv ⊢
      rw [h1, h3] at hv
      exact hv
    · exact AV.rel_un _ _ _ _
  | mp j n =>
    simp only [frz1]
    split
    · rename_i hk
      obtain ⟨h1, h2, h3⟩ := hpin j hk
      simp only [AV.rel] at hv ⊢
      rw [h1, h3] at hv
      exact hv
    · exact AV.rel_un _ _ _ _
  | _ => exact AV.rel_un _ _ _ _
theorem frz_relV (h : SR C p s a w) {L : List (Nat × RowC)} (hpin : ∀ k, keyIn L k = true → p.β k = p0.β k ∧ p.γ k = p0.γ k ∧ s.ver k = 0) {R' : Nat → Prop} (hR : ∀ b, p.R b → R' b) (hR2 : ∀ j b, j < 1000 → p.β j = some b → R' b) :
    ∀ {xs : List AV} {vs : List Value}, frzPL L s.rows xs → AV.relV w p s.ver xs vs → AV.relV w { p0 with R := R' } (fun _ => 0) (frzL L s.rows xs) vs
  | [], _, _, hV => by simp only [AV.relV] at hV; simp only [frzL, AV.relV]; exact hV
  | x :: xs, _, hp, hV => by
    simp only [frzPL] at hp
    simp only [AV.relV] at hV
    obtain ⟨u, us, e, h1, h2⟩ := hV
    simp only [frzL, AV.relV]
    exact ⟨u, us, e, frz_rel h hpin hR hR2 hp.1 h1, frz_relV h hpin hR hR2 hp.2 h2⟩

theorem run_resML (h : SR C p s a w) {L : List (Nat × RowC)} (hpin : ∀ k, keyIn L k = true → p.β k = p0.β k ∧ p.γ k = p0.γ k ∧ s.ver k = 0) {R' : Nat → Prop} (hR : ∀ b, p.R b → R' b) (hR2 : ∀ j b, j < 1000 → p.β j = some b → R' b) :
    ∀ (vs : List ResultVar) (rs : List AV), resM P L s vs rs → ∃ us, (vs.mapM (resOp a.tmps)).run P w = .ok us w ∧ AV.relV w { p0 with R := R' } (fun _ => 0) rs us
  | [], rs, hm => by simp only [resM] at hm; subst hm; exact ⟨[], rfl, by simp [AV.relV]⟩
  | v :: vs, rs, hm => by
    obtain ⟨hp, hf, rs', rfl, hrest⟩ := hm
    obtain ⟨u, hu, hrel⟩ := run_result h v hp
    obtain ⟨us, hus, hV⟩ := run_resML h hpin hR hR2 vs rs' hrest
    refine ⟨u :: us, ?_, by simp only [AV.relV]; exact ⟨u, us, rfl, frz_rel h hpin hR hR2 hf hrel, hV⟩⟩
    simp only [List.mapM_cons, Sem.run_bind, hu, Result.andThen_ok, hus, Sem.run_pure]
theorem run_resM (h : SR C p s a w) {L : List (Nat × RowC)} (hpin : ∀ k, keyIn L k = true → p.β k = p0.β k ∧ p.γ k = p0.γ k ∧ s.ver k = 0) {R' : Nat → Prop} (hR : ∀ b, p.R b → R' b) (hR2 : ∀ j b, j < 1000 → p.β j = some b → R' b)
    {fn : Func} {rs : List AV} (hm : resM P L s fn.results.toList rs) : ∃ v, (results fn a.tmps).run P w = .ok v w ∧ (resMV rs).rel w { p0 with R := R' } (fun _ => 0) v := by
  obtain ⟨us, hus, hV⟩ := run_resML h hpin hR hR2 _ _ hm
  have hm : (fn.results.mapM (resOp a.tmps)).run P w = .ok us.toArray w := by
    rw [Array.mapM_eq_mapM_toList]
    simp only [Sem.run_map, hus, Result.andThen_ok]
  have hl := AV.relV_length hV
  refine ⟨if h : us.toArray.size = 1 then us.toArray[0] else .tuple us.toArray, ?_, ?_⟩
  · rw [results_eq, Sem.run_bind, hm]
    simp only [Result.andThen_ok, Sem.run_pure]
  · match rs, us, hl, hV with
    | [r], [u], _, hV =>
      simp only [AV.relV] at hV
      obtain ⟨u', us', e, h1, _⟩ := hV
      injection e with e1 e2
      subst e1
      simpa [resMV] using h1
    | [], us, hl, hV =>
      have : us = [] := List.eq_nil_of_length_eq_zero (by simpa using hl)
      subst this
      simp only [resMV, AV.rel]
      exact ⟨#[], rfl, hV⟩
    | r1 :: r2 :: rs, us, hl, hV =>
      have : ¬ us.toArray.size = 1 := by simp at hl ⊢; omega
      rw [dif_neg this]
      simp only [resMV, AV.rel]
      exact ⟨us.toArray, rfl, hV⟩
/-- **The contract of a function that writes, out of its body.** -/
theorem mcalls_st {f : FuncId} {fn : Func} {c : Code} {n : Nat} {rs : List AV} {r : AV} {args : List AV} (L L' : List (Nat × RowC)) (res : List ResultVar) (hf : P.funcs[f]? = some fn) (hb : fn.body = some c) (hc : callable P f = true) (hn : fn.ntmps = n) (hres : fn.results.toList = res)
    (hargs : args.length ≤ n) (hr : resMV rs = r) (hL : pinned L = true) (h : ∀ C, awp P C c (mpostL P res rs L L') (st n (argA 0 args) (fun _ => 0) L)) : MCalls P f L L' args r := by
  refine ⟨hc, fun w p vs hR hβ hij hγ hrows hV => ?_⟩
  have hlen := AV.relV_length hV
  simp only [Array.length_toList] at hlen
  let C : Ctx := ⟨w, p.R, fun b => ∃ k, p.β k = some b, fun k => if keyIn L k then some (p.β k, p.γ k) else none⟩
  have hs : SR C p (st n (argA 0 args) (fun _ => 0) L) { tmps := vs ++ Array.replicate (fn.ntmps - vs.size) undef, defers := [] } w := {
    base := ⟨rfl, rfl, rfl, Nat.le_refl _, fun _ _ _ => rfl⟩
    r0 := fun _ h => h
    rn := fun _ h => .inl h
    rb := hR
    tm := fun t => by
      show (look (argA 0 args) t).rel _ _ _ _
      rw [argA_look, if_pos (Nat.zero_le _), Nat.sub_zero]
      cases e : args[t]? with
      | none => exact AV.rel_un _ _ _ _
      | some x =>
        obtain ⟨u, hu, hx⟩ := AV.relV_get hV e
        have : (vs ++ Array.replicate (fn.ntmps - vs.size) undef).getD t undef = u := by
          have ht : t < vs.size := by have := (List.getElem?_eq_some_iff.1 hu).1; simpa using this
          rw [Array.getD_eq_getD_getElem?, Array.getElem?_append_left ht]
          simp only [Array.getElem?_toList] at hu
          rw [hu]; rfl
        rw [this]
        exact hx
    sz := by simp only [Array.size_append, Array.size_replicate, st]; omega
    df := rfl
    rw := hrows
    bl := fun k b h => ⟨(hβ k b h).1, (hβ k b h).2, .inr ⟨by
      cases hk : keyIn L k with
      | true => exact (pinned_ge hL hk).1
      | false =>
        have hr := hrows k
        rw [lookc_not hk] at hr
        simp only [rowRel] at hr
        exact absurd (hr.1.symm.trans h) (by simp), k, h⟩⟩
    ij := hij
    cap := hγ
    pn := fun k x hx => by
      have hx' : (if keyIn L k then some (p.β k, p.γ k) else none) = some x := hx
      split at hx'
      · rename_i hk
        injection hx' with hx'
        subst hx'
        exact ⟨rfl, rfl, rfl, (pinned_ge hL hk).1⟩
      · cases hx'
    lk := fun j km n l cur hj _ => by
      have hj' : lookc L j = .mi km n l cur := hj
      cases hk : keyIn L j with
      | true => have := (pinned_ge hL hk).2; rw [hj'] at this; simp [okC] at this
      | false => rw [lookc_not hk] at hj'; cases hj' }
  refine calls_of_wp hf hb (wp_mono (h C _ w ⟨p, hs⟩) ?_)
  rintro e a' w' ⟨s', ⟨p', hs'⟩, hq⟩
  have fin : resM P L s' fn.results.toList rs ∧ mfin L s'.rows L L' → ∃ v, (results fn a'.tmps).run P w' = .ok v w' ∧ ∃ v' R', Ending.returned v = .returned v' ∧ (w'.os = w.os ∧ w'.tape = w.tape ∧ w'.output = w.output ∧ w.heap.size ≤ w'.heap.size) ∧
      (∀ k, k < w.heap.size → (∀ j, p.β j ≠ some k) → w'.heap[k]? = w.heap[k]?) ∧ (∀ b, p.R b → R' b) ∧ (∀ b, R' b → p.R b ∨ w.heap.size ≤ b) ∧ (∀ b, R' b → b < w'.heap.size) ∧
      (∀ k, rowRel w' { p with R := R' } (fun _ => 0) k (lookc L' k)) ∧ r.rel w' { p with R := R' } (fun _ => 0) v' := fun ⟨hres, hm⟩ => by
    have hpin : ∀ k, keyIn L k = true → p'.β k = p.β k ∧ p'.γ k = p.γ k ∧ s'.ver k = 0 := fun k hk => by
      obtain ⟨h1, h2, h3, _⟩ := hs'.pn k (p.β k, p.γ k) (by show (if keyIn L k then some (p.β k, p.γ k) else none) = _; rw [if_pos hk])
      exact ⟨h1, h2, h3⟩
    have hnew : ∀ j b, j < 1000 → p'.β j = some b → w.heap.size ≤ b := fun j b hj hb => by
      rcases (hs'.bl j b hb).2.2 with h1 | ⟨_, k, hk⟩
      · exact h1
      · exfalso
        cases hkk : keyIn L k with
        | true =>
          have h2 := (hpin k hkk).1.trans hk
          have := hs'.ij j k b hb h2
          have := (pinned_ge hL hkk).1
          omega
        | false =>
          have h2 := hrows k
          rw [lookc_not hkk] at h2
          simp only [rowRel] at h2
          rw [h2.1] at hk; cases hk
    obtain ⟨v, hv, hrel⟩ := run_resM (p0 := p) hs' hpin (R' := fun b => p'.R b ∨ ∃ j, j < 1000 ∧ p'.β j = some b) (fun _ h => .inl h) (fun j b hj hb => .inr ⟨j, hj, hb⟩) hres
    rw [hr] at hrel
    refine ⟨v, hv, v, fun b => p'.R b ∨ ∃ j, j < 1000 ∧ p'.β j = some b, rfl, ⟨hs'.base.os, hs'.base.tape, hs'.base.output, hs'.base.size⟩, fun k hk hn => hs'.base.block k hk (fun ⟨j, hj⟩ => hn j hj), fun b hb => .inl (hs'.r0 b hb), fun b hb => ?_, fun b hb => ?_, fun k => ?_, hrel⟩
    · rcases hb with hb | ⟨j, hj, hb⟩
      · exact hs'.rn b hb
      · exact .inr (hnew j b hj hb)
    · rcases hb with hb | ⟨j, hj, hb⟩
      · exact hs'.rb b hb
      · exact (hs'.bl j b hb).1
    · obtain ⟨g1, g2⟩ := mfin_get hm
      cases hk : keyIn L k with
      | false =>
        rw [g2 k hk]
        have h2 := hrows k
        rw [lookc_not hk] at h2
        simp only [rowRel] at h2 ⊢
        exact h2
      | true =>
        obtain ⟨q1, q2, q3⟩ := g1 k hk
        obtain ⟨h1, h2, h3⟩ := hpin k hk
        rw [q3]
        have hr := hs'.rw k
        have hR1 : ∀ b, p'.R b → (p'.R b ∨ ∃ j, j < 1000 ∧ p'.β j = some b) := fun _ h => .inl h
        cases hcc : (s'.rows k).c with
        | box cs =>
          rw [hcc] at hr q2
          simp only [rowRel] at hr
          simp only [frzC, rowRel]
          obtain ⟨b, cells, t, e1, e2, e3, e4⟩ := hr
          exact ⟨b, cells, t, h1.symm.trans e1, e2, frz_relV (p0 := p) hs' hpin hR1 (fun j b hj hb => .inr ⟨j, hj, hb⟩) q2 e3, e4⟩
        | arr t sz es =>
          rw [hcc] at hr
          simp only [rowRel] at hr
          simp only [frzC, rowRel]
          rw [h1, h2] at hr
          refine hr.imp id ?_
          rintro ⟨b, cells, e1, e2, e3, e4, e5⟩
          exact ⟨b, cells, e1, e2, e3, e4, RV.relE_mono hR1 (fun _ _ => rfl) _ _ _ _ (fun _ => rfl) e5⟩
        | mp m =>
          rw [hcc] at hr
          simp only [rowRel] at hr
          simp only [frzC, rowRel]
          rw [h1] at hr
          obtain ⟨b, e1, e2⟩ := hr
          exact ⟨b, e1, mapRel_mono hR1 (fun _ _ => rfl) rfl e2⟩
        | _ => rw [hcc] at q1; simp [okC] at q1
  subst hres
  cases e with
  | normal => exact ⟨hs'.df, fin hq⟩
  | ret => exact ⟨hs'.df, fin hq⟩
  | _ => exact hq.elim
end

/-! ### Functions that return a slice of their own -/
def resC (r : Res) (K : AV → Prop) : Prop := r.pre ∧ K r.y.av
def opostL (P : Program) (rv : ResultVar) (t sz : Nat) (es : List (List RV)) (m : Nat) : Exit → AS → Prop
  | .normal, s => resC (resA P s rv) fun v => ∃ j n, v = .os j n sz 0 m ∧ s.rows j = ⟨n, .arr t sz es⟩
  | .ret, s => resC (resA P s rv) fun v => ∃ j n, v = .os j n sz 0 m ∧ s.rows j = ⟨n, .arr t sz es⟩
  | _, _ => False
theorem opostL_ret {P : Program} {rv : ResultVar} {t sz m : Nat} {es : List (List RV)} {s : AS} : opostL P rv t sz es m .ret s = resC (resA P s rv) fun v => ∃ j n, v = .os j n sz 0 m ∧ s.rows j = ⟨n, .arr t sz es⟩ := rfl
theorem opostL_normal {P : Program} {rv : ResultVar} {t sz m : Nat} {es : List (List RV)} {s : AS} : opostL P rv t sz es m .normal s = resC (resA P s rv) fun v => ∃ j n, v = .os j n sz 0 m ∧ s.rows j = ⟨n, .arr t sz es⟩ := rfl
theorem resA_tmp {P : Program} {t : Nat} {s : AS} : resA P s (.tmp t) = .val (s.tm t) := rfl
theorem resA_cell {P : Program} {t a : Nat} {s : AS} : resA P s (.cell a t) = sLoad P s t (s.tm a) := rfl
theorem flat_relC {w : World} {R R' : Nat → Prop} : ∀ (xs : List RV) (ad : Addr) (j : Nat), RV.flatL xs = true → RV.relC w R xs ad j → RV.relC w R' xs ad j
  | [], _, _, _, _ => by simp [RV.relC]
  | x :: xs, ad, j, hf, h => by
    simp only [RV.flatL, Bool.and_eq_true] at hf
    simp only [RV.relC] at h ⊢
    obtain ⟨⟨u, h1, h2, h3⟩, h4⟩ := h
    exact ⟨⟨u, h1, h2, flat_rel x u hf.1 h3⟩, flat_relC xs ad (j + 1) hf.2 h4⟩
theorem flat_relE {w : World} {R R' : Nat → Prop} {sz : Nat} : ∀ (es : List (List RV)) (ad : Addr) (j : Nat), (∀ e ∈ es, RV.flatL e = true) → RV.relE w R sz es ad j → RV.relE w R' sz es ad j
  | [], _, _, _, _ => by simp [RV.relE]
  | e :: es, ad, j, hf, h => by
    simp only [RV.relE] at h ⊢
    exact ⟨h.1, flat_relC e ad j (hf e (by simp)) h.2.1, flat_relE es ad (j + sz) (fun x hx => hf x (by simp [hx])) h.2.2⟩
theorem ocalls_0 {P : Program} {f : FuncId} {fn : Func} {c : Code} {n : Nat} {args : List RV} {t sz m : Nat} {es : List (List RV)} (rv : ResultVar) (hf : P.funcs[f]? = some fn) (hb : fn.body = some c) (hc : callable P f = true) (hn : fn.ntmps = n) (hres : fn.results.toList = [rv]) (hargs : args.length ≤ n)
    (hfl : ∀ e ∈ es, RV.flatL e = true) (h : ∀ C, awp P C c (opostL P rv t sz es m) (st n (argL 0 args) (fun _ => 0) [])) : OCalls P f args t sz es m := by
  refine ⟨hc, fun w R vs hR hV => ?_⟩
  have hlen := RV.relV_length hV
  simp only [Array.length_toList] at hlen
  let C : Ctx := ⟨w, R, fun _ => False, fun _ => none⟩
  let p : Plan := ⟨R, fun _ => none, fun _ => 1⟩
  have hs : SR C p (st n (argL 0 args) (fun _ => 0) []) { tmps := vs ++ Array.replicate (fn.ntmps - vs.size) undef, defers := [] } w := {
    base := ⟨rfl, rfl, rfl, Nat.le_refl _, fun _ _ _ => rfl⟩
    r0 := fun _ h => h
    rn := fun _ h => .inl h
    rb := hR
    tm := fun t => by
      show (look (argL 0 args) t).rel _ _ _ _
      by_cases hmem : ∃ x, (t, x) ∈ argL 0 args
      · cases e : args[t]? with
        | none =>
          obtain ⟨x, hx⟩ := hmem
          obtain ⟨i, y, h1, h2⟩ := argL_mem _ hx
          simp only [Nat.zero_add, Prod.mk.injEq] at h1
          rw [← h1.1, e] at h2; cases h2
        | some x =>
          obtain ⟨u, hu, hx⟩ := RV.relV_get hV e
          have : (vs ++ Array.replicate (fn.ntmps - vs.size) undef).getD t undef = u := by
            have ht : t < vs.size := by have := (List.getElem?_eq_some_iff.1 hu).1; simpa using this
            rw [Array.getD_eq_getD_getElem?, Array.getElem?_append_left ht]
            simp only [Array.getElem?_toList] at hu
            rw [hu]; rfl
          have e2 := argL_look (k := 0) e
          rw [Nat.zero_add] at e2
          rw [this, e2]
          simpa only [AV.rel] using hx
      · rw [look_none hmem]
        exact AV.rel_un _ _ _ _
    sz := by simp only [Array.size_append, Array.size_replicate, st]; omega
    df := rfl
    rw := fun k => by simp [st, lookc_nil, rowRel, p]
    bl := fun k b h => by simp [p] at h
    ij := fun k k' b h => by simp [p] at h
    cap := fun k => by simp [p, maxLen]
    pn := fun k x h => by cases h
    lk := fun j km n l cur h _ => by cases h }
  refine calls_of_wp hf hb (wp_mono (h C _ w ⟨p, hs⟩) ?_)
  rintro e a' w' ⟨s', ⟨p', hs'⟩, hq⟩
  have fin : (resC (resA P s' rv) fun v => ∃ j n, v = .os j n sz 0 m ∧ s'.rows j = ⟨n, .arr t sz es⟩) → ∃ v, (results fn a'.tmps).run P w' = .ok v w' ∧ ∃ v' β g, Ending.returned v = .returned v' ∧ Below w.heap.size w w' ∧ g ≤ maxLen ∧ (∀ b, β = some b → w.heap.size ≤ b ∧ b < w'.heap.size) ∧
      ((β = none ∧ es = [] ∧ g = 0 ∧ m = 0 ∧ ∃ A, v' = .slice A 0 0) ∨
        ∃ b cells A, β = some b ∧ w'.heap[b]? = some (.cells cells t (0, 0)) ∧ cells.size = g * sz ∧ es.length ≤ g ∧ RV.relE w' (fun _ => False) sz es ⟨b, 0, none⟩ 0 ∧ v' = .slice A m g ∧ m ≤ g ∧ A = some ⟨b, 0, none⟩) := fun ⟨hp, j, n', hv, hj⟩ => by
    obtain ⟨u, hu, hrel⟩ := run_result hs' rv hp
    rw [hv] at hrel
    have hm : (fn.results.mapM (resOp a'.tmps)).run P w' = .ok #[u] w' := by
      rw [Array.mapM_eq_mapM_toList, hres]
      simp only [Sem.run_map, List.mapM_cons, List.mapM_nil, Sem.run_bind, hu, Result.andThen_ok, Sem.run_pure]
    refine ⟨u, by rw [results_eq, Sem.run_bind, hm]; simp, u, p'.β j, p'.γ j, rfl, ⟨hs'.base.os, hs'.base.tape, hs'.base.output, hs'.base.size, fun k hk => hs'.base.block k hk (fun h => h)⟩, hs'.cap j, fun b hb => ⟨(hs'.bl j b hb).2.2.resolve_right (fun h => h.2), (hs'.bl j b hb).1⟩, ?_⟩
    have hrow := hs'.rw j
    rw [hj] at hrow
    simp only [rowRel] at hrow
    simp only [AV.rel] at hrel
    rcases hrel.2 (by show n' = (s'.rows j).ver; rw [hj]) with ⟨h1, h2, _, h3, A, h4⟩ | ⟨b, A, h1, h2, h3, h4⟩
    · refine .inl ⟨h1, ?_, h2, h3, A, h4⟩
      rcases hrow with ⟨_, h5, _⟩ | ⟨b, _, h5, _⟩
      · exact h5
      · rw [h1] at h5; cases h5
    · rcases hrow with ⟨h5, _⟩ | ⟨b', cells, h5, h6, h7, h8, h9⟩
      · rw [h1] at h5; cases h5
      · rw [h1] at h5
        injection h5 with h5
        subst h5
        exact .inr ⟨b, cells, A, h1, h6, h7, h8, flat_relE es _ 0 hfl h9, by simpa using h2, by omega, by simpa using h4 (.inr trivial)⟩
  cases e with
  | normal => exact ⟨hs'.df, fin hq⟩
  | ret => exact ⟨hs'.df, fin hq⟩
  | _ => exact hq.elim

/-! ### Results -/
theorem ocalls_st {P : Program} {f : FuncId} {fn : Func} {c : Code} {n : Nat} {args : List RV} {t sz m : Nat} {es : List (List RV)} (rv : ResultVar) (hf : P.funcs[f]? = some fn) (hb : fn.body = some c) (hc : callable P f = true) (hn : fn.ntmps = n) (hres : fn.results.toList = [rv]) (hargs : args.length ≤ n)
    (hfl : ∀ e ∈ es, RV.flatL e = true) (h : ∀ C vs, awp P C c (opostL P rv t sz es m) (st n (argL 0 args) vs [])) : OCalls P f args t sz es m :=
  ocalls_0 rv hf hb hc hn hres hargs hfl fun C => h C _
theorem resC_when {c : Prop} {v : AV} {K : AV → Prop} : resC (.when c v) K ↔ c ∧ K v := Iff.rfl
theorem resM_nil {P : Program} {ks : List (Nat × RowC)} {s : AS} : resM P ks s [] [] ↔ True := by simp [resM]
theorem resM_tmp {P : Program} {ks : List (Nat × RowC)} {s : AS} {t : Nat} {us : List ResultVar} {r : AV} {rs : List AV} : resM P ks s (.tmp t :: us) (r :: rs) ↔ frzP1 ks s.rows (s.tm t) ∧ frz1 ks s.rows (s.tm t) = r ∧ resM P ks s us rs := by
  simp only [resM, resA, Res.val, List.cons.injEq]
  constructor
  · rintro ⟨_, h1, _, ⟨rfl, rfl⟩, h3⟩; exact ⟨h1, rfl, h3⟩
  · rintro ⟨h1, rfl, h3⟩; exact ⟨trivial, h1, _, ⟨rfl, rfl⟩, h3⟩
theorem resM_cell {P : Program} {ks : List (Nat × RowC)} {s : AS} {t a : Nat} {us : List ResultVar} {r : AV} {rs : List AV} : resM P ks s (.cell a t :: us) (r :: rs) ↔ resC (sLoad P s t (s.tm a)) (fun v => frzP1 ks s.rows v ∧ frz1 ks s.rows v = r) ∧ resM P ks s us rs := by
  simp only [resM, resA, resC, List.cons.injEq]
  constructor
  · rintro ⟨h0, h1, _, ⟨rfl, rfl⟩, h3⟩; exact ⟨⟨h0, h1, rfl⟩, h3⟩
  · rintro ⟨⟨h0, h1, rfl⟩, h3⟩; exact ⟨h0, h1, _, ⟨rfl, rfl⟩, h3⟩
theorem resC_val {v : AV} {K : AV → Prop} : resC (.val v) K ↔ K v := by simp [resC, Res.val]
theorem resOk_nil {P : Program} {s : AS} : resOk P s [] [] ↔ True := by simp [resOk]
theorem resOk_tmp {P : Program} {s : AS} {t : Nat} {us : List ResultVar} {r : RV} {rs : List RV} : resOk P s (.tmp t :: us) (r :: rs) ↔ snapP s.rows (s.tm t) ∧ RV.le (snapV s.rows (s.tm t)) r ∧ resOk P s us rs := by
  simp only [resOk, resA, Res.val, List.cons.injEq]
  constructor
  · rintro ⟨_, h1, _, _, ⟨rfl, rfl⟩, h2, h3⟩; exact ⟨h1, h2, h3⟩
  · rintro ⟨h1, h2, h3⟩; exact ⟨trivial, h1, _, _, ⟨rfl, rfl⟩, h2, h3⟩
theorem resOk_cell {P : Program} {s : AS} {t a : Nat} {us : List ResultVar} {r : RV} {rs : List RV} : resOk P s (.cell a t :: us) (r :: rs) ↔ resC (sLoad P s t (s.tm a)) (fun v => snapP s.rows v ∧ RV.le (snapV s.rows v) r) ∧ resOk P s us rs := by
  simp only [resOk, resA, resC, List.cons.injEq]
  constructor
  · rintro ⟨h0, h1, _, _, ⟨rfl, rfl⟩, h2, h3⟩; exact ⟨⟨h0, h1, h2⟩, h3⟩
  · rintro ⟨⟨h0, h1, h2⟩, h3⟩; exact ⟨h0, h1, _, _, ⟨rfl, rfl⟩, h2, h3⟩
theorem fpostL_normal {P : Program} {s : AS} {us : List ResultVar} {rs : List RV} : fpostL P us rs .normal s = resOk P s us rs := rfl
theorem fpostL_ret {P : Program} {s : AS} {us : List ResultVar} {rs : List RV} : fpostL P us rs .ret s = resOk P s us rs := rfl
theorem andThen_normal {K : AS → Prop} {Q : Exit → AS → Prop} {s : AS} : andThen K Q .normal s = K s := rfl
theorem andThen_ret {K : AS → Prop} {Q : Exit → AS → Prop} {s : AS} : andThen K Q .ret s = Q .ret s := rfl
theorem andThen_exit {K : AS → Prop} {Q : Exit → AS → Prop} {s : AS} {i : Nat} : andThen K Q (.exit i) s = Q (.exit i) s := rfl
theorem inBlk_normal {Q : Exit → AS → Prop} {s : AS} {i : Nat} : inBlk i Q .normal s = Q .normal s := rfl
theorem inBlk_ret {Q : Exit → AS → Prop} {s : AS} {i : Nat} : inBlk i Q .ret s = Q .ret s := rfl
theorem inBlk_exit {Q : Exit → AS → Prop} {s : AS} {i j : Nat} : inBlk i Q (.exit j) s = if j = i then Q .normal s else Q (.exit j) s := rfl

theorem le_bo {a b : Bool} : RV.le (.bo a) (.bo b) ↔ a = b := by simp [RV.le]
theorem le_it {k : IntKind} {a b : Int} : RV.le (.it k a) (.it k b) ↔ a = b := by simp [RV.le]
theorem le_ns {sz : Nat} {es : List (List RV)} : RV.le .ns (.sl sz es) ↔ es = [] := by simp [RV.le]
theorem le_sls {sz : Nat} {es es' : List (List RV)} : RV.le (.sl sz es) (.sl sz es') ↔ es = es' := by simp [RV.le]
theorem le_ag {xs ys : List RV} : RV.le (.ag xs) (.ag ys) ↔ RV.leL xs ys := by simp [RV.le]
theorem leL_nil : RV.leL [] [] ↔ True := by simp [RV.leL]
theorem leL_cons {x y : RV} {xs ys : List RV} : RV.leL (x :: xs) (y :: ys) ↔ RV.le x y ∧ RV.leL xs ys := by simp [RV.leL]
theorem le_nsns : RV.le .ns .ns ↔ True := by simp [RV.le]
theorem le_np : RV.le .np .np ↔ True := by simp [RV.le]
theorem le_of_eq {x y : RV} (h : x = y) : RV.le x y := h ▸ leL_refl.le_refl x
end
end Go.Oc
