/- A call on given data, reckoned out (second part): code, calls, and what the answer means. -/
import Derived.Test.YtnklbfmdojpfkaaOv
namespace Go.Oc
open Go Go.RowKit

section
variable {rows : Nat → Row}
theorem osB {k n sz off m : Nat} (h : (n == (rows k).ver && match (rows k).c with | .arr _ sz' es => sz == sz' && decide (off + m ≤ es.length) | _ => false) = true) :
    n = (rows k).ver ∧ match (rows k).c with | .arr _ sz' es => sz = sz' ∧ off + m ≤ es.length | _ => False := by
  simp only [Bool.and_eq_true, beq_iff_eq] at h
  refine ⟨h.1, ?_⟩
  have h := h.2
  split at h
  · simpa using h
  · cases h
theorem snap1B_ok : ∀ (xs : List AV), snap1B rows xs = true → snap1PL rows xs
  | [], _ => trivial
  | x :: xs, h => by
    cases x with
    | os k n sz off m =>
      simp only [snap1B, Bool.and_eq_true (_ && _)] at h
      exact ⟨osB h.1, snap1B_ok xs h.2⟩
    | _ => simp only [snap1B] at h; exact ⟨trivial, snap1B_ok xs h⟩
mutual
theorem snapB_ok : ∀ (x : AV), snapB rows x = true → snapP rows x
  | .r _, _ => by simp only [snapP]
  | .os k n sz off m, h => by simp only [snapB] at h; simp only [snapP]; exact osB h
  | .pt k n off, h => by
    simp only [snapB, Bool.and_eq_true, beq_iff_eq] at h
    simp only [snapP]
    refine ⟨h.1, ?_⟩
    have h := h.2
    generalize (rows k).c = c at h ⊢
    cases c <;> first | exact snap1B_ok _ h | cases h
  | .pe k n sz idx _, h => by
    simp only [snapB, Bool.and_eq_true, beq_iff_eq] at h
    simp only [snapP]
    refine ⟨h.1, ?_⟩
    have h := h.2
    generalize (rows k).c = c at h ⊢
    cases c <;> first | (simp only [Bool.and_eq_true, beq_iff_eq, decide_eq_true_eq] at h; exact h) | cases h
  | .fn _ cs, h => by simp only [snapB] at h; simp only [snapP]; exact snapBL_ok cs h
  | .ag cs, h => by simp only [snapB] at h; simp only [snapP]; exact snapBL_ok cs h
  | .tu cs, h => by simp only [snapB] at h; simp only [snapP]; exact snapBL_ok cs h
  | .mp _ _, h => by simp [snapB] at h
  | .mi _ _, h => by simp [snapB] at h
theorem snapBL_ok : ∀ (xs : List AV), snapBL rows xs = true → snapPL rows xs
  | [], _ => trivial
  | x :: xs, h => by
    simp only [snapBL, Bool.and_eq_true] at h
    exact ⟨snapB_ok x h.1, snapBL_ok xs h.2⟩
end
end

/-! ### Results -/
instance {P : Program} {s : AS} {v : ResultVar} : Decidable (resA P s v).pre := match v with
  | .tmp _ => .isTrue trivial
  | .cell a t => inferInstanceAs (Decidable (sLoad P s t (s.tm a)).pre)
def resList (P : Program) (s : AS) : List ResultVar → Option (List RV)
  | [] => some []
  | v :: vs =>
    if (resA P s v).pre then
      if snapB s.rows (resA P s v).y.av then
        match resList P s vs with
        | some rs => some (snapV s.rows (resA P s v).y.av :: rs)
        | none => none
      else none
    else none
theorem resList_ok {P : Program} {s : AS} : ∀ {vs : List ResultVar} {rs : List RV}, resList P s vs = some rs → resOk P s vs rs
  | [], rs, h => by injection h with h; exact h.symm
  | v :: vs, rs, h => by
    unfold resList at h
    split at h
    · rename_i hp
      split at h
      · rename_i hs
        split at h
        · rename_i rs' hr
          injection h with h; subst h
          exact ⟨hp, snapB_ok _ hs, _, rs', rfl, leL_refl.le_refl _, resList_ok hr⟩
        · cases h
      · cases h
    · cases h
abbrev Outs := List (Exit × CS)
def endRs (P : Program) (res : List ResultVar) (x : Exit × CS) : Option (List RV) :=
  match x.1 with
  | .normal => resList P x.2.as res
  | .ret => resList P x.2.as res
  | _ => none
theorem endRs_ok {P : Program} {res : List ResultVar} {x : Exit × CS} {rs : List RV} (h : endRs P res x = some rs) : fpostL P res rs x.1 x.2.as := by
  obtain ⟨e, t⟩ := x
  unfold endRs at h
  cases e <;> first | exact resList_ok h | cases h
def sameRs : List RV → List RV → Bool
  | [], [] => true
  | .bo a :: l, .bo b :: l' => (a == b) && sameRs l l'
  | .it .i64 a :: l, .it .i64 b :: l' => (a == b) && sameRs l l'
  | _, _ => false
theorem sameRs_ok : ∀ {l l' : List RV}, sameRs l l' = true → l = l' := fun {l l'} h => by
  fun_induction sameRs l l' with
  | case1 => rfl
  | case2 a l b l' ih => simp only [Bool.and_eq_true, beq_iff_eq] at h; rw [h.1, ih h.2]
  | case3 a l b l' ih => simp only [Bool.and_eq_true, beq_iff_eq] at h; rw [h.1, ih h.2]
  | case4 => cases h
def agree (P : Program) (res : List ResultVar) : Outs → Option (List RV)
  | [] => none
  | [x] => endRs P res x
  | x :: l => match endRs P res x, agree P res l with
    | some r, some r' => if sameRs r r' then some r else none
    | _, _ => none
theorem agree_ok {P : Program} {res : List ResultVar} : ∀ {L : Outs} {rs : List RV}, agree P res L = some rs → ∀ x ∈ L, fpostL P res rs x.1 x.2.as
  | [], _, h => by simp [agree] at h
  | [x], rs, h => fun y hy => by
    simp only [List.mem_singleton] at hy
    subst hy
    exact endRs_ok (by simpa only [agree] using h)
  | x :: y :: l, rs, h => fun z hz => by
    simp only [agree] at h
    split at h
    · rename_i r r' h1 h2
      split at h
      · rename_i e
        injection h with h; subst h
        have e := sameRs_ok e
        subst e
        rcases List.mem_cons.1 hz with rfl | hz
        · exact endRs_ok h1
        · exact agree_ok (L := y :: l) h2 z hz
      · cases h
    · cases h

/-! ### Calls -/
def isEnd : Exit → Bool
  | .normal => true
  | .ret => true
  | _ => false
def callA (P : Program) (ex : Code → CS → Option Outs) (fn : Func) (c : Code) (args : List RV) : Option RV :=
  if args.length ≤ fn.ntmps then
    match ex c ⟨fn.ntmps, args.map .r, []⟩ with
    | some L => match agree P fn.results.toList L with
      | some rs => some (resV rs)
      | none => none
    | none => none
  else none
def callO (P : Program) (ex : Code → CS → Option Outs) (fn : Func) (c : Code) (args : List RV) : Option (Nat × Nat × List (List RV) × Nat) :=
  if args.length ≤ fn.ntmps then
    match fn.results.toList, ex c ⟨fn.ntmps, args.map .r, []⟩ with
    | [rv], some [(e, t)] =>
      if isEnd e then
      if (resA P t.as rv).pre then
        match (resA P t.as rv).y.av with
        | .os j n sz off m =>
          match rowAt t.rows j with
          | ⟨n', .arr ty sz' es⟩ => if n == n' && sz == sz' && off == 0 && es.all RV.flatL then some (ty, sz, es, m) else none
          | _ => none
        | _ => none
      else none
      else none
    | _, _ => none
  else none
/- The rows that a call is lent. -/
mutual
def keysA : AV → List Nat
  | .pt k _ _ => [k]
  | .pe k _ _ _ _ => [k]
  | .os k _ _ _ _ => [k]
  | .mp k _ => [k]
  | .fn _ cs => keysL cs
  | .ag cs => keysL cs
  | .tu cs => keysL cs
  | _ => []
def keysL : List AV → List Nat
  | [] => []
  | x :: xs => keysA x ++ keysL xs
end
def keysB (rows : Nat → Row) : List Nat → List Nat
  | [] => []
  | k :: ks => k :: ((match (rows k).c with | .box cs => keysL cs | _ => []) ++ keysB rows ks)
def mkRho : List Nat → Nat → List (Nat × Nat)
  | [], _ => []
  | k :: ks, i => if (k :: ks).length > 1 && ks.contains k then mkRho ks i else (i, k) :: mkRho ks (i + 1)
def lendRows (ρ : List (Nat × Nat)) (s : AS) : List (Nat × Nat) → Option (List (Nat × RowC))
  | [] => some []
  | (pk, ck) :: l => match lendC ρ s.ver (s.rows ck).c, lendRows ρ s l with
    | some c, some L => some ((pk, c) :: L)
    | _, _ => none
theorem lendRows_ok {ρ : List (Nat × Nat)} {s : AS} : ∀ {l : List (Nat × Nat)} {L : List (Nat × RowC)}, lendRows ρ s l = some L → lendOk ρ s l L
  | [], L, h => by injection h with h; subst h; trivial
  | (pk, ck) :: l, L, h => by
    unfold lendRows at h
    split at h
    · rename_i c L' h1 h2
      injection h with h; subst h
      exact ⟨rfl, h1, lendRows_ok h2⟩
    · cases h
def frzB (ks : List (Nat × RowC)) (rows : Nat → Row) : AV → Bool
  | .os j n sz off m => if keyIn ks j then true else (decide (j < 1000) && snapB rows (.os j n sz off m))
  | _ => true
theorem frzB_ok {ks : List (Nat × RowC)} {rows : Nat → Row} {x : AV} (h : frzB ks rows x = true) : frzP1 ks rows x := by
  cases x with
  | os j n sz off m =>
    simp only [frzB] at h
    simp only [frzP1]
    split at h
    · rename_i e; rw [if_pos e]; trivial
    · rename_i e
      rw [if_neg e]
      simp only [Bool.and_eq_true, decide_eq_true_eq] at h
      refine ⟨h.1, ?_⟩
      have := snapB_ok _ h.2
      simpa only [snapP, snap1P] using this
  | _ => simp only [frzP1]
def frzBL (ks : List (Nat × RowC)) (rows : Nat → Row) : List AV → Bool
  | [] => true
  | x :: xs => frzB ks rows x && frzBL ks rows xs
theorem frzBL_ok {ks : List (Nat × RowC)} {rows : Nat → Row} : ∀ {xs : List AV}, frzBL ks rows xs = true → frzPL ks rows xs
  | [], _ => trivial
  | x :: xs, h => by
    simp only [frzBL, Bool.and_eq_true] at h
    exact ⟨frzB_ok h.1, frzBL_ok h.2⟩
def frzBC (ks : List (Nat × RowC)) (rows : Nat → Row) : RowC → Bool
  | .box cs => frzBL ks rows cs
  | _ => true
theorem frzBC_ok {ks : List (Nat × RowC)} {rows : Nat → Row} {c : RowC} (h : frzBC ks rows c = true) : frzPC ks rows c := by
  cases c <;> first | exact frzBL_ok h | trivial
def finM (ks : List (Nat × RowC)) (rows : Nat → Row) : List (Nat × RowC) → Option (List (Nat × RowC))
  | [] => some []
  | (k, _) :: L => if okC (rows k).c && frzBC ks rows (rows k).c then match finM ks rows L with | some L' => some ((k, frzC ks rows (rows k).c) :: L') | none => none else none
theorem finM_ok {ks : List (Nat × RowC)} {rows : Nat → Row} : ∀ {L L' : List (Nat × RowC)}, finM ks rows L = some L' → mfin ks rows L L'
  | [], L', h => by injection h with h; subst h; trivial
  | (k, c) :: L, L', h => by
    unfold finM at h
    split at h
    · rename_i hc
      simp only [Bool.and_eq_true] at hc
      split at h
      · rename_i L'' h2
        injection h with h; subst h
        exact ⟨rfl, hc.1, frzBC_ok hc.2, rfl, finM_ok h2⟩
      · cases h
    · cases h
def resListM (P : Program) (ks : List (Nat × RowC)) (s : AS) : List ResultVar → Option (List AV)
  | [] => some []
  | v :: vs =>
    if (resA P s v).pre then
      if frzB ks s.rows (resA P s v).y.av then
        match resListM P ks s vs with
        | some rs => some (frz1 ks s.rows (resA P s v).y.av :: rs)
        | none => none
      else none
    else none
theorem resListM_ok {P : Program} {ks : List (Nat × RowC)} {s : AS} : ∀ {vs : List ResultVar} {rs : List AV}, resListM P ks s vs = some rs → resM P ks s vs rs
  | [], rs, h => by injection h with h; exact h.symm
  | v :: vs, rs, h => by
    unfold resListM at h
    split at h
    · rename_i hp
      split at h
      · rename_i hs
        split at h
        · rename_i rs' hr
          injection h with h; subst h
          exact ⟨hp, frzB_ok hs, rs', rfl, resListM_ok hr⟩
        · cases h
      · cases h
    · cases h
def rowsOf : List (Nat × RowC) → List (Nat × Row)
  | [] => []
  | (k, c) :: L => (k, ⟨0, c⟩) :: rowsOf L
def callM (P : Program) (ex : Code → CS → Option Outs) (fn : Func) (c : Code) (L : List (Nat × RowC)) (args : List AV) : Option (List (Nat × RowC) × AV) :=
  if args.length ≤ fn.ntmps && pinned L then
    match ex c ⟨fn.ntmps, args, rowsOf L⟩ with
    | some [(e, t)] =>
      if isEnd e then
        match finM L t.as.rows L, resListM P L t.as fn.results.toList with
        | some L', some rs => some (L', resMV rs)
        | _, _ => none
      else none
    | _ => none
  else none
def putRows (s : CS) (L' : List (Nat × RowC)) (ver : Nat → Nat) (ρ : List (Nat × Nat)) : List (Nat × Nat) → CS
  | [] => s
  | (pk, ck) :: l => putRows (s.row ck ⟨ver ck, backC ρ ver (lookc L' pk)⟩) L' ver ρ l
def callC (P : Program) (fs : List (FuncId × Nat)) (ex : Code → CS → Option Outs) : Caller := fun D s d f xs =>
  match callee? f with
  | none => none
  | some (F, cs) =>
    match modeOf fs F, P.funcs[F]? with
    | some m, some fn =>
      match fn.body with
      | none => none
      | some c =>
        if m == 1 && !D then
          match d with
          | some dd =>
            if snapBL s.as.rows (xs ++ cs) && decide (dd < 1000) then
              match callO P ex fn c (snapVL s.as.rows (xs ++ cs)) with
              | some (t, sz, es, m) => some ((s.row dd ⟨(s.as.rows dd).ver + 1, .arr t sz es⟩).put d (.os dd ((s.as.rows dd).ver + 1) sz 0 m))
              | none => none
            else none
          | none => none
        else if m == 2 && !D then
          let ρ := mkRho (keysB s.as.rows (keysL (xs ++ cs))) 1000
          match lendL ρ s.as.ver (xs ++ cs), lendRows ρ s.as ρ with
          | some args, some L =>
            match callM P ex fn c L args with
            | some (L', r) => if apart ρ && sameKeys ρ L' then some ((putRows s L' s.as.ver ρ ρ).put d (backA ρ s.as.ver r)) else none
            | none => none
          | _, _ => none
        else if snapBL s.as.rows (xs ++ cs) then
          match callA P ex fn c (snapVL s.as.rows (xs ++ cs)) with
          | some r => if r.flatB || AV.pureL (xs ++ cs) then some (s.put d (.r r)) else none
          | none => none
        else none
    | _, _ => none

/-! ### Code -/
def norm : List CS → Outs
  | [] => []
  | t :: l => (.normal, t) :: norm l
def leave (id : Nat) : Exit → Exit
  | .exit id' => if id' = id then .normal else .exit id'
  | e => e
def blk (id : Nat) : Outs → Outs
  | [] => []
  | (e, t) :: l => (leave id e, t) :: blk id l
/-- A region that draws its order makes rows only where none is. -/
def killOps : List Oper → CS → CS
  | [], s => s
  | o :: l, s => if cls o == 2 && decide (o.dst.getD 0 < 1000) then killOps l (s.row (o.dst.getD 0) ⟨(rowAt s.rows (o.dst.getD 0)).ver + 1, .dead⟩) else killOps l s
def killD (D : Bool) (l : List Oper) (s : CS) : CS := match D with | true => killOps l s | false => s
/-- Where the slots that a region does not make lie. -/
def slots : List Operand → List Nat
  | [] => []
  | .tmp t :: l => t :: slots l
  | _ :: l => slots l
def kappa (ops : Array Oper) (s : CS) : List Oper → List (Nat × Option Nat)
  | [] => []
  | o :: l => (slots o.op.operands.toList).map (fun t => (t, keyOf (nth s.tm t))) ++ kappa ops s l
def drawOk (D : Bool) (ops : Array Oper) (s : CS) : Bool := !D || lexOk ops || lexOk2 ops (kappa ops s ops.toList)
def exec (P : Program) (fs : List (FuncId × Nat)) : Nat → Code → CS → Option Outs
  | 0, _, _ => none
  | k + 1, .region _ ops D, s => if drawOk D ops (killD D ops.toList s) then match runOps P (callC P fs (exec P fs k)) D ops ops.toList (killD D ops.toList s) with | some L => some (norm L) | none => none else none
  | k + 1, .seq a b, s => bindL (exec P fs k a s) fun x => match x.1 with | .normal => exec P fs k b x.2 | e => some [(e, x.2)]
  | k + 1, .loop c, s => bindL (exec P fs k c s) fun x => match x.1 with | .normal => exec P fs k (.loop c) x.2 | e => some [(e, x.2)]
  | k + 1, .cond c a b, s => match s.as.ev c with | .r (.bo t) => bif t then exec P fs k a s else exec P fs k b s | _ => none
  | k + 1, .block id c, s => match exec P fs k c s with | some L => some (blk id L) | none => none
  | _ + 1, .skip, s => some [(.normal, s)]
  | _ + 1, .label _, s => some [(.normal, s)]
  | _ + 1, .exit id, s => some [(.exit id, s)]
  | _ + 1, .ret, s => some [(.ret, s)]
  | _ + 1, _, _ => none
/-- The call's result, reckoned out. -/
def evalA (P : Program) (fs : List (FuncId × Nat)) (k : Nat) (F : FuncId) (args : List RV) : Option RV :=
  match P.funcs[F]? with
  | some fn => match fn.body with
    | some c => callA P (exec P fs k) fn c args
    | none => none
  | none => none
end Go.Oc
