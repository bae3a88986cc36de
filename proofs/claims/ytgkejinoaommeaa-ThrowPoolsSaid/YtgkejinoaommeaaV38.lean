/- Part 8 of the texts of this claim. -/
import Derived.Test.YtgkejinoaommeaaV37
import Derived.Test.YtgkejinoaommeaaV34
import Derived.Test.YtgkejinoaommeaaV36
/- A call on given data, reckoned out: a program that walks, and what its answer means. -/
namespace Go.Oc
open Go Go.RowKit

/-! ### What an operation needs can be decided -/
instance {c : Prop} [h : Decidable c] {v : AV} : Decidable (Res.when c v).pre := h
instance {v : AV} : Decidable (Res.val v).pre := .isTrue trivial
instance : Decidable Res.bad.pre := .isFalse id
instance {c a : Prop} [h : Decidable c] {y : Yi} : Decidable (Res.mk c a y).pre := h
def nilB {α : Type} (l : List α) : Decidable (l = []) := match l with
  | [] => .isTrue rfl
  | _ :: _ => .isFalse (by simp)
instance {α : Type} {l : List α} : Decidable (l = []) := nilB l
def RowC.isDead : RowC → Bool
  | .dead => true
  | _ => false
theorem isDead_iff {c : RowC} : c = .dead ↔ c.isDead = true := by cases c <;> simp [RowC.isDead]
instance {c : RowC} : Decidable (c = .dead) := decidable_of_iff _ isDead_iff.symm
def decNews {s : AS} {y : AV} {c : Prop} {sz : Nat} {es : List (List RV)} (h : news? s y = some (c, sz, es)) : Decidable c := by
  unfold news? at h
  split at h
  · exact .isTrue (by injection h with h; injection h with h1 _; rw [← h1]; trivial)
  · exact .isTrue (by injection h with h; injection h with h1 _; rw [← h1]; trivial)
  · split at h
    · rename_i k n sz off m _ n' t sz' es' _
      exact decidable_of_iff (n = n' ∧ sz = sz' ∧ off + m ≤ es'.length) (by injection h with h; injection h with h1 _; rw [← h1])
    · cases h
  · cases h
def decLen {s : AS} {y : AV} {c : Prop} {m : Nat} (h : lenA s y = some (c, m)) : Decidable c := by
  unfold lenA at h
  split at h
  · exact .isTrue (by injection h with h; injection h with h1 _; rw [← h1]; trivial)
  · exact .isTrue (by injection h with h; injection h with h1 _; rw [← h1]; trivial)
  · rename_i k n sz off m
    exact decidable_of_iff (n = s.ver k) (by injection h with h; injection h with h1 _; rw [← h1])
  · cases h
section
variable {P : Program} {s : AS}
instance {c a b : AV} : Decidable (sPick c a b).pre := by delta sPick; split <;> infer_instance
instance {op : BinOp} {t : TypeId} {x y : AV} : Decidable (sEq P op t x y).pre := by delta sEq; split <;> (try split) <;> infer_instance
instance {op : BinOp} {t : TypeId} {x y : AV} : Decidable (sBin P op t x y).pre := by delta sBin; split <;> (try split) <;> infer_instance
instance {op : UnOp} {x : AV} : Decidable (sUn op x).pre := by delta sUn; split <;> infer_instance
instance {a b : TypeId} {x : AV} : Decidable (sConv P a b x).pre := by delta sConv; split <;> infer_instance
instance {t : TypeId} {a : AV} : Decidable (sLoad P s t a).pre := by delta sLoad; split <;> (try split) <;> infer_instance
instance {t : TypeId} {a x : AV} : Decidable (sStore P s t a x).pre := by delta sStore; split <;> (try split) <;> infer_instance
instance {d : Nat} {x : AV} : Decidable (sBox s d x).pre := by delta sBox; split <;> infer_instance
instance {d : Nat} {t : TypeId} : Decidable (sAlloc P s d t).pre := by delta sAlloc; split <;> infer_instance
instance {t : TypeId} {a : AV} {f : Nat} : Decidable (sField P s t a f).pre := by delta sField; split <;> (try split) <;> (try split) <;> infer_instance
instance {cs : AV} {o sz : Nat} {agg : Bool} {c : Prop} [Decidable c] : Decidable (sPart cs o sz agg c).pre := by delta sPart; split <;> infer_instance
instance {t : TypeId} {x : AV} {f : Nat} : Decidable (sFieldV P t x f).pre := by delta sFieldV; split <;> (try split) <;> infer_instance
instance {t : TypeId} {x i : AV} : Decidable (sIndexV P t x i).pre := by delta sIndexV; split <;> infer_instance
instance {t : TypeId} {x i : AV} : Decidable (sIndex P s t x i).pre := by delta sIndex; split <;> (try split) <;> infer_instance
instance {x mx : AV} {lo hi : Option AV} : Decidable (sSlice3 s x lo hi mx).pre := by
  delta sSlice3
  split
  · have := decLen ‹lenA _ _ = some (_, _)›
    infer_instance
  · infer_instance
instance {n esz : Nat} {x : AV} {lo hi mx : Option AV} : Decidable (sSliceA n esz x lo hi mx).pre := by delta sSliceA; split <;> infer_instance
instance {t : TypeId} {x : AV} {lo hi mx : Option AV} : Decidable (sSlice P s t x lo hi mx).pre := by delta sSlice; split <;> (try split) <;> (try split) <;> infer_instance
instance {t : TypeId} {ps : List (Nat × AV)} : Decidable (sBuild P s t ps).pre := by delta sBuild; split <;> (try split) <;> infer_instance
instance {t : TypeId} {n : Nat} {ps : List (Nat × AV)} : Decidable (sBuildSlice P s t n ps).pre := by delta sBuildSlice; split <;> (try split) <;> (try split) <;> infer_instance
instance {d : Nat} {t : TypeId} {l c : AV} : Decidable (sMakeSlice P s d t l c).pre := by delta sMakeSlice; split <;> infer_instance
instance {d : Nat} {t t' : TypeId} {x y : AV} : Decidable (sAppend P s d t t' x y).pre := by
  delta sAppend
  split
  · rename_i h
    have := decNews h
    infer_instance
  · rename_i h
    have := decNews h
    infer_instance
  · rename_i h
    have := decNews h
    split
    · infer_instance
    · split <;> infer_instance
    · infer_instance
  · infer_instance
instance {d : Nat} {t t' : TypeId} {x y : AV} : Decidable (sAppendZ P s d t t' x y).pre := by delta sAppendZ; split <;> infer_instance
instance {t : TypeId} {x : AV} : Decidable (sCap P t x).pre := by delta sCap; split <;> infer_instance
instance {t : TypeId} {x : AV} : Decidable (sClear P s t x).pre := by delta sClear; split <;> (try split) <;> infer_instance
instance {t : TypeId} {x : AV} : Decidable (sLen P s t x).pre := by delta sLen; split <;> (try split) <;> infer_instance
instance {r : Option RV} : Decidable (sMinMax r).pre := by delta sMinMax; split <;> infer_instance
instance {x : AV} {i : Nat} : Decidable (sExtract x i).pre := by delta sExtract; split <;> (try split) <;> infer_instance
instance {x : AV} : Decidable (sNil s x).pre := by delta sNil; split <;> infer_instance
instance {d : Nat} {t : TypeId} : Decidable (sMakeMap P s d t).pre := by delta sMakeMap; split <;> infer_instance
instance {t : TypeId} {x key : AV} {ok : Bool} : Decidable (sLookup P s t x key ok).pre := by delta sLookup; split <;> (try split) <;> (try split) <;> infer_instance
instance {t : TypeId} {x key : AV} : Decidable (sMapEntry P s t x key).pre := by delta sMapEntry; split <;> (try split) <;> (try split) <;> infer_instance
instance {x st v : AV} : Decidable (sEntryStore s x st v).pre := by delta sEntryStore; split <;> (try split) <;> (try split) <;> infer_instance
instance {t : TypeId} {x key v : AV} : Decidable (sMapUpdate P s t x key v).pre := by delta sMapUpdate; split <;> (try split) <;> (try split) <;> infer_instance
instance {d : Nat} {t : TypeId} {x : AV} : Decidable (sRange P s d t x).pre := by delta sRange; split <;> (try split) <;> infer_instance
instance {x : AV} : Decidable (sEntry s x).pre := by delta sEntry; split <;> (try split) <;> infer_instance
instance {d : Nat} {b : Builtin} {ts : List TypeId} {xs : List AV} : Decidable (sBuiltin P s d b ts xs).pre := by delta sBuiltin; split <;> (try split) <;> infer_instance
instance decStep {o : Oper} : Decidable (step P o s).pre := by delta step; split <;> (try split) <;> infer_instance
end

/-! ### States in lists -/
def nth : List AV → Nat → AV
  | [], _ => .r .un
  | x :: _, 0 => x
  | _ :: l, t + 1 => nth l t
def setAt : List AV → Nat → AV → List AV
  | [], 0, v => [v]
  | [], d + 1, v => .r .un :: setAt [] d v
  | _ :: l, 0, v => v :: l
  | x :: l, d + 1, v => x :: setAt l d v
theorem nth_setAt : ∀ (l : List AV) (d : Nat) (v : AV) (t : Nat), nth (setAt l d v) t = if t = d then v else nth l t
  | [], 0, v, 0 => by simp [setAt, nth]
  | [], 0, v, t + 1 => by simp [setAt, nth]
  | [], d + 1, v, 0 => by simp [setAt, nth]
  | [], d + 1, v, t + 1 => by simp only [setAt, nth, nth_setAt [] d v t, Nat.add_right_cancel_iff]
  | x :: l, 0, v, 0 => by simp [setAt, nth]
  | x :: l, 0, v, t + 1 => by simp [setAt, nth]
  | x :: l, d + 1, v, 0 => by simp [setAt, nth]
  | x :: l, d + 1, v, t + 1 => by simp only [setAt, nth, nth_setAt l d v t, Nat.add_right_cancel_iff]
def rowAt : List (Nat × Row) → Nat → Row
  | [], _ => ⟨0, .dead⟩
  | (j, r) :: l, k => if k = j then r else rowAt l k
def setRow : List (Nat × Row) → Nat → Row → List (Nat × Row)
  | [], k, r => [(k, r)]
  | (j, q) :: l, k, r => if k = j then (j, r) :: l else (j, q) :: setRow l k r
theorem rowAt_setRow : ∀ (l : List (Nat × Row)) (k : Nat) (r : Row) (j : Nat), rowAt (setRow l k r) j = if j = k then r else rowAt l j
  | [], k, r, j => rfl
  | (i, q) :: l, k, r, j => by
    unfold setRow
    split
    · rename_i e; subst e
      simp only [rowAt]
      split <;> rfl
    · rename_i e
      simp only [rowAt, rowAt_setRow l k r j]
      by_cases e1 : j = i
      · have : ¬ j = k := by omega
        simp [e1]; omega
      · simp [e1]
structure CS where
  n : Nat
  tm : List AV
  rows : List (Nat × Row)
def CS.as (s : CS) : AS := ⟨s.n, nth s.tm, rowAt s.rows⟩
def CS.put (s : CS) (d : Option Nat) (v : AV) : CS := match d with | some d => ⟨s.n, setAt s.tm d v, s.rows⟩ | none => s
def CS.row (s : CS) (k : Nat) (r : Row) : CS := ⟨s.n, s.tm, setRow s.rows k r⟩
def CS.effs (s : CS) : List (Nat × Row) → CS
  | [] => s
  | (k, r) :: l => (s.row k r).effs l
def CS.app (s : CS) (d : Option Nat) (y : Yi) : CS := (s.effs y.eff).put d y.av
theorem as_put (s : CS) (d : Option Nat) (v : AV) : (s.put d v).as = s.as.put d v := by
  cases d with
  | none => rfl
  | some d =>
    simp only [CS.put, CS.as, AS.put, AS.mk.injEq, true_and, and_true]
    funext t
    rw [nth_setAt]; rfl
theorem as_row (s : CS) (k : Nat) (r : Row) : (s.row k r).as = s.as.row k r := by
  simp only [CS.row, CS.as, AS.row, AS.mk.injEq, true_and]
  funext j
  rw [rowAt_setRow]; rfl
theorem as_effs : ∀ (l : List (Nat × Row)) (s : CS), (s.effs l).as = { s.as with rows := l.foldl (fun f p => upd f p.1 p.2) s.as.rows }
  | [], s => rfl
  | (k, r) :: l, s => by
    simp only [CS.effs, as_effs l, as_row, List.foldl_cons]
    rfl
theorem as_app (s : CS) (d : Option Nat) (y : Yi) : (s.app d y).as = s.as.app d y := by
  unfold CS.app AS.app
  rw [as_put, as_effs]
  rfl
theorem put_num (s : CS) (d : Option Nat) (v : AV) : (s.put d v).n = s.n := by cases d <;> rfl
theorem effs_num : ∀ (l : List (Nat × Row)) (s : CS), (s.effs l).n = s.n
  | [], s => rfl
  | (k, r) :: l, s => by simp only [CS.effs, effs_num l]; rfl
theorem app_num (s : CS) (d : Option Nat) (y : Yi) : (s.app d y).n = s.n := by simp only [CS.app, put_num, effs_num]

/-! ### Operations -/
def bindL {α β : Type} (x : Option (List α)) (f : α → Option (List β)) : Option (List β) :=
  match x with
  | none => none
  | some l => go l
  where go : List α → Option (List β)
  | [] => some []
  | a :: l => match f a with
    | none => none
    | some ys => match go l with
      | none => none
      | some zs => some (ys ++ zs)
theorem bindL_go {α β : Type} {f : α → Option (List β)} : ∀ {l : List α} {zs : List β}, bindL.go f l = some zs → ∀ a ∈ l, ∃ ys, f a = some ys ∧ ∀ y ∈ ys, y ∈ zs
  | [], _, _, a, ha => by simp at ha
  | b :: l, zs, h, a, ha => by
    unfold bindL.go at h
    split at h
    · cases h
    · rename_i ys hys
      split at h
      · cases h
      · rename_i ws hws
        injection h with h; subst h
        rcases List.mem_cons.1 ha with rfl | ha
        · exact ⟨ys, hys, fun y hy => by simp [hy]⟩
        · obtain ⟨y2, h1, h2⟩ := bindL_go hws a ha
          exact ⟨y2, h1, fun y hy => by simp [h2 y hy]⟩
theorem bindL_spec {α β : Type} {x : Option (List α)} {f : α → Option (List β)} {zs : List β} (h : bindL x f = some zs) : ∃ l, x = some l ∧ ∀ a ∈ l, ∃ ys, f a = some ys ∧ ∀ y ∈ ys, y ∈ zs := by
  unfold bindL at h
  split at h
  · cases h
  · exact ⟨_, rfl, bindL_go h⟩

/-- What a call comes to: the state behind it. -/
abbrev Caller := Bool → CS → Option Nat → AV → List AV → Option CS
def Caller.ok (P : Program) (call : Caller) : Prop :=
  ∀ D s d f xs t, call D s d f xs = some t → t.n = s.n ∧ ∀ K : AS → Prop, K t.as → acall P s.as f xs (fun r => K (s.as.put d (.r r))) ∨ (D = false ∧ (mcall P s.as d f xs K ∨ ocall P s.as d f xs K))
def each {α : Type} (f : Nat → α → CS) : List α → Nat → List CS
  | [], _ => []
  | e :: l, i => f i e :: each f l (i + 1)
theorem each_mem {α : Type} {f : Nat → α → CS} : ∀ {l : List α} {i j : Nat} {e : α}, l[j]? = some e → f (i + j) e ∈ each f l i
  | [], _, _, _, h => by simp at h
  | x :: l, i, 0, e, h => by simp at h; subst h; simp [each]
  | x :: l, i, j + 1, e, h => by
    simp at h
    have := each_mem (f := f) (i := i + 1) h
    rw [show i + 1 + j = i + (j + 1) from by omega] at this
    simp [each, this]
theorem each_num {α : Type} {f : Nat → α → CS} {n : Nat} (h : ∀ i e, (f i e).n = n) : ∀ {l : List α} {i : Nat}, ∀ t ∈ each f l i, t.n = n
  | [], _, t, ht => by simp [each] at ht
  | x :: l, i, t, ht => by
    simp only [each, List.mem_cons] at ht
    rcases ht with rfl | ht
    · exact h _ _
    · exact each_num h t ht
def nextC (s : CS) (d : Option Nat) (x : AV) : Option (List CS) :=
  match x with
  | .mi k n =>
    match rowAt s.rows k with
    | ⟨n', .mi km nm left _⟩ =>
      if n = n' ∧ nm = (rowAt s.rows km).ver ∧ k ≠ km then
        match left with
        | [] => some [s.put d (.r (.tu [.bo false]))]
        | e :: l => some (each (fun i e' => CS.put (s.row k ⟨n', .mi km nm ((e :: l).eraseIdx i) (some e')⟩) d (.r (.tu [.bo true, e'.1, e'.2]))) (e :: l) 0)
      else none
    | _ => none
  | _ => none
theorem nextC_ok {s : CS} {d : Option Nat} {x : AV} {L : List CS} (h : nextC s d x = some L) {K : AS → Prop} (hK : ∀ t ∈ L, K t.as) : sNext s.as d x K ∧ ∀ t ∈ L, t.n = s.n := by
  unfold nextC at h
  split at h
  · rename_i k n
    split at h
    · rename_i n' km nm left cur hr
      split at h
      · rename_i hc
        have hr' : s.as.rows k = ⟨n', .mi km nm left cur⟩ := hr
        unfold sNext
        simp only [hr']
        split at h
        · injection h with h; subst h
          refine ⟨⟨hc.1, hc.2.1, hc.2.2, fun _ => ?_, fun i e he => by simp at he⟩, fun t ht => ?_⟩
          · rw [← as_put]; exact hK _ (by simp)
          · simp only [List.mem_singleton] at ht; rw [ht, put_num]
        · rename_i e l
          injection h with h; subst h
          refine ⟨⟨hc.1, hc.2.1, hc.2.2, fun h => by simp at h, fun i e' he => ?_⟩, fun t ht => ?_⟩
          · rw [← as_row, ← as_put]
            have := each_mem (f := fun i e' => CS.put (s.row k ⟨n', .mi km nm ((e :: l).eraseIdx i) (some e')⟩) d (.r (.tu [.bo true, e'.1, e'.2]))) (i := 0) he
            rw [Nat.zero_add] at this
            exact hK _ this
          · exact each_num (fun i e => by rw [put_num]; rfl) t ht
      · cases h
    · cases h
  · cases h
def opC (P : Program) (call : Caller) (D : Bool) (o : Oper) (s : CS) : Option (List CS) :=
  match o.op with
  | .call ⟨.value f, args, _⟩ =>
    match call D s o.dst (s.as.ev f) (args.toList.map s.as.ev) with
    | some t => some [t]
    | none => none
  | .next x false => if D then none else nextC s o.dst (s.as.ev x)
  | _ =>
    if (step P o s.as).pre then
      if D && cls o == 2 && !((rowAt s.rows (o.dst.getD 0)).c.isDead && o.dst.isSome) then none
      else some [s.app o.dst (step P o s.as).y]
    else none
theorem opC_ok {P : Program} {call : Caller} (hcall : call.ok P) {D : Bool} {o : Oper} {s : CS} {L : List CS} (h : opC P call D o s = some L) {K : AS → Prop} (hK : ∀ t ∈ L, K t.as) : xop P D o K s.as ∧ ∀ t ∈ L, t.n = s.n := by
  unfold opC at h
  split at h
  · rename_i f args ts ho
    split at h
    · rename_i t ht
      injection h with h; subst h
      obtain ⟨hn, hc⟩ := hcall _ _ _ _ _ _ ht
      have hc := hc K (hK t (by simp))
      refine ⟨?_, fun t' ht' => by simp only [List.mem_singleton] at ht'; rw [ht']; exact hn⟩
      unfold xop
      split
      · rename_i hD
        unfold aop
        rw [ho]
        rcases hc with hc | ⟨hc, _⟩
        · exact .inl hc
        · rw [hD] at hc; cases hc
      · rw [ho]
        rcases hc with hc | ⟨_, hc⟩
        · exact .inl hc
        · exact .inr (hc.imp id .inl)
    · cases h
  · rename_i x ho
    split at h
    · cases h
    · rename_i hD
      have := nextC_ok h hK
      refine ⟨?_, this.2⟩
      unfold xop
      rw [if_neg hD, ho]
      exact this.1
  · rename_i h1 h2
    split at h
    · rename_i hp
      split at h
      · cases h
      · rename_i hdead
        injection h with h; subst h
        refine ⟨?_, fun t ht => by simp only [List.mem_singleton] at ht; rw [ht, app_num]⟩
        have key : ∀ D', (D' = true → D = true) → aop P D' o K s.as := fun D' hD' => by
          unfold aop
          split
          · rename_i f args ts ho; exact (h1 f args ts ho).elim
          · rename_i x ho; exact (h2 x ho).elim
          · refine ⟨hp, fun hD hc => ?_, fun _ => ?_⟩
            · have hD := hD' hD
              cases e : ((rowAt s.rows (o.dst.getD 0)).c.isDead && o.dst.isSome) with
              | false => exact (hdead (by simp only [hD, hc, e]; rfl)).elim
              | true =>
                simp only [Bool.and_eq_true] at e
                exact ⟨isDead_iff.2 e.1, e.2⟩
            · rw [← as_app]; exact hK _ (by simp)
        unfold xop
        split
        · rename_i hD; exact key true fun _ => hD
        · split
          · rename_i f args ts ho; exact (h1 f args ts ho).elim
          · rename_i x ho; exact (h2 x ho).elim
          · exact key false fun h => by cases h
    · cases h

def runOps (P : Program) (call : Caller) (D : Bool) (ops : Array Oper) : List Oper → CS → Option (List CS)
  | [], s => some [s]
  | o :: rest, s =>
    match o.guard with
    | none => bindL (opC P call D o s) (runOps P call D ops rest)
    | some (g, want) =>
      match ((ops[g]?).bind (·.dst) : Option Nat) with
      | none => runOps P call D ops rest (s.put o.dst (.r .ud))
      | some t =>
        match nth s.tm t with
        | .r (.bo b) => if b == want then bindL (opC P call D o s) (runOps P call D ops rest) else runOps P call D ops rest (s.put o.dst (.r .ud))
        | .r .ud => runOps P call D ops rest (s.put o.dst (.r .ud))
        | _ => none
theorem runOps_ok {P : Program} {call : Caller} (hcall : call.ok P) {D : Bool} {ops : Array Oper} {K : AS → Prop} : ∀ (l : List Oper) {s : CS} {L : List CS}, runOps P call D ops l s = some L → (∀ t ∈ L, t.n = s.n → K t.as) → aops P D ops l K s.as
  | [], s, L, h, hK => by
    unfold runOps at h
    injection h with h; subst h
    exact hK s (by simp) rfl
  | o :: l, s, L, h, hK => by
    have go : ∀ {s1 : CS}, s1.n = s.n → bindL (opC P call D o s1) (runOps P call D ops l) = some L → xop P D o (aops P D ops l K) s1.as := fun hn h => by
      obtain ⟨l1, h1, h2⟩ := bindL_spec h
      have hnum := (opC_ok hcall h1 (K := fun _ => True) fun _ _ => trivial).2
      refine (opC_ok hcall h1 fun t ht => ?_).1
      obtain ⟨ys, hys, hsub⟩ := h2 t ht
      exact runOps_ok hcall l hys fun t' ht' hn' => hK t' (hsub t' ht') (by rw [hn', hnum t ht, hn])
    have sk : runOps P call D ops l (s.put o.dst (.r .ud)) = some L → aops P D ops l K (s.as.put o.dst (.r .ud)) := fun h => by
      rw [← as_put]
      exact runOps_ok hcall l h fun t ht hn => hK t ht (by rw [hn, put_num])
    unfold runOps at h
    unfold aops
    split at h
    · rename_i hg
      rw [hg]
      exact go rfl h
    · rename_i g want hg
      rw [hg]
      dsimp only
      split at h
      · rename_i ht; rw [ht]; exact sk h
      · rename_i t ht
        rw [ht]
        dsimp only
        split at h
        · rename_i b hb
          have hb' : s.as.tm t = .r (.bo b) := hb
          rw [hb']
          dsimp only
          split at h
          · rename_i e
            have e : b = want := by simpa using e
            subst e
            refine ⟨fun _ => ?_, fun e => (by cases b <;> cases e)⟩
            rw [put_self hb']
            exact go rfl h
          · rename_i e
            have e : b = !want := by cases b <;> cases want <;> simp_all
            subst e
            refine ⟨fun e => (by cases want <;> cases e), fun _ => ?_⟩
            rw [put_self hb']
            exact sk h
        · rename_i hb
          have hb' : s.as.tm t = .r .ud := hb
          rw [hb']
          exact sk h
        · cases h

/-! ### Code -/
def codeOk (n : Nat) : Code → Bool
  | .region _ ops _ => dstOk ops n
  | .seq a b => codeOk n a && codeOk n b
  | .cond _ a b => codeOk n a && codeOk n b
  | .block _ c => codeOk n c
  | .loop c => codeOk n c
  | _ => true
/-- The functions that may be called, and how: 1 = for a slice of its own, 2 = it is lent rows, else it only reads. -/
structure Modes where
  fs : List (FuncId × Nat)
def modeOf : List (FuncId × Nat) → FuncId → Option Nat
  | [], _ => none
  | (g, m) :: l, f => if f = g then some m else modeOf l f
def fnOk (P : Program) (f : FuncId) : Bool :=
  match P.funcs[f]? with
  | some fn => match fn.body with
    | some c => codeOk fn.ntmps c && callable P f
    | none => false
  | none => false
def allOk (P : Program) : List (FuncId × Nat) → Bool
  | [] => true
  | (f, _) :: l => fnOk P f && allOk P l
theorem allOk_get {P : Program} : ∀ {l : List (FuncId × Nat)} {f : FuncId} {m : Nat}, allOk P l = true → modeOf l f = some m → fnOk P f = true
  | [], _, _, _, h => by simp [modeOf] at h
  | (g, k) :: l, f, m, ha, h => by
    simp only [allOk, Bool.and_eq_true] at ha
    unfold modeOf at h
    split at h
    · rename_i e; subst e; exact ha.1
    · exact allOk_get ha.2 h
mutual
def snapB (rows : Nat → Row) : AV → Bool
  | .r _ => true
  | .os k n sz off m => n == (rows k).ver && match (rows k).c with | .arr _ sz' es => sz == sz' && decide (off + m ≤ es.length) | _ => false
  | .pt k n off => n == (rows k).ver && match (rows k).c with | .box cs => snap1B rows (cs.drop off) | _ => false
  | .pe k n sz idx _ => n == (rows k).ver && match (rows k).c with | .arr _ sz' es => sz == sz' && decide (idx < es.length) | _ => false
  | .fn _ cs => snapBL rows cs
  | .ag cs => snapBL rows cs
  | .tu cs => snapBL rows cs
  | .mp _ _ => false
  | .mi _ _ => false
  | .pu _ _ _ => false
def snapBL (rows : Nat → Row) : List AV → Bool
  | [] => true
  | x :: xs => snapB rows x && snapBL rows xs
def snap1B (rows : Nat → Row) : List AV → Bool
  | [] => true
  | .os k n sz off m :: xs => (n == (rows k).ver && match (rows k).c with | .arr _ sz' es => sz == sz' && decide (off + m ≤ es.length) | _ => false) && snap1B rows xs
  | _ :: xs => snap1B rows xs
end
end Go.Oc

/- A call on given data, reckoned out (second part): code, calls, and what the answer means. -/
namespace Go.Oc
open Go Go.RowKit

section
variable {rows : Nat → Row}
theorem osB {k n sz off m : Nat} (h : (n == (rows k).ver && match (rows k).c with | .arr _ sz' es => sz == sz' && decide (off + m ≤ es.length) | _ => false) = true) :
    n = (rows k).ver ∧ match (rows k).c with | .arr _ sz' es => sz = sz' ∧ off + m ≤ es.length | .arc _ sz' es _ => sz = sz' ∧ off + m ≤ es.length | _ => False := by
  simp only [Bool.and_eq_true, beq_iff_eq] at h
  refine ⟨h.1, ?_⟩
  have h := h.2
  split at h
  · rename_i e; simp only [e]; simpa using h
  · cases h
theorem snap1B_ok : ∀ (xs : List AV), snap1B rows xs = true → snap1PL rows xs
  | [], _ => trivial
  | x :: xs, h => by
    cases x with
    | os k n sz off m =>
      simp only [snap1B, Bool.and_eq_true (_ && _)] at h
      exact ⟨osB h.1, snap1B_ok xs h.2⟩
    | _ => simp only [snap1B] at h; exact ⟨trivial, snap1B_ok xs h⟩
mutual
theorem snapB_ok : ∀ (x : AV), snapB rows x = true → snapP rows x
  | .r _, _ => by simp only [snapP]
  | .os k n sz off m, h => by simp only [snapB] at h; simp only [snapP]; exact osB h
  | .pt k n off, h => by
    simp only [snapB, Bool.and_eq_true, beq_iff_eq] at h
    simp only [snapP]
    refine ⟨h.1, ?_⟩
    have h := h.2
    generalize (rows k).c = c at h ⊢
    cases c <;> first | exact snap1B_ok _ h | cases h
  | .pe k n sz idx _, h => by
    simp only [snapB, Bool.and_eq_true, beq_iff_eq] at h
    simp only [snapP]
    refine ⟨h.1, ?_⟩
    have h := h.2
    generalize (rows k).c = c at h ⊢
    cases c <;> first | (simp only [Bool.and_eq_true, beq_iff_eq, decide_eq_true_eq] at h; exact h) | cases h
  | .fn _ cs, h => by simp only [snapB] at h; simp only [snapP]; exact snapBL_ok cs h
  | .ag cs, h => by simp only [snapB] at h; simp only [snapP]; exact snapBL_ok cs h
  | .tu cs, h => by simp only [snapB] at h; simp only [snapP]; exact snapBL_ok cs h
  | .mp _ _, h => by simp [snapB] at h
  | .mi _ _, h => by simp [snapB] at h
  | .pu _ _ _, h => by simp [snapB] at h
theorem snapBL_ok : ∀ (xs : List AV), snapBL rows xs = true → snapPL rows xs
  | [], _ => trivial
  | x :: xs, h => by
    simp only [snapBL, Bool.and_eq_true] at h
    exact ⟨snapB_ok x h.1, snapBL_ok xs h.2⟩
end
end

/-! ### Results -/
instance {P : Program} {s : AS} {v : ResultVar} : Decidable (resA P s v).pre := match v with
  | .tmp _ => .isTrue trivial
  | .cell a t => inferInstanceAs (Decidable (sLoad P s t (s.tm a)).pre)
def resList (P : Program) (s : AS) : List ResultVar → Option (List RV)
  | [] => some []
  | v :: vs =>
    if (resA P s v).pre then
      if snapB s.rows (resA P s v).y.av then
        match resList P s vs with
        | some rs => some (snapV s.rows (resA P s v).y.av :: rs)
        | none => none
      else none
    else none
theorem resList_ok {P : Program} {s : AS} : ∀ {vs : List ResultVar} {rs : List RV}, resList P s vs = some rs → resOk P s vs rs
  | [], rs, h => by injection h with h; exact h.symm
  | v :: vs, rs, h => by
    unfold resList at h
    split at h
    · rename_i hp
      split at h
      · rename_i hs
        split at h
        · rename_i rs' hr
          injection h with h; subst h
          exact ⟨hp, snapB_ok _ hs, _, rs', rfl, leL_refl.le_refl _, resList_ok hr⟩
        · cases h
      · cases h
    · cases h
abbrev Outs := List (Exit × CS)
def endRs (P : Program) (res : List ResultVar) (x : Exit × CS) : Option (List RV) :=
  match x.1 with
  | .normal => resList P x.2.as res
  | .ret => resList P x.2.as res
  | _ => none
theorem endRs_ok {P : Program} {res : List ResultVar} {x : Exit × CS} {rs : List RV} (h : endRs P res x = some rs) : fpostL P res rs x.1 x.2.as := by
  obtain ⟨e, t⟩ := x
  unfold endRs at h
  cases e <;> first | exact resList_ok h | cases h
def sameRs : List RV → List RV → Bool
  | [], [] => true
  | .bo a :: l, .bo b :: l' => (a == b) && sameRs l l'
  | .it .i64 a :: l, .it .i64 b :: l' => (a == b) && sameRs l l'
  | _, _ => false
theorem sameRs_ok : ∀ {l l' : List RV}, sameRs l l' = true → l = l' := fun {l l'} h => by
  fun_induction sameRs l l' with
  | case1 => rfl
  | case2 a l b l' ih => simp only [Bool.and_eq_true, beq_iff_eq] at h; rw [h.1, ih h.2]
  | case3 a l b l' ih => simp only [Bool.and_eq_true, beq_iff_eq] at h; rw [h.1, ih h.2]
  | case4 => cases h
def agree (P : Program) (res : List ResultVar) : Outs → Option (List RV)
  | [] => none
  | [x] => endRs P res x
  | x :: l => match endRs P res x, agree P res l with
    | some r, some r' => if sameRs r r' then some r else none
    | _, _ => none
theorem agree_ok {P : Program} {res : List ResultVar} : ∀ {L : Outs} {rs : List RV}, agree P res L = some rs → ∀ x ∈ L, fpostL P res rs x.1 x.2.as
  | [], _, h => by simp [agree] at h
  | [x], rs, h => fun y hy => by
    simp only [List.mem_singleton] at hy
    subst hy
    exact endRs_ok (by simpa only [agree] using h)
  | x :: y :: l, rs, h => fun z hz => by
    simp only [agree] at h
    split at h
    · rename_i r r' h1 h2
      split at h
      · rename_i e
        injection h with h; subst h
        have e := sameRs_ok e
        subst e
        rcases List.mem_cons.1 hz with rfl | hz
        · exact endRs_ok h1
        · exact agree_ok (L := y :: l) h2 z hz
      · cases h
    · cases h

/-! ### Calls -/
def isEnd : Exit → Bool
  | .normal => true
  | .ret => true
  | _ => false
def callA (P : Program) (ex : Code → CS → Option Outs) (fn : Func) (c : Code) (args : List RV) : Option RV :=
  if args.length ≤ fn.ntmps then
    match ex c ⟨fn.ntmps, args.map .r, []⟩ with
    | some L => match agree P fn.results.toList L with
      | some rs => some (resV rs)
      | none => none
    | none => none
  else none
def callO (P : Program) (ex : Code → CS → Option Outs) (fn : Func) (c : Code) (args : List RV) : Option (Nat × Nat × List (List RV) × Nat) :=
  if args.length ≤ fn.ntmps then
    match fn.results.toList, ex c ⟨fn.ntmps, args.map .r, []⟩ with
    | [rv], some [(e, t)] =>
      if isEnd e then
      if (resA P t.as rv).pre then
        match (resA P t.as rv).y.av with
        | .os j n sz off m =>
          match rowAt t.rows j with
          | ⟨n', .arr ty sz' es⟩ => if n == n' && sz == sz' && off == 0 && es.all RV.flatL then some (ty, sz, es, m) else none
          | _ => none
        | _ => none
      else none
      else none
    | _, _ => none
  else none
/- The rows that a call is lent. -/
mutual
def keysA : AV → List Nat
  | .pt k _ _ => [k]
  | .pe k _ _ _ _ => [k]
  | .os k _ _ _ _ => [k]
  | .mp k _ => [k]
  | .fn _ cs => keysL cs
  | .ag cs => keysL cs
  | .tu cs => keysL cs
  | _ => []
def keysL : List AV → List Nat
  | [] => []
  | x :: xs => keysA x ++ keysL xs
end
def keysB (rows : Nat → Row) : List Nat → List Nat
  | [] => []
  | k :: ks => k :: ((match (rows k).c with | .box cs => keysL cs | _ => []) ++ keysB rows ks)
def mkRho : List Nat → Nat → List (Nat × Nat)
  | [], _ => []
  | k :: ks, i => if (k :: ks).length > 1 && ks.contains k then mkRho ks i else (i, k) :: mkRho ks (i + 1)
def lendRows (ρ : List (Nat × Nat)) (s : AS) : List (Nat × Nat) → Option (List (Nat × RowC))
  | [] => some []
  | (pk, ck) :: l => match lendC ρ s.ver (s.rows ck).c, lendRows ρ s l with
    | some c, some L => some ((pk, c) :: L)
    | _, _ => none
theorem lendRows_ok {ρ : List (Nat × Nat)} {s : AS} : ∀ {l : List (Nat × Nat)} {L : List (Nat × RowC)}, lendRows ρ s l = some L → lendOk ρ s l L
  | [], L, h => by injection h with h; subst h; trivial
  | (pk, ck) :: l, L, h => by
    unfold lendRows at h
    split at h
    · rename_i c L' h1 h2
      injection h with h; subst h
      exact ⟨rfl, h1, lendRows_ok h2⟩
    · cases h
def frzB (ks : List (Nat × RowC)) (rows : Nat → Row) : AV → Bool
  | .os j n sz off m => if keyIn ks j then true else (decide (j < 1000) && snapB rows (.os j n sz off m))
  | _ => true
theorem frzB_ok {ks : List (Nat × RowC)} {rows : Nat → Row} {x : AV} (h : frzB ks rows x = true) : frzP1 ks rows x := by
  cases x with
  | os j n sz off m =>
    simp only [frzB] at h
    simp only [frzP1]
    split at h
    · rename_i e; rw [if_pos e]; trivial
    · rename_i e
      rw [if_neg e]
      simp only [Bool.and_eq_true, decide_eq_true_eq] at h
      refine ⟨h.1, ?_⟩
      have := snapB_ok _ h.2
      simpa only [snapP, snap1P] using this
  | _ => simp only [frzP1]
def frzBL (ks : List (Nat × RowC)) (rows : Nat → Row) : List AV → Bool
  | [] => true
  | x :: xs => frzB ks rows x && frzBL ks rows xs
theorem frzBL_ok {ks : List (Nat × RowC)} {rows : Nat → Row} : ∀ {xs : List AV}, frzBL ks rows xs = true → frzPL ks rows xs
  | [], _ => trivial
  | x :: xs, h => by
    simp only [frzBL, Bool.and_eq_true] at h
    exact ⟨frzB_ok h.1, frzBL_ok h.2⟩
def frzBC (ks : List (Nat × RowC)) (rows : Nat → Row) : RowC → Bool
  | .box cs => frzBL ks rows cs
  | _ => true
theorem frzBC_ok {ks : List (Nat × RowC)} {rows : Nat → Row} {c : RowC} (h : frzBC ks rows c = true) : frzPC ks rows c := by
  cases c <;> first | exact frzBL_ok h | trivial
def finM (ks : List (Nat × RowC)) (rows : Nat → Row) : List (Nat × RowC) → Option (List (Nat × RowC))
  | [] => some []
  | (k, _) :: L => if okC (rows k).c && frzBC ks rows (rows k).c then match finM ks rows L with | some L' => some ((k, frzC ks rows (rows k).c) :: L') | none => none else none
theorem finM_ok {ks : List (Nat × RowC)} {rows : Nat → Row} : ∀ {L L' : List (Nat × RowC)}, finM ks rows L = some L' → mfin ks rows L L'
  | [], L', h => by injection h with h; subst h; trivial
  | (k, c) :: L, L', h => by
    unfold finM at h
    split at h
    · rename_i hc
      simp only [Bool.and_eq_true] at hc
      split at h
      · rename_i L'' h2
        injection h with h; subst h
        exact ⟨rfl, hc.1, frzBC_ok hc.2, rfl, finM_ok h2⟩
      · cases h
    · cases h
def resListM (P : Program) (ks : List (Nat × RowC)) (s : AS) : List ResultVar → Option (List AV)
  | [] => some []
  | v :: vs =>
    if (resA P s v).pre then
      if frzB ks s.rows (resA P s v).y.av then
        match resListM P ks s vs with
        | some rs => some (frz1 ks s.rows (resA P s v).y.av :: rs)
        | none => none
      else none
    else none
theorem resListM_ok {P : Program} {ks : List (Nat × RowC)} {s : AS} : ∀ {vs : List ResultVar} {rs : List AV}, resListM P ks s vs = some rs → resM P ks s vs rs
  | [], rs, h => by injection h with h; exact h.symm
  | v :: vs, rs, h => by
    unfold resListM at h
    split at h
    · rename_i hp
      split at h
      · rename_i hs
        split at h
        · rename_i rs' hr
          injection h with h; subst h
          exact ⟨hp, frzB_ok hs, rs', rfl, resListM_ok hr⟩
        · cases h
      · cases h
    · cases h
def rowsOf : List (Nat × RowC) → List (Nat × Row)
  | [] => []
  | (k, c) :: L => (k, ⟨0, c⟩) :: rowsOf L
def callM (P : Program) (ex : Code → CS → Option Outs) (fn : Func) (c : Code) (L : List (Nat × RowC)) (args : List AV) : Option (List (Nat × RowC) × AV) :=
  if args.length ≤ fn.ntmps && pinned L then
    match ex c ⟨fn.ntmps, args, rowsOf L⟩ with
    | some [(e, t)] =>
      if isEnd e then
        match finM L t.as.rows L, resListM P L t.as fn.results.toList with
        | some L', some rs => some (L', resMV rs)
        | _, _ => none
      else none
    | _ => none
  else none
def putRows (s : CS) (L' : List (Nat × RowC)) (ver : Nat → Nat) (ρ : List (Nat × Nat)) : List (Nat × Nat) → CS
  | [] => s
  | (pk, ck) :: l => putRows (s.row ck ⟨ver ck, backC ρ ver (lookc L' pk)⟩) L' ver ρ l
def callC (P : Program) (fs : List (FuncId × Nat)) (ex : Code → CS → Option Outs) : Caller := fun D s d f xs =>
  match callee? f with
  | none => none
  | some (F, cs) =>
    match modeOf fs F, P.funcs[F]? with
    | some m, some fn =>
      match fn.body with
      | none => none
      | some c =>
        if m == 1 && !D then
          match d with
          | some dd =>
            if snapBL s.as.rows (xs ++ cs) && decide (dd < 1000) then
              match callO P ex fn c (snapVL s.as.rows (xs ++ cs)) with
              | some (t, sz, es, m) => some ((s.row dd ⟨(s.as.rows dd).ver + 1, .arr t sz es⟩).put d (.os dd ((s.as.rows dd).ver + 1) sz 0 m))
              | none => none
            else none
          | none => none
        else if m == 2 && !D then
          let ρ := mkRho (keysB s.as.rows (keysL (xs ++ cs))) 1000
          match lendL ρ s.as.ver (xs ++ cs), lendRows ρ s.as ρ with
          | some args, some L =>
            match callM P ex fn c L args with
            | some (L', r) => if apart ρ && sameKeys ρ L' then some ((putRows s L' s.as.ver ρ ρ).put d (backA ρ s.as.ver r)) else none
            | none => none
          | _, _ => none
        else if snapBL s.as.rows (xs ++ cs) then
          match callA P ex fn c (snapVL s.as.rows (xs ++ cs)) with
          | some r => if r.flatB || AV.pureL (xs ++ cs) then some (s.put d (.r r)) else none
          | none => none
        else none
    | _, _ => none

/-! ### Calls that are known by a contract -/
mutual
def RV.dl : RV → RV → Bool
  | .ns, .sl _ [] => true
  | .sl s es, .sl t fs => s == t && RV.dlE es fs
  | .ag xs, .ag ys => RV.dlL xs ys
  | .rp xs, .rp ys => RV.dlL xs ys
  | .fn f xs, .fn g ys => f == g && RV.dlL xs ys
  | .it .i64 n, .it .i64 m => n == m
  | .bo a, .bo b => a == b
  | .ns, .ns => true
  | .np, .np => true
  | .nf, .nf => true
  | _, _ => false
def RV.dlL : List RV → List RV → Bool
  | [], [] => true
  | x :: xs, y :: ys => RV.dl x y && RV.dlL xs ys
  | _, _ => false
def RV.dlE : List (List RV) → List (List RV) → Bool
  | [], [] => true
  | x :: xs, y :: ys => RV.dlL x y && RV.dlE xs ys
  | _, _ => false
end
theorem dlL_len : ∀ {xs ys : List RV}, RV.dlL xs ys = true → xs.length = ys.length
  | [], [], _ => rfl
  | x :: xs, y :: ys, h => by
    simp only [RV.dlL, Bool.and_eq_true] at h
    simp [dlL_len h.2]
  | [], _ :: _, h => by simp [RV.dlL] at h
  | _ :: _, [], h => by simp [RV.dlL] at h
theorem dlE_len : ∀ {xs ys : List (List RV)}, RV.dlE xs ys = true → xs.length = ys.length
  | [], [], _ => rfl
  | x :: xs, y :: ys, h => by
    simp only [RV.dlE, Bool.and_eq_true] at h
    simp [dlE_len h.2]
  | [], _ :: _, h => by simp [RV.dlE] at h
  | _ :: _, [], h => by simp [RV.dlE] at h
section
variable {w : World} {R : Nat → Prop}
mutual
theorem dl_rel : ∀ (x y : RV) (v : Value), RV.dl x y = true → x.rel w R v → y.rel w R v
  | .ns, .sl sz [], v, _, h => by
    simp only [RV.rel] at h ⊢
    obtain ⟨A, rfl⟩ := h
    exact ⟨A, 0, rfl, Nat.le_refl _, Nat.zero_le _, fun h => absurd rfl h⟩
  | .sl s es, .sl t fs, v, hd, h => by
    simp only [RV.dl, Bool.and_eq_true, beq_iff_eq] at hd
    obtain ⟨rfl, hd⟩ := hd
    have hl := dlE_len hd
    simp only [RV.rel] at h ⊢
    obtain ⟨A, c, hv, h1, h2, h3⟩ := h
    refine ⟨A, c, by rw [← hl]; exact hv, by rw [← hl]; exact h1, h2, fun hne => ?_⟩
    obtain ⟨ad, e, hr, hc⟩ := h3 (fun e => hne (by rw [e] at hl; exact List.eq_nil_of_length_eq_zero hl.symm))
    exact ⟨ad, e, hr, dl_relE s es fs ad 0 hd hc⟩
  | .ag xs, .ag ys, v, hd, h => by
    simp only [RV.dl] at hd
    simp only [RV.rel] at h ⊢
    obtain ⟨vs, e, h1, hV⟩ := h
    exact ⟨vs, e, h1, dl_relV xs ys _ hd hV⟩
  | .rp xs, .rp ys, v, hd, h => by
    simp only [RV.dl] at hd
    simp only [RV.rel] at h ⊢
    obtain ⟨ad, e, hR, hC⟩ := h
    exact ⟨ad, e, hR, dl_relC xs ys _ _ hd hC⟩
  | .fn f xs, .fn g ys, v, hd, h => by
    simp only [RV.dl, Bool.and_eq_true, beq_iff_eq] at hd
    simp only [RV.rel] at h ⊢
    obtain ⟨vs, e, hV⟩ := h
    exact ⟨vs, by rw [← hd.1]; exact e, dl_relV xs ys _ hd.2 hV⟩
  | .it .i64 n, .it .i64 m, v, hd, h => by
    simp only [RV.dl, beq_iff_eq] at hd
    subst hd; exact h
  | .bo a, .bo b, v, hd, h => by
    simp only [RV.dl, beq_iff_eq] at hd
    subst hd; exact h
  | .ns, .ns, _, _, h => h
  | .np, .np, _, _, h => h
  | .nf, .nf, _, _, h => h
theorem dl_relV : ∀ (xs ys : List RV) (vs : List Value), RV.dlL xs ys = true → RV.relV w R xs vs → RV.relV w R ys vs
  | [], [], _, _, h => h
  | x :: xs, y :: ys, vs, hle, h => by
    simp only [RV.dlL, Bool.and_eq_true] at hle
    simp only [RV.relV] at h ⊢
    obtain ⟨u, us, e, h1, h2⟩ := h
    exact ⟨u, us, e, dl_rel x y u hle.1 h1, dl_relV xs ys us hle.2 h2⟩
  | [], _ :: _, _, hle, _ => by simp [RV.dlL] at hle
  | _ :: _, [], _, hle, _ => by simp [RV.dlL] at hle
theorem dl_relC : ∀ (xs ys : List RV) (ad : Addr) (j : Nat), RV.dlL xs ys = true → RV.relC w R xs ad j → RV.relC w R ys ad j
  | [], [], _, _, _, h => h
  | x :: xs, y :: ys, ad, j, hle, h => by
    simp only [RV.dlL, Bool.and_eq_true] at hle
    simp only [RV.relC] at h ⊢
    obtain ⟨⟨u, hu, ho, h1⟩, h2⟩ := h
    exact ⟨⟨u, hu, ho, dl_rel x y u hle.1 h1⟩, dl_relC xs ys ad (j + 1) hle.2 h2⟩
  | [], _ :: _, _, _, hle, _ => by simp [RV.dlL] at hle
  | _ :: _, [], _, _, hle, _ => by simp [RV.dlL] at hle
theorem dl_relE : ∀ (sz : Nat) (xs ys : List (List RV)) (ad : Addr) (j : Nat), RV.dlE xs ys = true → RV.relE w R sz xs ad j → RV.relE w R sz ys ad j
  | _, [], [], _, _, _, h => h
  | sz, x :: xs, y :: ys, ad, j, hle, h => by
    simp only [RV.dlE, Bool.and_eq_true] at hle
    simp only [RV.relE] at h ⊢
    exact ⟨by rw [← dlL_len hle.1]; exact h.1, dl_relC x y ad j hle.1 h.2.1, dl_relE sz xs ys ad (j + sz) hle.2 h.2.2⟩
  | _, [], _ :: _, _, _, hle, _ => by simp [RV.dlE] at hle
  | _, _ :: _, [], _, _, hle, _ => by simp [RV.dlE] at hle
end
end
/-- A contract holds for what the arguments stand for. -/
theorem acalls_dl {P : Program} {f : FuncId} {xs ys : List RV} {r : RV} (h : ACalls P f ys r) (hd : RV.dlL xs ys = true) : ACalls P f xs r :=
  ⟨h.1, fun w R vs hR hv => h.2 w R vs hR (dl_relV xs ys _ hd hv)⟩
/-- Calls whose answers are known. -/
abbrev Orc := List (FuncId × List RV × RV)
def orcGet : Orc → FuncId → List RV → Option RV
  | [], _, _ => none
  | (g, ys, r) :: l, f, xs => if f == g && RV.dlL xs ys then some r else orcGet l f xs
def orcOk (P : Program) : Orc → Prop
  | [] => True
  | (g, ys, r) :: l => ACalls P g ys r ∧ orcOk P l
theorem orcGet_ok {P : Program} : ∀ {l : Orc} {f : FuncId} {xs : List RV} {r : RV}, orcOk P l → orcGet l f xs = some r → ACalls P f xs r
  | [], _, _, _, _, h => by simp [orcGet] at h
  | (g, ys, r') :: l, f, xs, r, ho, h => by
    unfold orcGet at h
    split at h
    · rename_i hc
      simp only [Bool.and_eq_true, beq_iff_eq] at hc
      injection h with h; subst h
      rw [hc.1]
      exact acalls_dl ho.1 hc.2
    · exact orcGet_ok ho.2 h
def callR (orc : Orc) : Caller := fun _ s d f xs =>
  match callee? f with
  | none => none
  | some (F, cs) =>
    if snapBL s.as.rows (xs ++ cs) then
      match orcGet orc F (snapVL s.as.rows (xs ++ cs)) with
      | some r => if r.flatB || AV.pureL (xs ++ cs) then some (s.put d (.r r)) else none
      | none => none
    else none
def callX (P : Program) (fs : List (FuncId × Nat)) (orc : Orc) (ex : Code → CS → Option Outs) : Caller := fun D s d f xs =>
  match callC P fs ex D s d f xs with
  | some t => some t
  | none => callR orc D s d f xs

/-! ### Code -/
def norm : List CS → Outs
  | [] => []
  | t :: l => (.normal, t) :: norm l
def leave (id : Nat) : Exit → Exit
  | .exit id' => if id' = id then .normal else .exit id'
  | e => e
def blk (id : Nat) : Outs → Outs
  | [] => []
  | (e, t) :: l => (leave id e, t) :: blk id l
/-- A region that draws its order makes rows only where none is. -/
def killOps : List Oper → CS → CS
  | [], s => s
  | o :: l, s => if cls o == 2 && decide (o.dst.getD 0 < 1000) then killOps l (s.row (o.dst.getD 0) ⟨(rowAt s.rows (o.dst.getD 0)).ver + 1, .dead⟩) else killOps l s
def killD (D : Bool) (l : List Oper) (s : CS) : CS := match D with | true => killOps l s | false => s
/-- Where the slots that a region does not make lie. -/
def slots : List Operand → List Nat
  | [] => []
  | .tmp t :: l => t :: slots l
  | _ :: l => slots l
def kappa (ops : Array Oper) (s : CS) : List Oper → List (Nat × Option Nat)
  | [] => []
  | o :: l => (slots o.op.operands.toList).map (fun t => (t, keyOf (nth s.tm t))) ++ kappa ops s l
def drawOk (D : Bool) (ops : Array Oper) (s : CS) : Bool := !D || lexOk ops || lexOk2 ops (kappa ops s ops.toList)
def exec (P : Program) (fs : List (FuncId × Nat)) (orc : Orc) : Nat → Code → CS → Option Outs
  | 0, _, _ => none
  | k + 1, .region _ ops D, s => if drawOk D ops (killD D ops.toList s) then match runOps P (callX P fs orc (exec P fs orc k)) D ops ops.toList (killD D ops.toList s) with | some L => some (norm L) | none => none else none
  | k + 1, .seq a b, s => bindL (exec P fs orc k a s) fun x => match x.1 with | .normal => exec P fs orc k b x.2 | e => some [(e, x.2)]
  | k + 1, .loop c, s => bindL (exec P fs orc k c s) fun x => match x.1 with | .normal => exec P fs orc k (.loop c) x.2 | e => some [(e, x.2)]
  | k + 1, .cond c a b, s => match s.as.ev c with | .r (.bo t) => bif t then exec P fs orc k a s else exec P fs orc k b s | _ => none
  | k + 1, .block id c, s => match exec P fs orc k c s with | some L => some (blk id L) | none => none
  | _ + 1, .skip, s => some [(.normal, s)]
  | _ + 1, .label _, s => some [(.normal, s)]
  | _ + 1, .exit id, s => some [(.exit id, s)]
  | _ + 1, .ret, s => some [(.ret, s)]
  | _ + 1, _, _ => none
/-- The call's result, reckoned out. -/
def evalX (P : Program) (fs : List (FuncId × Nat)) (orc : Orc) (k : Nat) (F : FuncId) (args : List RV) : Option RV :=
  match P.funcs[F]? with
  | some fn => match fn.body with
    | some c => callA P (exec P fs orc k) fn c args
    | none => none
  | none => none
def evalA (P : Program) (fs : List (FuncId × Nat)) (k : Nat) (F : FuncId) (args : List RV) : Option RV := evalX P fs [] k F args
end Go.Oc

/- What is reckoned out is so: a call's answer is what the function returns. -/
namespace Go.Oc
open Go Go.RowKit

section
variable {P : Program}
theorem norm_mem : ∀ {L : List CS} {t : CS}, t ∈ L → (Exit.normal, t) ∈ norm L
  | [], _, h => by simp at h
  | x :: l, t, h => by
    rcases List.mem_cons.1 h with rfl | h
    · simp [norm]
    · simp [norm, norm_mem h]
theorem blk_mem {id : Nat} : ∀ {L : Outs} {e : Exit} {t : CS}, (e, t) ∈ L → (leave id e, t) ∈ blk id L
  | [], _, _, h => by simp at h
  | (e', t') :: l, e, t, h => by
    rcases List.mem_cons.1 h with h | h
    · injection h with h1 h2; subst h1 h2; simp [blk]
    · simp [blk, blk_mem h]
theorem nth_look : ∀ (xs : List AV) (k t : Nat), look (argA k xs) (k + t) = nth xs t
  | [], _, _ => by simp [argA, look_nil, nth]
  | x :: xs, k, 0 => by simp [argA, look_cons, nth]
  | x :: xs, k, t + 1 => by
    have := nth_look xs (k + 1) t
    rw [show k + 1 + t = k + (t + 1) from by omega] at this
    simp only [argA, look_cons, nth, this]
    rw [if_neg (by omega)]
theorem argL_A : ∀ (xs : List RV) (k : Nat), argL k xs = argA k (xs.map .r)
  | [], _ => rfl
  | x :: xs, k => by simp only [argL, argA, List.map_cons, argL_A xs]
theorem rowsOf_at : ∀ (L : List (Nat × RowC)) (k : Nat), rowAt (rowsOf L) k = ⟨0, lookc L k⟩
  | [], _ => rfl
  | (j, c) :: L, k => by
    simp only [rowsOf, rowAt, lookc_cons, rowsOf_at L k]
    split <;> rfl
theorem start_as {n : Nat} {xs : List AV} {L : List (Nat × RowC)} : (CS.mk n xs (rowsOf L)).as = st n (argA 0 xs) (fun _ => 0) L := by
  simp only [CS.as, st, AS.mk.injEq, true_and]
  refine ⟨?_, funext fun k => rowsOf_at L k⟩
  funext t
  have := nth_look xs 0 t
  rw [Nat.zero_add] at this
  exact this.symm
theorem start_as0 {n : Nat} {xs : List RV} : (CS.mk n (xs.map .r) []).as = st n (argL 0 xs) (fun _ => 0) [] := by
  rw [argL_A]
  exact start_as (L := [])
theorem as_putRows {L' : List (Nat × RowC)} {ver : Nat → Nat} {ρ : List (Nat × Nat)} : ∀ (l : List (Nat × Nat)) (s : CS), (putRows s L' ver ρ l).as = { s.as with rows := backRows ρ ver L' l s.as.rows }
  | [], s => rfl
  | (pk, ck) :: l, s => by
    simp only [putRows, as_putRows l, as_row, backRows]
    rfl
theorem putRows_num {L' : List (Nat × RowC)} {ver : Nat → Nat} {ρ : List (Nat × Nat)} : ∀ (l : List (Nat × Nat)) (s : CS), (putRows s L' ver ρ l).n = s.n
  | [], s => rfl
  | (pk, ck) :: l, s => by simp only [putRows, putRows_num l]; rfl

theorem killOps_sub : ∀ (l : List Oper) (s : CS), Sub s.as (killOps l s).as ∧ (killOps l s).n = s.n
  | [], s => ⟨Sub.refl _, rfl⟩
  | o :: l, s => by
    unfold killOps
    split
    · rename_i h
      simp only [Bool.and_eq_true, decide_eq_true_eq] at h
      obtain ⟨h1, h2⟩ := killOps_sub l (s.row (o.dst.getD 0) ⟨(rowAt s.rows (o.dst.getD 0)).ver + 1, .dead⟩)
      refine ⟨Sub.trans ?_ h1, h2⟩
      rw [as_row]
      exact sub_kill s.as (o.dst.getD 0) h.2
    · exact killOps_sub l s
theorem killD_sub (D : Bool) (l : List Oper) (s : CS) : Sub s.as (killD D l s).as ∧ (killD D l s).n = s.n := by
  cases D with
  | true => exact killOps_sub l s
  | false => exact ⟨Sub.refl _, rfl⟩
/-- What the walk of one code promises. -/
def Good (P : Program) (ex : Code → CS → Option Outs) : Prop := ∀ c t L, codeOk t.n c = true → ex c t = some L → (∀ x ∈ L, x.2.n = t.n) ∧ ∀ C Q, (∀ x ∈ L, Q x.1 x.2.as) → awp P C c Q t.as

theorem callA_ok {ex : Code → CS → Option Outs} (hex : Good P ex) {F : FuncId} {fn : Func} {c : Code} {args : List RV} {r : RV} (hF : P.funcs[F]? = some fn) (hb : fn.body = some c) (hok : fnOk P F = true) (h : callA P ex fn c args = some r) : ACalls P F args r := by
  unfold fnOk at hok
  simp only [hF, hb, Bool.and_eq_true] at hok
  unfold callA at h
  split at h
  · rename_i hlen
    split at h
    · rename_i L hL
      split at h
      · rename_i rs hrs
        injection h with h
        have hag := agree_ok hrs
        refine acalls_of hF hb hok.2 rfl hlen h fun C => awp_sub (sub_look (argL 0 args) fun p hp => ?_) ?_
        · obtain ⟨i, x, rfl, e⟩ := argL_mem p hp
          simp only [argTm, Nat.zero_add, e]
        · have := ((hex c _ L hok.1 hL).2 C (fpost P fn rs) fun x hx => ?_)
          · rw [start_as0] at this
            exact this
          · have := hag x hx
            obtain ⟨e, t⟩ := x
            cases e <;> exact this
      · cases h
    · cases h
  · cases h
theorem callO_ok {ex : Code → CS → Option Outs} (hex : Good P ex) {F : FuncId} {fn : Func} {c : Code} {args : List RV} {ty sz m : Nat} {es : List (List RV)} (hF : P.funcs[F]? = some fn) (hb : fn.body = some c) (hok : fnOk P F = true)
    (h : callO P ex fn c args = some (ty, sz, es, m)) : OCalls P F args ty sz es m := by
  unfold fnOk at hok
  simp only [hF, hb, Bool.and_eq_true] at hok
  unfold callO at h
  split at h
  · rename_i hlen
    split at h
    · rename_i rv e t hres hL
      split at h
      · rename_i he
        split at h
        · rename_i hp
          split at h
          · rename_i j n sz1 off m1 hav
            split at h
            · rename_i n' ty1 sz' es1 hrow
              split at h
              · rename_i hc
                simp only [Bool.and_eq_true, beq_iff_eq, List.all_eq_true] at hc
                obtain ⟨⟨⟨h1, h2⟩, h3⟩, h4⟩ := hc
                subst h1 h2 h3
                injection h with h
                simp only [Prod.mk.injEq] at h
                obtain ⟨rfl, rfl, rfl, rfl⟩ := h
                refine ocalls_0 rv hF hb hok.2 rfl hres hlen h4 fun C => ?_
                have := ((hex c _ _ hok.1 hL).2 C (opostL P rv ty1 sz1 es1 m1) fun x hx => ?_)
                · rw [start_as0] at this
                  exact this
                · simp only [List.mem_singleton] at hx
                  subst hx
                  have key : resC (resA P t.as rv) fun v => ∃ j n, v = .os j n sz1 0 m1 ∧ t.as.rows j = ⟨n, .arr ty1 sz1 es1⟩ := ⟨hp, j, n, hav, hrow⟩
                  cases e <;> first | exact key | cases he
              · cases h
            · cases h
          · cases h
        · cases h
      · cases h
    · cases h
  · cases h
theorem callM_ok {ex : Code → CS → Option Outs} (hex : Good P ex) {F : FuncId} {fn : Func} {c : Code} {L L' : List (Nat × RowC)} {args : List AV} {r : AV} (hF : P.funcs[F]? = some fn) (hb : fn.body = some c) (hok : fnOk P F = true)
    (h : callM P ex fn c L args = some (L', r)) : MCalls P F L L' args r := by
  unfold fnOk at hok
  simp only [hF, hb, Bool.and_eq_true] at hok
  unfold callM at h
  split at h
  · rename_i hlen
    simp only [Bool.and_eq_true, decide_eq_true_eq] at hlen
    split at h
    · rename_i e t hL
      split at h
      · rename_i he
        split at h
        · rename_i L1 rs hfin hres
          injection h with h
          simp only [Prod.mk.injEq] at h
          obtain ⟨rfl, rfl⟩ := h
          refine mcalls_st (rs := rs) L L1 fn.results.toList hF hb hok.2 rfl rfl hlen.1 rfl hlen.2 fun C => ?_
          have := ((hex c _ _ hok.1 hL).2 C (mpostL P fn.results.toList rs L L1) fun x hx => ?_)
          · rw [start_as] at this
            exact this
          · simp only [List.mem_singleton] at hx
            subst hx
            have key : resM P L t.as fn.results.toList rs ∧ mfin L t.as.rows L L1 := ⟨resListM_ok hres, finM_ok hfin⟩
            cases e <;> first | exact key | cases he
        · cases h
      · cases h
    · cases h
  · cases h
theorem callC_ok {fs : List (FuncId × Nat)} (hfs : allOk P fs = true) {ex : Code → CS → Option Outs} (hex : Good P ex) : (callC P fs ex).ok P := fun D s d f xs t h => by
  unfold callC at h
  split at h
  · cases h
  · rename_i F cs hcal
    split at h
    · rename_i m fn hm hF
      have hok := allOk_get hfs hm
      split at h
      · cases h
      · rename_i c hb
        split at h
        · rename_i hmode
          simp only [Bool.and_eq_true, beq_iff_eq, Bool.not_eq_true'] at hmode
          split at h
          · rename_i dd
            split at h
            · rename_i hsn
              simp only [Bool.and_eq_true, decide_eq_true_eq] at hsn
              split at h
              · rename_i ty sz es m' hO
                injection h with h; subst h
                refine ⟨put_num _ _ _, fun K hK => .inr ⟨hmode.2, .inr ⟨F, cs, _, ty, sz, es, m', dd, hcal, snapBL_ok _ hsn.1, leL_refl _, callO_ok hex hF hb hok hO, rfl, hsn.2, ?_⟩⟩⟩
                rw [as_put, as_row] at hK
                exact hK
              · cases h
            · cases h
          · cases h
        · split at h
          · rename_i hmode
            simp only [Bool.and_eq_true, beq_iff_eq, Bool.not_eq_true'] at hmode
            dsimp only at h
            split at h
            · rename_i args L hargs hL
              split at h
              · rename_i L' r hM
                split at h
                · rename_i hap
                  simp only [Bool.and_eq_true] at hap
                  injection h with h; subst h
                  refine ⟨(put_num _ _ _).trans (putRows_num _ _), fun K hK => .inr ⟨hmode.2, .inl ⟨F, cs, _, L, L', args, r, hcal, hargs, lendRows_ok hL, hap.1, hap.2, callM_ok hex hF hb hok hM, ?_⟩⟩⟩
                  rw [as_put, as_putRows] at hK
                  exact hK
                · cases h
              · cases h
            · cases h
          · split at h
            · rename_i hsn
              split at h
              · rename_i r hA
                split at h
                · rename_i hfl
                  simp only [Bool.or_eq_true] at hfl
                  injection h with h; subst h
                  refine ⟨put_num _ _ _, fun K hK => .inl ⟨r, ⟨F, cs, _, hcal, snapBL_ok _ hsn, leL_refl _, callA_ok hex hF hb hok hA, hfl⟩, ?_⟩⟩
                  rw [as_put] at hK
                  exact hK
                · cases h
              · cases h
            · cases h
    · cases h

theorem callR_ok {orc : Orc} (ho : orcOk P orc) : (callR orc).ok P := fun D s d f xs t h => by
  unfold callR at h
  split at h
  · cases h
  · rename_i F cs hcal
    split at h
    · rename_i hsn
      split at h
      · rename_i r hA
        split at h
        · rename_i hfl
          simp only [Bool.or_eq_true] at hfl
          injection h with h; subst h
          refine ⟨put_num _ _ _, fun K hK => .inl ⟨r, ⟨F, cs, _, hcal, snapBL_ok _ hsn, leL_refl _, orcGet_ok ho hA, hfl⟩, ?_⟩⟩
          rw [as_put] at hK
          exact hK
        · cases h
      · cases h
    · cases h
theorem callX_ok {fs : List (FuncId × Nat)} (hfs : allOk P fs = true) {orc : Orc} (ho : orcOk P orc) {ex : Code → CS → Option Outs} (hex : Good P ex) : (callX P fs orc ex).ok P := fun D s d f xs t h => by
  unfold callX at h
  split at h
  · rename_i t' e
    injection h with h; subst h
    exact callC_ok hfs hex D s d f xs _ e
  · exact callR_ok ho D s d f xs t h
theorem bindL_mem {α β : Type} {x : Option (List α)} {f : α → Option (List β)} {zs : List β} (h : bindL x f = some zs) {z : β} (hz : z ∈ zs) : ∃ l, x = some l ∧ ∃ a ∈ l, ∃ ys, f a = some ys ∧ z ∈ ys := by
  unfold bindL at h
  split at h
  · cases h
  · rename_i l
    refine ⟨l, rfl, ?_⟩
    induction l generalizing zs with
    | nil => injection h with h; subst h; simp at hz
    | cons b l ih =>
      unfold bindL.go at h
      split at h
      · cases h
      · rename_i ys hys
        split at h
        · cases h
        · rename_i ws hws
          injection h with h; subst h
          rcases List.mem_append.1 hz with hz | hz
          · exact ⟨b, by simp, ys, hys, hz⟩
          · obtain ⟨a, ha, y2, h1, h2⟩ := ih hz hws
            exact ⟨a, by simp [ha], y2, h1, h2⟩
theorem runOps_num {call : Caller} (hcall : call.ok P) {D : Bool} {ops : Array Oper} : ∀ (l : List Oper) {s : CS} {L : List CS}, runOps P call D ops l s = some L → ∀ t ∈ L, t.n = s.n
  | [], s, L, h => by
    unfold runOps at h
    injection h with h; subst h
    intro t ht
    simp only [List.mem_singleton] at ht; rw [ht]
  | o :: l, s, L, h => by
    have go : bindL (opC P call D o s) (runOps P call D ops l) = some L → ∀ t ∈ L, t.n = s.n := fun h t ht => by
      obtain ⟨l1, h1, a, ha, ys, h2, h3⟩ := bindL_mem h ht
      rw [runOps_num hcall l h2 t h3, (opC_ok hcall h1 (K := fun _ => True) fun _ _ => trivial).2 a ha]
    have sk : runOps P call D ops l (s.put o.dst (.r .ud)) = some L → ∀ t ∈ L, t.n = s.n := fun h t ht => by
      rw [runOps_num hcall l h t ht, put_num]
    unfold runOps at h
    split at h
    · exact go h
    · split at h
      · exact sk h
      · split at h
        · split at h
          · exact go h
          · exact sk h
        · exact sk h
        · cases h
theorem norm_mem' : ∀ {L : List CS} {x : Exit × CS}, x ∈ norm L → x.1 = .normal ∧ x.2 ∈ L
  | [], _, h => by simp [norm] at h
  | t :: l, x, h => by
    simp only [norm, List.mem_cons] at h
    rcases h with rfl | h
    · exact ⟨rfl, by simp⟩
    · have := norm_mem' h
      exact ⟨this.1, by simp [this.2]⟩
theorem blk_mem' {id : Nat} : ∀ {L : Outs} {x : Exit × CS}, x ∈ blk id L → ∃ e, (e, x.2) ∈ L
  | [], _, h => by simp [blk] at h
  | (e', t') :: l, x, h => by
    simp only [blk, List.mem_cons] at h
    rcases h with rfl | h
    · exact ⟨e', by simp⟩
    · obtain ⟨e, he⟩ := blk_mem' h
      exact ⟨e, by simp [he]⟩
theorem kappa_ok {ops : Array Oper} {s : CS} : ∀ l : List Oper, keysOk (kappa ops s l) s.as
  | [] => fun p hp => by simp [kappa] at hp
  | o :: l => fun p hp => by
    simp only [kappa, List.mem_append, List.mem_map] at hp
    rcases hp with ⟨t, _, rfl⟩ | hp
    · rfl
    · exact kappa_ok l p hp
theorem exec_ok (hm : P.follows .mixedOrders = true) {fs : List (FuncId × Nat)} (hfs : allOk P fs = true) {orc : Orc} (ho : orcOk P orc) : ∀ k, Good P (exec P fs orc k) := by
  intro k
  induction k using Nat.strongRecOn with
  | _ k ih =>
    cases k with
    | zero => intro c t L _ h; cases c <;> simp [exec] at h
    | succ k =>
      intro c t L hok h
      cases c with
      | skip => simp only [exec, Option.some.injEq] at h; subst h; exact ⟨by simp, fun C Q hQ => awp_skip (hQ _ (List.mem_singleton.2 rfl))⟩
      | label l => simp only [exec, Option.some.injEq] at h; subst h; exact ⟨by simp, fun C Q hQ => awp_label (hQ _ (List.mem_singleton.2 rfl))⟩
      | exit id => simp only [exec, Option.some.injEq] at h; subst h; exact ⟨by simp, fun C Q hQ => awp_exit (hQ _ (List.mem_singleton.2 rfl))⟩
      | ret => simp only [exec, Option.some.injEq] at h; subst h; exact ⟨by simp, fun C Q hQ => awp_ret (hQ _ (List.mem_singleton.2 rfl))⟩
      | region id ops D =>
        simp only [codeOk] at hok
        simp only [exec] at h
        split at h
        · rename_i hdr
          split at h
          · rename_i L' hL
            injection h with h; subst h
            have hcall := callX_ok hfs ho (ih k (Nat.lt_succ_self k))
            have hk := killD_sub D ops.toList t
            refine ⟨fun x hx => (runOps_num hcall _ hL _ (norm_mem' hx).2).trans hk.2, fun C Q hQ => awp_sub hk.1 ?_⟩
            have := runOps_ok hcall (K := Q .normal) _ hL fun t ht _ => hQ _ (norm_mem ht)
            have hd : dstOk ops.toList.toArray (killD D ops.toList t).as.n = true := by rw [show (killD D ops.toList t).as.n = t.n from hk.2]; exact hok
            cases D with
            | false => exact awp_region (l := ops.toList) hd this
            | true =>
              simp only [drawOk, Bool.not_true, Bool.false_or, Bool.or_eq_true] at hdr
              rcases hdr with hlex | hlex
              · exact awp_draw (l := ops.toList) hm hlex hd this
              · exact awp_draw2 (l := ops.toList) hm hlex hd (kappa_ok _) this
          · cases h
        · cases h
      | seq a b =>
        simp only [codeOk, Bool.and_eq_true] at hok
        simp only [exec] at h
        obtain ⟨l1, h1, h2⟩ := bindL_spec h
        have ga := ih k (Nat.lt_succ_self k) a t l1 hok.1 h1
        refine ⟨fun x hx => ?_, fun C Q hQ => ?_⟩
        · obtain ⟨l1', h1', y, hy, ys, h3, h4⟩ := bindL_mem h hx
          rw [h1] at h1'; injection h1' with h1'; subst h1'
          have hn := ga.1 y hy
          obtain ⟨e, u⟩ := y
          cases e <;> first
            | (have := (ih k (Nat.lt_succ_self k) b u ys (by rw [hn]; exact hok.2) h3).1 x h4; rw [this]; exact hn)
            | (simp only [Option.some.injEq] at h3; subst h3; simp only [List.mem_singleton] at h4; rw [h4]; exact hn)
        · refine awp_seq (ga.2 C _ fun x hx => ?_)
          obtain ⟨ys, h3, h4⟩ := h2 x hx
          have hn := ga.1 x hx
          obtain ⟨e, u⟩ := x
          cases e <;> first
            | exact (ih k (Nat.lt_succ_self k) b u ys (by rw [hn]; exact hok.2) h3).2 C Q fun x hx => hQ x (h4 x hx)
            | (simp only [Option.some.injEq] at h3; subst h3; exact hQ _ (h4 _ (by simp)))
      | cond c a b =>
        simp only [codeOk, Bool.and_eq_true] at hok
        simp only [exec] at h
        split at h
        · rename_i tt hc
          cases tt with
          | true =>
            have g := ih k (Nat.lt_succ_self k) a t L hok.1 h
            exact ⟨g.1, fun C Q hQ => awp_cond hc (fun _ => g.2 C Q hQ) (fun e => by cases e)⟩
          | false =>
            have g := ih k (Nat.lt_succ_self k) b t L hok.2 h
            exact ⟨g.1, fun C Q hQ => awp_cond hc (fun e => by cases e) (fun _ => g.2 C Q hQ)⟩
        · cases h
      | block id c =>
        simp only [codeOk] at hok
        simp only [exec] at h
        split at h
        · rename_i L' hL
          injection h with h; subst h
          have g := ih k (Nat.lt_succ_self k) c t L' hok hL
          refine ⟨fun x hx => ?_, fun C Q hQ => ?_⟩
          · obtain ⟨e, he⟩ := blk_mem' hx
            exact g.1 (e, x.2) he
          · refine awp_block (g.2 C _ fun x hx => ?_)
            obtain ⟨e, u⟩ := x
            have := hQ _ (blk_mem hx)
            cases e with
            | exit id' =>
              simp only [leave] at this
              simp only [inBlk]
              split <;> rename_i e <;> simp only [e, if_true, if_false] at this <;> exact this
            | _ => exact this
        · cases h
      | loop c =>
        simp only [codeOk] at hok
        have num : ∀ j, j ≤ k + 1 → ∀ (u : CS) (L' : Outs), u.n = t.n → exec P fs orc j (.loop c) u = some L' → ∀ x ∈ L', x.2.n = t.n := by
          intro j
          induction j with
          | zero => intro _ u L' _ hL; simp [exec] at hL
          | succ j ihj =>
            intro hj u L' hu hL x hx
            simp only [exec] at hL
            obtain ⟨l1, h1, y, hy, ys, h3, h4⟩ := bindL_mem hL hx
            have hn := (ih j (by omega) c u l1 (by rw [hu]; exact hok) h1).1 y hy
            obtain ⟨e, v⟩ := y
            cases e <;> first
              | exact ihj (by omega) v ys (by rw [← hu]; exact hn) h3 x h4
              | (simp only [Option.some.injEq] at h3; subst h3; simp only [List.mem_singleton] at h4; rw [h4, ← hu]; exact hn)
        refine ⟨num (k + 1) (Nat.le_refl _) t L rfl h, fun C Q hQ => ?_⟩
        refine awp_loop (fun j s => j ≤ k + 1 ∧ ∃ u L', s = u.as ∧ u.n = t.n ∧ exec P fs orc j (.loop c) u = some L' ∧ ∀ x ∈ L', Q x.1 x.2.as) (k + 1) ⟨Nat.le_refl _, t, L, rfl, rfl, h, hQ⟩ ?_
        rintro j s ⟨hj, u, L', rfl, hu, hL, hQ'⟩
        cases j with
        | zero => simp [exec] at hL
        | succ j =>
          simp only [exec] at hL
          obtain ⟨l1, h1, h2⟩ := bindL_spec hL
          have g := ih j (by omega) c u l1 (by rw [hu]; exact hok) h1
          refine g.2 C _ fun x hx => ?_
          obtain ⟨ys, h3, h4⟩ := h2 x hx
          have hn := g.1 x hx
          obtain ⟨e, v⟩ := x
          cases e <;> first
            | exact ⟨j, Nat.lt_succ_self j, by omega, v, ys, rfl, by rw [← hu]; exact hn, h3, fun x hx => hQ' x (h4 x hx)⟩
            | (simp only [Option.some.injEq] at h3; subst h3; exact hQ' _ (h4 _ (by simp)))
      | _ => simp [exec] at h
theorem evalX_ok (hm : P.follows .mixedOrders = true) {fs : List (FuncId × Nat)} (hfs : allOk P fs = true) {orc : Orc} (ho : orcOk P orc) {k : Nat} {F : FuncId} {args : List RV} {r : RV} (hF : fnOk P F = true) (h : evalX P fs orc k F args = some r) : ACalls P F args r := by
  unfold evalX at h
  split at h
  · rename_i fn hf
    split at h
    · rename_i c hb
      exact callA_ok (exec_ok hm hfs ho k) hf hb hF h
    · cases h
  · cases h
theorem evalA_ok (hm : P.follows .mixedOrders = true) {fs : List (FuncId × Nat)} (hfs : allOk P fs = true) {k : Nat} {F : FuncId} {args : List RV} {r : RV} (hF : fnOk P F = true) (h : evalA P fs k F args = some r) : ACalls P F args r :=
  evalX_ok hm hfs (orc := []) trivial hF h
end
end Go.Oc

/- What the calls of the documents' examples return: reckoned out, with the contracts of the package's functions. -/
namespace Go.Proofs.Ytgkejinoaommeaa
open Go Go.Oc
set_option linter.unusedSimpArgs false
set_option linter.unusedVariables false
set_option maxRecDepth 8000
/-- The law of the example. -/
def lawL : List Am := [⟨320, [⟨120, 4, 6⟩, ⟨205, 0, 1⟩, ⟨301, 1, 2⟩, ⟨320, 2, 4⟩]⟩, ⟨225, [⟨125, 6, 8⟩, ⟨225, 0, 9⟩]⟩]
def lawT : List Am := [⟨320, [⟨120, 4, 6⟩, ⟨205, 0, 1⟩, ⟨301, 1, 2⟩, ⟨320, 2, 4⟩]⟩, ⟨225, [⟨125, 6, 8⟩, ⟨225, 2, 4⟩]⟩]
theorem lawL_wf : WfL 10 lawL := by
  simp [WfL, WfA, Wf, lawL, I64]
theorem lawT_eq : lawL.map (tightA 10) = lawT := by kernel_rfl
theorem lawL_chk : checkV 10 lawL = 0 := by kernel_rfl
theorem lawL_spans : spansV 10 lawL = [(236, 343), (300, 350)] := by kernel_rfl
theorem lawL_pick : pickE 10 lawL 0 [20, 10, 3, 60] = 0 := by kernel_rfl
theorem lawL_truth : truthV 10 lawL 0 [20, 10, 3, 60] true = [5, 0, 1, 4] := by kernel_rfl
theorem lawL_is : bestL isP (spansV 10 lawL) = [] := by rw [lawL_spans]; kernel_rfl
theorem lawL_may : bestL mayP (spansV 10 lawL) = [0, 1] := by rw [lawL_spans]; kernel_rfl
def fitA : Am := ⟨320, [⟨0, 0, 0⟩, ⟨101, 0, 0⟩, ⟨105, 0, 0⟩, ⟨120, 0, 0⟩, ⟨320, 0, 0⟩]⟩
def fitB : Am := ⟨320, [⟨0, 0, 2⟩, ⟨101, 1, 1⟩, ⟨105, 0, 0⟩, ⟨120, 3, 6⟩, ⟨320, 2, 3⟩]⟩
def fitL : List Vi := [⟨[320, 120, 101], 0⟩, ⟨[], 100⟩, ⟨[], 60⟩]
theorem fitA_wf : WfA fitA := by simp [WfA, Wf, fitA, I64]
theorem fit_eq : fitV fitA fitL = (fitB, 9, 0, 0) := by kernel_rfl
theorem kTight : ACalls Try.prog 16 [lawV 10 lawL] (.tu [lawV 10 lawT, i64 0]) := by
  have := Tight_ok 10 lawL lawL_wf
  rw [lawL_chk, lawT_eq, if_pos rfl] at this
  exact this
theorem kScore : ACalls Try.prog 21 [lawV 10 lawL] (.tu [spansR [(236, 343), (300, 350)], i64 0]) := by
  have := Score_ok 10 lawL lawL_wf
  rw [lawL_chk, lawL_spans] at this
  exact this
theorem kTruth : ACalls Try.prog 40 [lawV 10 lawL, i64 0, ints [20, 10, 3, 60], .bo true] (.tu [ints [5, 0, 1, 4], i64 0]) := by
  have := Truth_ok 10 lawL 0 [20, 10, 3, 60] true lawL_wf
  rw [lawL_truth, lawL_pick] at this
  exact this
theorem kBest : ACalls Try.prog 22 [lawV 10 lawL] (.tu [ints [], ints [0, 1], i64 0]) := by
  have := Best_ok 10 lawL lawL_wf
  rw [lawL_chk, lawL_is, lawL_may] at this
  exact this
theorem kFit : ACalls Try.prog 28 [aimV fitA, visR fitL] (.tu [aimV fitB, i64 9, i64 0, i64 0]) := by
  have := fit_ok fitA fitL fitA_wf
  rw [fit_eq] at this
  exact this
def kOrc : Orc := [(16, [lawV 10 lawL], .tu [lawV 10 lawT, i64 0]), (21, [lawV 10 lawL], .tu [spansR [(236, 343), (300, 350)], i64 0]), (40, [lawV 10 lawL, i64 0, ints [20, 10, 3, 60], .bo true], .tu [ints [5, 0, 1, 4], i64 0]),
  (22, [lawV 10 lawL], .tu [ints [], ints [0, 1], i64 0]), (28, [aimV fitA, visR fitL], .tu [aimV fitB, i64 9, i64 0, i64 0])]
theorem kOrc_ok : orcOk Try.prog kOrc := ⟨kTight, kScore, kTruth, kBest, kFit, trivial⟩
def fsK : List (FuncId × Nat) := [(47, 0), (38, 0), (24, 0)]
theorem fsK_ok : allOk Try.prog fsK = true := by kernel_rfl
theorem known14_ok : ACalls Try.prog 14 [] (.bo true) := evalX_ok follows fsK_ok kOrc_ok (k := 200) (by kernel_rfl) (by kernel_rfl)
end Go.Proofs.Ytgkejinoaommeaa

/- What the law's small tests return: a law is too large; lists, aims and laws are equal. -/
namespace Go.Proofs.Ytgkejinoaommeaa
open Go Go.Oc
set_option linter.unusedSimpArgs false
set_option linter.unusedVariables false
set_option maxRecDepth 8000
instance : DecidableEq Bd := fun a b => decidable_of_iff (a.b = b.b ∧ a.lo = b.lo ∧ a.hi = b.hi) (by cases a; cases b; simp)
instance : DecidableEq Am := fun a b => decidable_of_iff (a.at_ = b.at_ ∧ a.beds = b.beds) (by cases a; cases b; simp)
theorem any_step {α : Type} {p : α → Bool} {l : List α} {k : Nat} {y : α} (hy : l[k]? = some y) : (l.take (k + 1)).any p = ((l.take k).any p || p y) := by rw [take_of_opt hy]; simp
theorem any_of {α : Type} {p : α → Bool} {l : List α} {k : Nat} {y : α} (hy : l[k]? = some y) (h : p y = true) : l.any p = true := List.any_eq_true.2 ⟨y, mem_of_opt hy, h⟩
/-- More than the statements look at. -/
def greatL (l : List Am) : Bool := decide (22 < l.length) || l.any fun a => decide (12 < a.beds.length)
theorem great_ok (d : Int) (l : List Am) : ACalls Try.prog 13 [lawV d l] (.bo (greatL l)) := by
  refine acalls_st (rs := [.bo (greatL l)]) [.tmp 2] Try.func13 rfl (by kernel_rfl) Try.ntmps13 rfl (by simp) rfl fun C vs => ?_
  repeat refine awp_seq ?_
  refine awp_reg (by kernel_rfl) fun K hK => ?_
  simp only [go_sem]
  (try simp (disch := omega) only [wrapI])
  repeat first | intro _ | refine ⟨(by omega), ?_⟩ | refine ⟨⟨by omega, by omega⟩, ?_⟩
  refine hK _ ?_
  clear hK K
  refine awp_sub (sub_frzP 1 1 [i64 d, aimsR l] (by omega) rfl rfl) ?_
  refine awp_sub (sub_keep [1]) ?_
  simp only [go_sem]
  repeat refine awp_seq ?_
  refine awp_reg (by kernel_rfl) fun K hK => ?_
  simp only [go_sem]
  (try simp (disch := omega) only [wrapI])
  intro hl0
  repeat first | intro _ | refine ⟨(by omega), ?_⟩ | refine ⟨⟨by omega, by omega⟩, ?_⟩
  refine hK _ ?_
  clear hK K
  refine awp_sub (sub_keep [1, 7]) ?_
  simp only [go_sem]
  repeat refine awp_seq ?_
  refine awp_cond rfl (fun hc => ?_) (fun hc => ?_) <;> (try simp only [go_sem] at hc)
  · -- then
    repeat refine awp_seq ?_
    refine awp_reg (by kernel_rfl) fun K hK => ?_
    simp only [go_sem]
    (try simp (disch := omega) only [wrapI])
    repeat first | intro _ | refine ⟨(by omega), ?_⟩ | refine ⟨⟨by omega, by omega⟩, ?_⟩
    refine hK _ ?_
    clear hK K
    refine awp_sub (sub_keep [2]) ?_
    simp only [go_sem]
    refine awp_ret ?_
    simp only [go_sem]
    have : 22 < l.length := by omega
    simp [greatL, this]
  · -- else
    have hl : l.length ≤ 22 := by omega
    refine awp_skip ?_
    try simp only [go_sem]
    repeat refine awp_seq ?_
    refine awp_reg (by kernel_rfl) fun K hK => ?_
    simp only [go_sem]
    (try simp (disch := omega) only [wrapI])
    repeat first | intro _ | refine ⟨(by omega), ?_⟩ | refine ⟨⟨by omega, by omega⟩, ?_⟩
    refine hK _ ?_
    clear hK K
    refine awp_sub (sub_keep [1, 3]) ?_
    simp only [go_sem]
    repeat refine awp_seq ?_
    refine awp_block ?_
    refine awp_upto (n := 23) l.length (fun i vs => [(1, .r (.rp [i64 d, aimsR l])), (3, .r (i64 i))])
      (fun i => []) (fun i => (l.take i).any (fun a => decide (12 < a.beds.length)) = false) 0 (fit_of [] ?_ ?_) (Nat.zero_le _) rfl ?_
    · try simp only [go_sem]
    · try simp only [go_sem]
    · intro i vs hi hI
      repeat refine awp_seq ?_
      refine awp_reg (by kernel_rfl) fun K hK => ?_
      simp only [go_sem]
      (try simp (disch := omega) only [wrapI])
      repeat first | intro _ | refine ⟨(by omega), ?_⟩ | refine ⟨⟨by omega, by omega⟩, ?_⟩
      refine hK _ ?_
      clear hK K
      refine awp_sub (sub_keep [1, 3, 12]) ?_
      simp only [go_sem]
      repeat refine awp_seq ?_
      refine awp_cond rfl (fun hc => ?_) (fun hc => ?_) <;> (try simp only [go_sem] at hc)
      · -- then
        have hci := hc
        obtain ⟨x, hx⟩ := opt_of_lt hc
        refine awp_skip ?_
        try simp only [go_sem]
        repeat refine awp_seq ?_
        refine awp_block ?_
        repeat refine awp_seq ?_
        refine awp_reg (by kernel_rfl) fun K hK => ?_
        simp only [go_sem, hx, hci, aimR]
        (try simp (disch := omega) only [wrapI])
        intro hl1
        repeat first | intro _ | refine ⟨(by omega), ?_⟩ | refine ⟨⟨by omega, by omega⟩, ?_⟩
        refine hK _ ?_
        clear hK K
        refine awp_sub (sub_keep [1, 3, 22]) ?_
        simp only [go_sem]
        repeat refine awp_seq ?_
        refine awp_cond rfl (fun hc => ?_) (fun hc => ?_) <;> (try simp only [go_sem] at hc)
        · -- then
          repeat refine awp_seq ?_
          refine awp_reg (by kernel_rfl) fun K hK => ?_
          simp only [go_sem]
          (try simp (disch := omega) only [wrapI])
          repeat first | intro _ | refine ⟨(by omega), ?_⟩ | refine ⟨⟨by omega, by omega⟩, ?_⟩
          refine hK _ ?_
          clear hK K
          refine awp_sub (sub_keep [2]) ?_
          simp only [go_sem]
          refine awp_ret ?_
          simp only [go_sem]
          have : 12 < x.beds.length := by omega
          simp [greatL, any_of hx (p := fun a => decide (12 < a.beds.length)) (by simpa using this)]
        · -- else
          refine awp_skip ?_
          try simp only [go_sem]
          repeat refine awp_seq ?_
          refine awp_reg (by kernel_rfl) fun K hK => ?_
          simp only [go_sem]
          (try simp (disch := omega) only [wrapI])
          repeat first | intro _ | refine ⟨(by omega), ?_⟩ | refine ⟨⟨by omega, by omega⟩, ?_⟩
          refine hK _ ?_
          clear hK K
          try simp only [go_sem]
          refine ⟨hci, ?_, fit_of [] ?_ ?_⟩
          · rw [any_step hx, hI]
            simp
            omega
          · try simp only [go_sem]
          · try simp only [go_sem]
      · -- else
        refine awp_exit ?_
        simp only [go_sem]
        repeat refine awp_seq ?_
        refine awp_reg (by kernel_rfl) fun K hK => ?_
        simp only [go_sem]
        (try simp (disch := omega) only [wrapI])
        repeat first | intro _ | refine ⟨(by omega), ?_⟩ | refine ⟨⟨by omega, by omega⟩, ?_⟩
        refine hK _ ?_
        clear hK K
        refine awp_sub (sub_keep [2]) ?_
        simp only [go_sem]
        refine awp_ret ?_
        simp only [go_sem]
        have : i = l.length := by omega
        rw [this, List.take_length] at hI
        have h2 : ¬ 22 < l.length := by omega
        simp [greatL, hI, h2]
theorem alike_ok (a b : List Int) : ACalls Try.prog 24 [ints a, ints b] (.bo (decide (a = b))) := by
  refine acalls_st (rs := [.bo (decide (a = b))]) [.tmp 4] Try.func24 rfl (by kernel_rfl) Try.ntmps24 rfl (by simp) rfl fun C vs => ?_
  repeat refine awp_seq ?_
  refine awp_reg (by kernel_rfl) fun K hK => ?_
  simp only [go_sem]
  (try simp (disch := omega) only [wrapI])
  repeat first | intro _ | refine ⟨(by omega), ?_⟩ | refine ⟨⟨by omega, by omega⟩, ?_⟩
  refine hK _ ?_
  clear hK K
  refine awp_sub (sub_keep [0, 1]) ?_
  simp only [go_sem]
  repeat refine awp_seq ?_
  refine awp_reg (by kernel_rfl) fun K hK => ?_
  simp only [go_sem]
  (try simp (disch := omega) only [wrapI])
  intro hla hlb
  by_cases h1 : a.length = b.length
  case neg =>
    have e4 : ((a.length : Int) != b.length) = true := by simp; omega
    rw [e4]
    repeat first | intro _ | refine ⟨(by omega), ?_⟩ | refine ⟨⟨by omega, by omega⟩, ?_⟩
    refine hK _ ?_
    clear hK K
    repeat refine awp_seq ?_
    refine awp_cond rfl (fun hc => ?_) (fun hc => ?_) <;> (try simp only [go_sem] at hc)
    repeat refine awp_seq ?_
    refine awp_reg (by kernel_rfl) fun K hK => ?_
    simp only [go_sem]
    (try simp (disch := omega) only [wrapI])
    repeat first | intro _ | refine ⟨(by omega), ?_⟩ | refine ⟨⟨by omega, by omega⟩, ?_⟩
    refine hK _ ?_
    clear hK K
    refine awp_ret ?_
    simp only [go_sem]
    simp
    exact fun h => h1 (by rw [h])
  have e4 : ((a.length : Int) != b.length) = false := by simp [h1]
  rw [e4]
  repeat first | intro _ | refine ⟨(by omega), ?_⟩ | refine ⟨⟨by omega, by omega⟩, ?_⟩
  refine hK _ ?_
  clear hK K
  refine awp_sub (sub_keep [0, 1, 10]) ?_
  simp only [go_sem]
  repeat refine awp_seq ?_
  refine awp_cond rfl (fun hc => ?_) (fun hc => ?_) <;> (try simp only [go_sem] at hc)
  refine awp_skip ?_
  try simp only [go_sem]
  repeat refine awp_seq ?_
  refine awp_reg (by kernel_rfl) fun K hK => ?_
  simp only [go_sem]
  (try simp (disch := omega) only [wrapI])
  repeat first | intro _ | refine ⟨(by omega), ?_⟩ | refine ⟨⟨by omega, by omega⟩, ?_⟩
  refine hK _ ?_
  clear hK K
  refine awp_sub (sub_keep [0, 1, 5]) ?_
  simp only [go_sem]
  repeat refine awp_seq ?_
  refine awp_block ?_
  refine awp_upto (n := 26) a.length (fun i vs => [(0, .r (ints a)), (1, .r (ints b)), (5, .r (i64 i))])
    (fun i => []) (fun i => a.take i = b.take i) 0 (fit_of [] ?_ ?_) (Nat.zero_le _) (by simp) ?_
  · try simp only [go_sem]
  · try simp only [go_sem]
  · intro i vs hi hI
    repeat refine awp_seq ?_
    refine awp_reg (by kernel_rfl) fun K hK => ?_
    simp only [go_sem]
    (try simp (disch := omega) only [wrapI])
    repeat first | intro _ | refine ⟨(by omega), ?_⟩ | refine ⟨⟨by omega, by omega⟩, ?_⟩
    refine hK _ ?_
    clear hK K
    refine awp_sub (sub_keep [0, 1, 5, 14]) ?_
    simp only [go_sem]
    repeat refine awp_seq ?_
    refine awp_cond rfl (fun hc => ?_) (fun hc => ?_) <;> (try simp only [go_sem] at hc)
    · -- then
      have hci : i < a.length := by omega
      have hc2 : i < b.length := by omega
      obtain ⟨u, hu⟩ := opt_of_lt hci
      obtain ⟨v, hv⟩ := opt_of_lt hc2
      refine awp_skip ?_
      try simp only [go_sem]
      repeat refine awp_seq ?_
      refine awp_block ?_
      repeat refine awp_seq ?_
      refine awp_dreg follows (by decide +kernel) (by kernel_rfl) fun K hK => ?_
      simp only [go_sem, hu, hv, hci, hc2]
      (try simp (disch := omega) only [wrapI])
      repeat first | intro _ | refine ⟨(by omega), ?_⟩ | refine ⟨⟨by omega, by omega⟩, ?_⟩
      refine hK _ ?_
      clear hK K
      by_cases huv : u = v
      · have e6 : (u != v) = false := by simp [huv]
        rw [e6]
        repeat refine awp_seq ?_
        refine awp_cond rfl (fun hc => ?_) (fun hc => ?_) <;> (try simp only [go_sem] at hc)
        refine awp_skip ?_
        try simp only [go_sem]
        repeat refine awp_seq ?_
        refine awp_reg (by kernel_rfl) fun K hK => ?_
        simp only [go_sem]
        (try simp (disch := omega) only [wrapI])
        repeat first | intro _ | refine ⟨(by omega), ?_⟩ | refine ⟨⟨by omega, by omega⟩, ?_⟩
        refine hK _ ?_
        clear hK K
        try simp only [go_sem]
        refine ⟨hci, ?_, fit_of [] ?_ ?_⟩
        · rw [take_of_opt hu, take_of_opt hv, hI, huv]
        · try simp only [go_sem]
        · try simp only [go_sem]
      · have e6 : (u != v) = true := by simp [huv]
        rw [e6]
        repeat refine awp_seq ?_
        refine awp_cond rfl (fun hc => ?_) (fun hc => ?_) <;> (try simp only [go_sem] at hc)
        repeat refine awp_seq ?_
        refine awp_reg (by kernel_rfl) fun K hK => ?_
        simp only [go_sem]
        (try simp (disch := omega) only [wrapI])
        repeat first | intro _ | refine ⟨(by omega), ?_⟩ | refine ⟨⟨by omega, by omega⟩, ?_⟩
        refine hK _ ?_
        clear hK K
        refine awp_ret ?_
        simp only [go_sem]
        simp
        rintro rfl
        rw [hu] at hv
        injection hv with hv
        exact huv hv
    · -- else
      refine awp_exit ?_
      simp only [go_sem]
      repeat refine awp_seq ?_
      refine awp_reg (by kernel_rfl) fun K hK => ?_
      simp only [go_sem]
      (try simp (disch := omega) only [wrapI])
      repeat first | intro _ | refine ⟨(by omega), ?_⟩ | refine ⟨⟨by omega, by omega⟩, ?_⟩
      refine hK _ ?_
      clear hK K
      refine awp_sub (sub_keep [4]) ?_
      simp only [go_sem]
      refine awp_ret ?_
      simp only [go_sem]
      have : i = a.length := by omega
      subst this
      have hab : a = b := by rwa [List.take_length, h1, List.take_length] at hI
      simp [hab]
theorem eqT67 : eqN Try.prog 67 = some 3 := by kernel_rfl
theorem same_ok (a b : Am) : ACalls Try.prog 30 [aimV a, aimV b] (.bo (decide (a = b))) := by
  refine acalls_st (rs := [.bo (decide (a = b))]) [.tmp 4] Try.func30 rfl (by kernel_rfl) Try.ntmps30 rfl (by simp) rfl fun C vs => ?_
  repeat refine awp_seq ?_
  refine awp_reg (by kernel_rfl) fun K hK => ?_
  simp only [go_sem]
  (try simp (disch := omega) only [wrapI])
  repeat first | intro _ | refine ⟨(by omega), ?_⟩ | refine ⟨⟨by omega, by omega⟩, ?_⟩
  refine hK _ ?_
  clear hK K
  refine awp_sub (sub_frzP 2 2 (aimR a) (by omega) rfl rfl) ?_
  refine awp_sub (sub_frzP 3 3 (aimR b) (by omega) rfl rfl) ?_
  refine awp_sub (sub_keep [2, 3]) ?_
  simp only [go_sem]
  by_cases h0 : a.at_ = b.at_
  case neg =>
    have e0 : (a.at_ != b.at_) = true := by simpa using h0
    repeat refine awp_seq ?_
    refine awp_reg (by kernel_rfl) fun K hK => ?_
    simp only [go_sem, e0, aimR]
    (try simp (disch := omega) only [wrapI])
    repeat first | intro _ | refine ⟨(by omega), ?_⟩ | refine ⟨⟨by omega, by omega⟩, ?_⟩
    refine hK _ ?_
    clear hK K
    repeat refine awp_seq ?_
    refine awp_cond rfl (fun hc => ?_) (fun hc => ?_) <;> (try simp only [go_sem] at hc)
    repeat refine awp_seq ?_
    refine awp_reg (by kernel_rfl) fun K hK => ?_
    simp only [go_sem]
    (try simp (disch := omega) only [wrapI])
    repeat first | intro _ | refine ⟨(by omega), ?_⟩ | refine ⟨⟨by omega, by omega⟩, ?_⟩
    refine hK _ ?_
    clear hK K
    refine awp_ret ?_
    simp only [go_sem]
    simp
    exact fun h => h0 (by rw [h])
  have e0 : (a.at_ != b.at_) = false := by simpa using h0
  by_cases h1 : a.beds.length = b.beds.length
  case neg =>
    have e4 : ((a.beds.length : Int) != b.beds.length) = true := by simp; omega
    repeat refine awp_seq ?_
    refine awp_reg (by kernel_rfl) fun K hK => ?_
    simp only [go_sem, e0, e4, aimR]
    (try simp (disch := omega) only [wrapI])
    repeat first | intro _ | refine ⟨(by omega), ?_⟩ | refine ⟨⟨by omega, by omega⟩, ?_⟩
    refine hK _ ?_
    clear hK K
    repeat refine awp_seq ?_
    refine awp_cond rfl (fun hc => ?_) (fun hc => ?_) <;> (try simp only [go_sem] at hc)
    repeat refine awp_seq ?_
    refine awp_reg (by kernel_rfl) fun K hK => ?_
    simp only [go_sem]
    (try simp (disch := omega) only [wrapI])
    repeat first | intro _ | refine ⟨(by omega), ?_⟩ | refine ⟨⟨by omega, by omega⟩, ?_⟩
    refine hK _ ?_
    clear hK K
    refine awp_ret ?_
    simp only [go_sem]
    simp
    exact fun h => h1 (by rw [h])
  have e4 : ((a.beds.length : Int) != b.beds.length) = false := by simp [h1]
  repeat refine awp_seq ?_
  refine awp_reg (by kernel_rfl) fun K hK => ?_
  simp only [go_sem, e0, e4, aimR]
  (try simp (disch := omega) only [wrapI])
  intro hla hlb
  repeat first | intro _ | refine ⟨(by omega), ?_⟩ | refine ⟨⟨by omega, by omega⟩, ?_⟩
  refine hK _ ?_
  clear hK K
  refine awp_sub (sub_keep [2, 3, 19]) ?_
  simp only [go_sem]
  repeat refine awp_seq ?_
  refine awp_cond rfl (fun hc => ?_) (fun hc => ?_) <;> (try simp only [go_sem] at hc)
  refine awp_skip ?_
  try simp only [go_sem]
  repeat refine awp_seq ?_
  refine awp_reg (by kernel_rfl) fun K hK => ?_
  simp only [go_sem]
  (try simp (disch := omega) only [wrapI])
  repeat first | intro _ | refine ⟨(by omega), ?_⟩ | refine ⟨⟨by omega, by omega⟩, ?_⟩
  refine hK _ ?_
  clear hK K
  refine awp_sub (sub_keep [2, 3, 5]) ?_
  simp only [go_sem]
  repeat refine awp_seq ?_
  refine awp_block ?_
  refine awp_upto (n := 38) a.beds.length (fun i vs => [(2, .r (.rp [i64 a.at_, bedsR a.beds])), (3, .r (.rp [i64 b.at_, bedsR b.beds])), (5, .r (i64 i))])
    (fun i => []) (fun i => a.beds.take i = b.beds.take i) 0 (fit_of [] ?_ ?_) (Nat.zero_le _) (by simp) ?_
  · try simp only [go_sem]
  · try simp only [go_sem]
  · intro i vs hi hI
    repeat refine awp_seq ?_
    refine awp_reg (by kernel_rfl) fun K hK => ?_
    simp only [go_sem, aimR]
    (try simp (disch := omega) only [wrapI])
    repeat first | intro _ | refine ⟨(by omega), ?_⟩ | refine ⟨⟨by omega, by omega⟩, ?_⟩
    refine hK _ ?_
    clear hK K
    refine awp_sub (sub_keep [2, 3, 5, 24]) ?_
    simp only [go_sem]
    repeat refine awp_seq ?_
    refine awp_cond rfl (fun hc => ?_) (fun hc => ?_) <;> (try simp only [go_sem] at hc)
    · -- then
      have hci : i < a.beds.length := by omega
      have hc2 : i < b.beds.length := by omega
      obtain ⟨u, hu⟩ := opt_of_lt hci
      obtain ⟨v, hv⟩ := opt_of_lt hc2
      refine awp_skip ?_
      try simp only [go_sem]
      repeat refine awp_seq ?_
      refine awp_block ?_
      have hT := eqT67
      repeat refine awp_seq ?_
      refine awp_dreg follows (by decide +kernel) (by kernel_rfl) fun K hK => ?_
      simp only [go_sem, hu, hv, hci, hc2, aimR, bedR, hT, cmpL, eq_self, if_true, List.length_cons, List.length_nil]
      (try simp (disch := omega) only [wrapI])
      repeat first | intro _ | refine ⟨(by omega), ?_⟩ | refine ⟨⟨by omega, by omega⟩, ?_⟩
      refine hK _ ?_
      clear hK K
      refine awp_sub (sub_keep [2, 3, 5, 37]) ?_
      simp only [go_sem]
      repeat refine awp_seq ?_
      refine awp_cond rfl (fun hc => ?_) (fun hc => ?_) <;> (try simp only [go_sem] at hc)
      · -- then
        repeat refine awp_seq ?_
        refine awp_reg (by kernel_rfl) fun K hK => ?_
        simp only [go_sem]
        (try simp (disch := omega) only [wrapI])
        repeat first | intro _ | refine ⟨(by omega), ?_⟩ | refine ⟨⟨by omega, by omega⟩, ?_⟩
        refine hK _ ?_
        clear hK K
        refine awp_sub (sub_keep [4]) ?_
        simp only [go_sem]
        refine awp_ret ?_
        simp only [go_sem]
        simp
        intro hab
        subst hab
        rw [hu] at hv
        injection hv with hv
        subst hv
        simp at hc
      · -- else
        have huv : u = v := by
          obtain ⟨u1, u2, u3⟩ := u
          obtain ⟨v1, v2, v3⟩ := v
          simp at hc
          simp [hc]
        refine awp_skip ?_
        try simp only [go_sem]
        repeat refine awp_seq ?_
        refine awp_reg (by kernel_rfl) fun K hK => ?_
        simp only [go_sem]
        (try simp (disch := omega) only [wrapI])
        repeat first | intro _ | refine ⟨(by omega), ?_⟩ | refine ⟨⟨by omega, by omega⟩, ?_⟩
        refine hK _ ?_
        clear hK K
        try simp only [go_sem]
        refine ⟨hci, ?_, fit_of [] ?_ ?_⟩
        · rw [take_of_opt hu, take_of_opt hv, hI, huv]
        · try simp only [go_sem]
        · try simp only [go_sem]
    · -- else
      refine awp_exit ?_
      simp only [go_sem]
      repeat refine awp_seq ?_
      refine awp_reg (by kernel_rfl) fun K hK => ?_
      simp only [go_sem]
      (try simp (disch := omega) only [wrapI])
      repeat first | intro _ | refine ⟨(by omega), ?_⟩ | refine ⟨⟨by omega, by omega⟩, ?_⟩
      refine hK _ ?_
      clear hK K
      refine awp_sub (sub_keep [4]) ?_
      simp only [go_sem]
      refine awp_ret ?_
      simp only [go_sem]
      have : i = a.beds.length := by omega
      subst this
      have hab : a.beds = b.beds := by rwa [List.take_length, h1, List.take_length] at hI
      have : a = b := by cases a; cases b; simp at h0 hab; simp [h0, hab]
      simp [this]
theorem equal_ok (d e : Int) (l m : List Am) : ACalls Try.prog 18 [lawV d l, lawV e m] (.bo (decide (d = e ∧ l = m))) := by
  refine acalls_st (rs := [.bo (decide (d = e ∧ l = m))]) [.tmp 4] Try.func18 rfl (by kernel_rfl) Try.ntmps18 rfl (by simp) rfl fun C vs => ?_
  repeat refine awp_seq ?_
  refine awp_reg (by kernel_rfl) fun K hK => ?_
  simp only [go_sem]
  (try simp (disch := omega) only [wrapI])
  repeat first | intro _ | refine ⟨(by omega), ?_⟩ | refine ⟨⟨by omega, by omega⟩, ?_⟩
  refine hK _ ?_
  clear hK K
  refine awp_sub (sub_frzP 2 2 [i64 d, aimsR l] (by omega) rfl rfl) ?_
  refine awp_sub (sub_frzP 3 3 [i64 e, aimsR m] (by omega) rfl rfl) ?_
  refine awp_sub (sub_keep [2, 3]) ?_
  simp only [go_sem]
  by_cases h0 : d = e
  case neg =>
    have e0 : (d != e) = true := by simpa using h0
    repeat refine awp_seq ?_
    refine awp_reg (by kernel_rfl) fun K hK => ?_
    simp only [go_sem, e0]
    (try simp (disch := omega) only [wrapI])
    repeat first | intro _ | refine ⟨(by omega), ?_⟩ | refine ⟨⟨by omega, by omega⟩, ?_⟩
    refine hK _ ?_
    clear hK K
    repeat refine awp_seq ?_
    refine awp_cond rfl (fun hc => ?_) (fun hc => ?_) <;> (try simp only [go_sem] at hc)
    repeat refine awp_seq ?_
    refine awp_reg (by kernel_rfl) fun K hK => ?_
    simp only [go_sem]
    (try simp (disch := omega) only [wrapI])
    repeat first | intro _ | refine ⟨(by omega), ?_⟩ | refine ⟨⟨by omega, by omega⟩, ?_⟩
    refine hK _ ?_
    clear hK K
    refine awp_ret ?_
    simp only [go_sem]
    simp
    exact fun h _ => h0 h
  have e0 : (d != e) = false := by simpa using h0
  by_cases h1 : l.length = m.length
  case neg =>
    have e4 : ((l.length : Int) != m.length) = true := by simp; omega
    repeat refine awp_seq ?_
    refine awp_reg (by kernel_rfl) fun K hK => ?_
    simp only [go_sem, e0, e4]
    (try simp (disch := omega) only [wrapI])
    repeat first | intro _ | refine ⟨(by omega), ?_⟩ | refine ⟨⟨by omega, by omega⟩, ?_⟩
    refine hK _ ?_
    clear hK K
    repeat refine awp_seq ?_
    refine awp_cond rfl (fun hc => ?_) (fun hc => ?_) <;> (try simp only [go_sem] at hc)
    repeat refine awp_seq ?_
    refine awp_reg (by kernel_rfl) fun K hK => ?_
    simp only [go_sem]
    (try simp (disch := omega) only [wrapI])
    repeat first | intro _ | refine ⟨(by omega), ?_⟩ | refine ⟨⟨by omega, by omega⟩, ?_⟩
    refine hK _ ?_
    clear hK K
    refine awp_ret ?_
    simp only [go_sem]
    simp
    exact fun _ h => h1 (by rw [h])
  have e4 : ((l.length : Int) != m.length) = false := by simp [h1]
  repeat refine awp_seq ?_
  refine awp_reg (by kernel_rfl) fun K hK => ?_
  simp only [go_sem, e0, e4]
  (try simp (disch := omega) only [wrapI])
  intro hla hlb
  repeat first | intro _ | refine ⟨(by omega), ?_⟩ | refine ⟨⟨by omega, by omega⟩, ?_⟩
  refine hK _ ?_
  clear hK K
  refine awp_sub (sub_keep [2, 3, 19]) ?_
  simp only [go_sem]
  repeat refine awp_seq ?_
  refine awp_cond rfl (fun hc => ?_) (fun hc => ?_) <;> (try simp only [go_sem] at hc)
  refine awp_skip ?_
  try simp only [go_sem]
  repeat refine awp_seq ?_
  refine awp_reg (by kernel_rfl) fun K hK => ?_
  simp only [go_sem]
  (try simp (disch := omega) only [wrapI])
  repeat first | intro _ | refine ⟨(by omega), ?_⟩ | refine ⟨⟨by omega, by omega⟩, ?_⟩
  refine hK _ ?_
  clear hK K
  refine awp_sub (sub_keep [2, 3, 5]) ?_
  simp only [go_sem]
  repeat refine awp_seq ?_
  refine awp_block ?_
  refine awp_upto (n := 39) l.length (fun i vs => [(2, .r (.rp [i64 d, aimsR l])), (3, .r (.rp [i64 e, aimsR m])), (5, .r (i64 i))])
    (fun i => []) (fun i => l.take i = m.take i) 0 (fit_of [] ?_ ?_) (Nat.zero_le _) (by simp) ?_
  · try simp only [go_sem]
  · try simp only [go_sem]
  · intro i vs hi hI
    repeat refine awp_seq ?_
    refine awp_reg (by kernel_rfl) fun K hK => ?_
    simp only [go_sem]
    (try simp (disch := omega) only [wrapI])
    repeat first | intro _ | refine ⟨(by omega), ?_⟩ | refine ⟨⟨by omega, by omega⟩, ?_⟩
    refine hK _ ?_
    clear hK K
    refine awp_sub (sub_keep [2, 3, 5, 24]) ?_
    simp only [go_sem]
    repeat refine awp_seq ?_
    refine awp_cond rfl (fun hc => ?_) (fun hc => ?_) <;> (try simp only [go_sem] at hc)
    · -- then
      have hci : i < l.length := by omega
      have hc2 : i < m.length := by omega
      obtain ⟨u, hu⟩ := opt_of_lt hci
      obtain ⟨v, hv⟩ := opt_of_lt hc2
      refine awp_skip ?_
      try simp only [go_sem]
      repeat refine awp_seq ?_
      refine awp_block ?_
      repeat refine awp_seq ?_
      refine awp_dreg follows (by decide +kernel) (by kernel_rfl) fun K hK => ?_
      simp only [go_sem, hu, hv, hci, hc2, aimR]
      (try simp (disch := omega) only [wrapI])
      refine xcall_eq (same_ok u v) rfl (by simp only [go_sem, i64, ints]) (by simp only [go_sem, i64, ints]) (by first | exact .inl rfl | exact .inr rfl) ?_
      (try simp only [go_sem])
      (try simp (disch := omega) only [wrapI])
      by_cases huv : u = v
      · have e6 : decide (u = v) = true := by simp [huv]
        rw [e6]
        repeat first | intro _ | refine ⟨(by omega), ?_⟩ | refine ⟨⟨by omega, by omega⟩, ?_⟩
        refine hK _ ?_
        clear hK K
        refine awp_sub (sub_keep [2, 3, 5, 38]) ?_
        simp only [go_sem]
        repeat refine awp_seq ?_
        refine awp_cond rfl (fun hc => ?_) (fun hc => ?_) <;> (try simp only [go_sem] at hc)
        refine awp_skip ?_
        try simp only [go_sem]
        repeat refine awp_seq ?_
        refine awp_reg (by kernel_rfl) fun K hK => ?_
        simp only [go_sem]
        (try simp (disch := omega) only [wrapI])
        repeat first | intro _ | refine ⟨(by omega), ?_⟩ | refine ⟨⟨by omega, by omega⟩, ?_⟩
        refine hK _ ?_
        clear hK K
        try simp only [go_sem]
        refine ⟨hci, ?_, fit_of [] ?_ ?_⟩
        · rw [take_of_opt hu, take_of_opt hv, hI, huv]
        · try simp only [go_sem]
        · try simp only [go_sem]
      · have e6 : decide (u = v) = false := by simp [huv]
        rw [e6]
        repeat first | intro _ | refine ⟨(by omega), ?_⟩ | refine ⟨⟨by omega, by omega⟩, ?_⟩
        refine hK _ ?_
        clear hK K
        refine awp_sub (sub_keep [2, 3, 5, 38]) ?_
        simp only [go_sem]
        repeat refine awp_seq ?_
        refine awp_cond rfl (fun hc => ?_) (fun hc => ?_) <;> (try simp only [go_sem] at hc)
        repeat refine awp_seq ?_
        refine awp_reg (by kernel_rfl) fun K hK => ?_
        simp only [go_sem]
        (try simp (disch := omega) only [wrapI])
        repeat first | intro _ | refine ⟨(by omega), ?_⟩ | refine ⟨⟨by omega, by omega⟩, ?_⟩
        refine hK _ ?_
        clear hK K
        refine awp_ret ?_
        simp only [go_sem]
        simp
        rintro rfl rfl
        rw [hu] at hv
        injection hv with hv
        exact huv hv
    · -- else
      refine awp_exit ?_
      simp only [go_sem]
      repeat refine awp_seq ?_
      refine awp_reg (by kernel_rfl) fun K hK => ?_
      simp only [go_sem]
      (try simp (disch := omega) only [wrapI])
      repeat first | intro _ | refine ⟨(by omega), ?_⟩ | refine ⟨⟨by omega, by omega⟩, ?_⟩
      refine hK _ ?_
      clear hK K
      refine awp_sub (sub_keep [4]) ?_
      simp only [go_sem]
      refine awp_ret ?_
      simp only [go_sem]
      have : i = l.length := by omega
      subst this
      have hab : l = m := by rwa [List.take_length, h1, List.take_length] at hI
      simp [h0, hab]
end Go.Proofs.Ytgkejinoaommeaa

/- What the document's tests of aims and laws return. -/
namespace Go.Proofs.Ytgkejinoaommeaa
open Go Go.Oc
set_option linter.unusedSimpArgs false
set_option linter.unusedVariables false
set_option maxRecDepth 8000
def goodV (a : Am) : Bool := bedOk a.at_ && !a.beds.isEmpty && decide (a.beds.length ≤ 10) && seqOk none a.beds
theorem good_ok (x0 : Am) (hw0 : WfA x0) : ACalls Try.prog 61 [aimV x0] (.bo (goodV x0)) := by
  obtain ⟨a, l⟩ := x0
  obtain ⟨ha, hw⟩ := hw0
  simp only at ha hw
  refine acalls_st (rs := [.bo (goodV ⟨a, l⟩)]) [.tmp 2] Try.func61 rfl (by kernel_rfl) Try.ntmps61 rfl (by simp) rfl fun C vs => ?_
  repeat refine awp_seq ?_
  refine awp_reg (by kernel_rfl) fun K hK => ?_
  simp only [go_sem]
  (try simp (disch := omega) only [wrapI])
  repeat first | intro _ | refine ⟨(by omega), ?_⟩ | refine ⟨⟨by omega, by omega⟩, ?_⟩
  refine hK _ ?_
  clear hK K
  refine awp_sub (sub_frzP 1 1 [i64 a, bedsR l] (by omega) rfl rfl) ?_
  refine awp_sub (sub_keep [1]) ?_
  simp only [go_sem]
  repeat refine awp_seq ?_
  refine awp_reg (by kernel_rfl) fun K hK => ?_
  simp only [go_sem]
  (try simp (disch := omega) only [wrapI])
  refine xcall_eq (refBed_ok a ha) rfl (by simp only [go_sem, i64, ints]) (by simp only [go_sem, i64, ints]) (by first | exact .inl rfl | exact .inr rfl) ?_
  (try simp only [go_sem])
  (try simp (disch := omega) only [wrapI])
  cases hA : bedOk a
  · try simp only [go_sem]
    repeat first | intro _ | refine ⟨(by omega), ?_⟩ | refine ⟨⟨by omega, by omega⟩, ?_⟩
    refine hK _ ?_
    clear hK K
    refine awp_sub (sub_keep [1, 19]) ?_
    simp only [go_sem]
    repeat refine awp_seq ?_
    refine awp_cond rfl (fun hc => ?_) (fun hc => ?_) <;> (try simp only [go_sem] at hc)
    repeat refine awp_seq ?_
    refine awp_reg (by kernel_rfl) fun K hK => ?_
    simp only [go_sem]
    (try simp (disch := omega) only [wrapI])
    repeat first | intro _ | refine ⟨(by omega), ?_⟩ | refine ⟨⟨by omega, by omega⟩, ?_⟩
    refine hK _ ?_
    clear hK K
    refine awp_ret ?_
    simp only [go_sem]
    simp [goodV, hA]
  try simp only [go_sem]
  intro hl0
  refine ⟨fun h10 => ?_, fun h10 => ?_⟩
  rotate_left
  · repeat first | intro _ | refine ⟨(by omega), ?_⟩ | refine ⟨⟨by omega, by omega⟩, ?_⟩
    refine hK _ ?_
    clear hK K
    refine awp_sub (sub_keep [1, 19]) ?_
    simp only [go_sem]
    repeat refine awp_seq ?_
    refine awp_cond rfl (fun hc => ?_) (fun hc => ?_) <;> (try simp only [go_sem] at hc)
    repeat refine awp_seq ?_
    refine awp_reg (by kernel_rfl) fun K hK => ?_
    simp only [go_sem]
    (try simp (disch := omega) only [wrapI])
    repeat first | intro _ | refine ⟨(by omega), ?_⟩ | refine ⟨⟨by omega, by omega⟩, ?_⟩
    refine hK _ ?_
    clear hK K
    refine awp_ret ?_
    simp only [go_sem]
    have : l = [] := List.eq_nil_of_length_eq_zero (by omega)
    simp [goodV, this]
  repeat first | intro _ | refine ⟨(by omega), ?_⟩ | refine ⟨⟨by omega, by omega⟩, ?_⟩
  refine hK _ ?_
  clear hK K
  refine awp_sub (sub_keep [1, 19]) ?_
  simp only [go_sem]
  have hne : l ≠ [] := fun h => by subst h; simp at h10
  repeat refine awp_seq ?_
  refine awp_cond rfl (fun hc => ?_) (fun hc => ?_) <;> (try simp only [go_sem] at hc)
  · repeat refine awp_seq ?_
    refine awp_reg (by kernel_rfl) fun K hK => ?_
    simp only [go_sem]
    (try simp (disch := omega) only [wrapI])
    repeat first | intro _ | refine ⟨(by omega), ?_⟩ | refine ⟨⟨by omega, by omega⟩, ?_⟩
    refine hK _ ?_
    clear hK K
    refine awp_sub (sub_keep [2]) ?_
    simp only [go_sem]
    refine awp_ret ?_
    simp only [go_sem]
    have : ¬ l.length ≤ 10 := by omega
    simp [goodV, this]
  have hl10 : l.length ≤ 10 := by omega
  refine awp_skip ?_
  try simp only [go_sem]
  repeat refine awp_seq ?_
  refine awp_reg (by kernel_rfl) fun K hK => ?_
  simp only [go_sem]
  (try simp (disch := omega) only [wrapI])
  repeat first | intro _ | refine ⟨(by omega), ?_⟩ | refine ⟨⟨by omega, by omega⟩, ?_⟩
  refine hK _ ?_
  clear hK K
  refine awp_sub (sub_keep [1, 3]) ?_
  simp only [go_sem]
  repeat refine awp_seq ?_
  refine awp_block ?_
  refine awp_upto (n := 64) l.length (fun i vs => [(1, .r (.rp [i64 a, bedsR l])), (3, .r (i64 i))])
    (fun i => []) (fun i => seqOk none l = seqOk (prevB l i) (l.drop i)) 0 (fit_of [] ?_ ?_) (Nat.zero_le _) rfl ?_
  · try simp only [go_sem]
  · try simp only [go_sem]
  · intro i vs hi hI
    repeat refine awp_seq ?_
    refine awp_reg (by kernel_rfl) fun K hK => ?_
    simp only [go_sem]
    (try simp (disch := omega) only [wrapI])
    repeat first | intro _ | refine ⟨(by omega), ?_⟩ | refine ⟨⟨by omega, by omega⟩, ?_⟩
    refine hK _ ?_
    clear hK K
    refine awp_sub (sub_keep [1, 3, 24]) ?_
    simp only [go_sem]
    repeat refine awp_seq ?_
    refine awp_cond rfl (fun hc => ?_) (fun hc => ?_) <;> (try simp only [go_sem] at hc)
    · have hci := hc
      obtain ⟨x, hx⟩ := opt_of_lt hc
      rw [drop_of_opt hx] at hI
      obtain ⟨hxb, _, _⟩ := hw x (mem_of_opt hx)
      have hB : ACalls Try.prog 85 [i64 x.b] (.bo (bedOk x.b)) := refBed_ok x.b hxb
      refine awp_skip ?_
      repeat refine awp_seq ?_
      refine awp_block ?_
      have hp : ∀ q, prevB l i = some q → ∃ y j, i = j + 1 ∧ l[j]? = some y ∧ q = y.b := fun q hq => by
        cases i with
        | zero => cases hq
        | succ j =>
          obtain ⟨y, hy⟩ := opt_of_lt (l := l) (i := j) (by omega)
          simp only [prevB, hy, Option.map_some, Option.some.injEq] at hq
          exact ⟨y, j, rfl, hy, hq.symm⟩
      cases hb0 : decide (x.b = 0) || bedOk x.b
      · have h0 : (x.b != 0) = true := by simp_all
        have h1 : bedOk x.b = false := by simp_all
        rw [h1] at hB
        repeat refine awp_seq ?_
        refine awp_dreg follows (by decide +kernel) (by kernel_rfl) fun K hK => ?_
        simp only [go_sem, hx, hci, bedR, h0]
        (try simp (disch := omega) only [wrapI])
        refine xcall_eq (hB) rfl (by simp only [go_sem, i64, ints]) (by simp only [go_sem, i64, ints]) (by first | exact .inl rfl | exact .inr rfl) ?_
        (try simp only [go_sem])
        (try simp (disch := omega) only [wrapI])
        repeat first | intro _ | refine ⟨(by omega), ?_⟩ | refine ⟨⟨by omega, by omega⟩, ?_⟩
        refine hK _ ?_
        clear hK K
        refine awp_sub (sub_keep [1, 3, 63]) ?_
        simp only [go_sem]
        repeat refine awp_seq ?_
        refine awp_cond rfl (fun hc => ?_) (fun hc => ?_) <;> (try simp only [go_sem] at hc)
        repeat refine awp_seq ?_
        refine awp_reg (by kernel_rfl) fun K hK => ?_
        simp only [go_sem]
        (try simp (disch := omega) only [wrapI])
        repeat first | intro _ | refine ⟨(by omega), ?_⟩ | refine ⟨⟨by omega, by omega⟩, ?_⟩
        refine hK _ ?_
        clear hK K
        refine awp_ret ?_
        simp only [go_sem]
        simp [hI, seqOk, hb0, goodV]
      have hnx : prevB l (i + 1) = some x.b := by simp [prevB, hx]
      have hstep : seqOk none l = ((match prevB l i with | none => true | some q => decide (q < x.b)) && seqOk (prevB l (i + 1)) (l.drop (i + 1))) := by
        rw [hI, hnx]
        simp only [seqOk, hb0, Bool.true_and]
        cases prevB l i <;> rfl
      cases i with
      | zero =>
        have hp0 : seqOk none l = seqOk (prevB l 1) (l.drop 1) := by simpa [prevB] using hstep
        by_cases h0 : x.b = 0
        · have e0 : (x.b != 0) = false := by simp [h0]
          repeat refine awp_seq ?_
          refine awp_dreg follows (by decide +kernel) (by kernel_rfl) fun K hK => ?_
          simp only [go_sem, hx, hci, bedR, e0]
          (try simp (disch := omega) only [wrapI])
          repeat first | intro _ | refine ⟨(by omega), ?_⟩ | refine ⟨⟨by omega, by omega⟩, ?_⟩
          refine hK _ ?_
          clear hK K
          refine awp_sub (sub_keep [1, 3, 63]) ?_
          simp only [go_sem]
          repeat refine awp_seq ?_
          refine awp_cond rfl (fun hc => ?_) (fun hc => ?_) <;> (try simp only [go_sem] at hc)
          refine awp_skip ?_
          try simp only [go_sem]
          repeat refine awp_seq ?_
          refine awp_reg (by kernel_rfl) fun K hK => ?_
          simp only [go_sem]
          (try simp (disch := omega) only [wrapI])
          repeat first | intro _ | refine ⟨(by omega), ?_⟩ | refine ⟨⟨by omega, by omega⟩, ?_⟩
          refine hK _ ?_
          clear hK K
          try simp only [go_sem]
          exact ⟨by omega, hp0, fit_of [] (by try simp only [go_sem]) (by try simp only [go_sem])⟩
        · have e0 : (x.b != 0) = true := by simp [h0]
          have e1 : bedOk x.b = true := by simpa [h0] using hb0
          rw [e1] at hB
          repeat refine awp_seq ?_
          refine awp_dreg follows (by decide +kernel) (by kernel_rfl) fun K hK => ?_
          simp only [go_sem, hx, hci, bedR, e0]
          (try simp (disch := omega) only [wrapI])
          repeat first | intro _ | refine ⟨(by omega), ?_⟩ | refine ⟨⟨by omega, by omega⟩, ?_⟩
          refine xcall_eq (hB) rfl (by simp only [go_sem, i64, ints]) (by simp only [go_sem, i64, ints]) (by first | exact .inl rfl | exact .inr rfl) ?_
          (try simp only [go_sem])
          (try simp (disch := omega) only [wrapI])
          repeat first | intro _ | refine ⟨(by omega), ?_⟩ | refine ⟨⟨by omega, by omega⟩, ?_⟩
          refine hK _ ?_
          clear hK K
          refine awp_sub (sub_keep [1, 3, 63]) ?_
          simp only [go_sem]
          repeat refine awp_seq ?_
          refine awp_cond rfl (fun hc => ?_) (fun hc => ?_) <;> (try simp only [go_sem] at hc)
          refine awp_skip ?_
          try simp only [go_sem]
          repeat refine awp_seq ?_
          refine awp_reg (by kernel_rfl) fun K hK => ?_
          simp only [go_sem]
          (try simp (disch := omega) only [wrapI])
          repeat first | intro _ | refine ⟨(by omega), ?_⟩ | refine ⟨⟨by omega, by omega⟩, ?_⟩
          refine hK _ ?_
          clear hK K
          try simp only [go_sem]
          exact ⟨by omega, hp0, fit_of [] (by try simp only [go_sem]) (by try simp only [go_sem])⟩
      | succ j =>
        obtain ⟨y, hy⟩ := opt_of_lt (l := l) (i := j) (by omega)
        have hpy : prevB l (j + 1) = some y.b := by simp [prevB, hy]
        rw [hpy] at hstep
        have hj1 : IntKind.i64.wrap ((j : Int) + 1 - 1) = (j : Int) := by rw [wrapI] <;> omega
        have hj2 : j < l.length := by omega
        have hj0 : (0 < (j : Int) + 1) = True := by simp
        have go : ∀ (e : Bool), decide (x.b ≤ y.b) = e → (e = true → seqOk none l = false) ∧ (e = false → seqOk none l = seqOk (prevB l (j + 1 + 1)) (l.drop (j + 1 + 1))) := fun e he => by
          refine ⟨fun h => ?_, fun h => ?_⟩
          · have : decide (y.b < x.b) = false := by simp_all
            rw [hstep]; simp [this]
          · have : decide (y.b < x.b) = true := by simp_all
            rw [hstep]; simp [this]
        obtain ⟨go1, go2⟩ := go _ rfl
        by_cases h0 : x.b = 0
        · have e0 : (x.b != 0) = false := by simp [h0]
          repeat refine awp_seq ?_
          refine awp_dreg follows (by decide +kernel) (by kernel_rfl) fun K hK => ?_
          simp only [go_sem, hx, hci, e0, hj1, hj0, hy, bedR]
          (try simp (disch := omega) only [wrapI])
          repeat first | intro _ | refine ⟨(by omega), ?_⟩ | refine ⟨⟨by omega, by omega⟩, ?_⟩
          refine hK _ ?_
          clear hK K
          refine awp_sub (sub_keep [1, 3, 63]) ?_
          simp only [go_sem]
          cases hle : decide (x.b ≤ y.b)
          · repeat refine awp_seq ?_
            refine awp_cond rfl (fun hc => ?_) (fun hc => ?_) <;> (try simp only [go_sem] at hc)
            refine awp_skip ?_
            try simp only [go_sem]
            repeat refine awp_seq ?_
            refine awp_reg (by kernel_rfl) fun K hK => ?_
            simp only [go_sem]
            (try simp (disch := omega) only [wrapI])
            repeat first | intro _ | refine ⟨(by omega), ?_⟩ | refine ⟨⟨by omega, by omega⟩, ?_⟩
            refine hK _ ?_
            clear hK K
            try simp only [go_sem]
            exact ⟨by omega, go2 hle, fit_of [] (by try simp only [go_sem]) (by try simp only [go_sem])⟩
          · repeat refine awp_seq ?_
            refine awp_cond rfl (fun hc => ?_) (fun hc => ?_) <;> (try simp only [go_sem] at hc)
            repeat refine awp_seq ?_
            refine awp_reg (by kernel_rfl) fun K hK => ?_
            simp only [go_sem]
            (try simp (disch := omega) only [wrapI])
            repeat first | intro _ | refine ⟨(by omega), ?_⟩ | refine ⟨⟨by omega, by omega⟩, ?_⟩
            refine hK _ ?_
            clear hK K
            refine awp_ret ?_
            simp only [go_sem]
            simp [go1 hle, goodV]
        · have e0 : (x.b != 0) = true := by simp [h0]
          have e1 : bedOk x.b = true := by simpa [h0] using hb0
          rw [e1] at hB
          repeat refine awp_seq ?_
          refine awp_dreg follows (by decide +kernel) (by kernel_rfl) fun K hK => ?_
          simp only [go_sem, hx, hci, e0, hj1, hj0, hy, bedR]
          (try simp (disch := omega) only [wrapI])
          repeat first | intro _ | refine ⟨(by omega), ?_⟩ | refine ⟨⟨by omega, by omega⟩, ?_⟩
          refine xcall_eq (hB) rfl (by simp only [go_sem, i64, ints, hj1, hj0, hx, hci, hy, bedR]) (by simp only [go_sem, i64, ints, hj1, hj0, hx, hci, hy, bedR]) (by first | exact .inl rfl | exact .inr rfl) ?_
          (try simp only [go_sem, hj1, hj0, hx, hci, hy, bedR])
          (try simp (disch := omega) only [wrapI])
          try simp only [decide_eq_true_eq]
          repeat first | intro _ | refine ⟨(by omega), ?_⟩ | refine ⟨⟨by omega, by omega⟩, ?_⟩
          refine hK _ ?_
          clear hK K
          refine awp_sub (sub_keep [1, 3, 63]) ?_
          simp only [go_sem]
          cases hle : decide (x.b ≤ y.b)
          · repeat refine awp_seq ?_
            refine awp_cond rfl (fun hc => ?_) (fun hc => ?_) <;> (try simp only [go_sem] at hc)
            refine awp_skip ?_
            try simp only [go_sem]
            repeat refine awp_seq ?_
            refine awp_reg (by kernel_rfl) fun K hK => ?_
            simp only [go_sem]
            (try simp (disch := omega) only [wrapI])
            repeat first | intro _ | refine ⟨(by omega), ?_⟩ | refine ⟨⟨by omega, by omega⟩, ?_⟩
            refine hK _ ?_
            clear hK K
            try simp only [go_sem]
            exact ⟨by omega, go2 hle, fit_of [] (by try simp only [go_sem]) (by try simp only [go_sem])⟩
          · repeat refine awp_seq ?_
            refine awp_cond rfl (fun hc => ?_) (fun hc => ?_) <;> (try simp only [go_sem] at hc)
            repeat refine awp_seq ?_
            refine awp_reg (by kernel_rfl) fun K hK => ?_
            simp only [go_sem]
            (try simp (disch := omega) only [wrapI])
            repeat first | intro _ | refine ⟨(by omega), ?_⟩ | refine ⟨⟨by omega, by omega⟩, ?_⟩
            refine hK _ ?_
            clear hK K
            refine awp_ret ?_
            simp only [go_sem]
            simp [go1 hle, goodV]
    · refine awp_exit ?_
      simp only [go_sem]
      repeat refine awp_seq ?_
      refine awp_reg (by kernel_rfl) fun K hK => ?_
      simp only [go_sem]
      (try simp (disch := omega) only [wrapI])
      repeat first | intro _ | refine ⟨(by omega), ?_⟩ | refine ⟨⟨by omega, by omega⟩, ?_⟩
      refine hK _ ?_
      clear hK K
      refine awp_sub (sub_keep [2]) ?_
      simp only [go_sem]
      refine awp_ret ?_
      simp only [go_sem]
      have : l.drop i = [] := List.drop_eq_nil_of_le (by omega)
      simp [goodV, hI, this, seqOk, hA, hne, hl10]
/-- An aim for a Den, by the document. -/
def aimOk10 (d : Int) (a : Am) : Bool := aimOk d a && decide (a.beds.length ≤ 10)
theorem refAim_ok (x0 : Am) (d : Int) (hw0 : WfA x0) (hd : d ≤ 6000) : ACalls Try.prog 50 [aimV x0, i64 d] (.bo (aimOk10 d x0)) := by
  obtain ⟨a, l⟩ := x0
  refine acalls_st (rs := [.bo (aimOk10 d ⟨a, l⟩)]) [.tmp 4] Try.func50 rfl (by kernel_rfl) Try.ntmps50 rfl (by simp) rfl fun C vs => ?_
  repeat refine awp_seq ?_
  refine awp_reg (by kernel_rfl) fun K hK => ?_
  simp only [go_sem]
  (try simp (disch := omega) only [wrapI])
  repeat first | intro _ | refine ⟨(by omega), ?_⟩ | refine ⟨⟨by omega, by omega⟩, ?_⟩
  refine hK _ ?_
  clear hK K
  refine awp_sub (sub_frzP 2 2 [i64 a, bedsR l] (by omega) rfl rfl) ?_
  refine awp_sub (sub_keep [1, 2]) ?_
  simp only [go_sem]
  repeat refine awp_seq ?_
  refine awp_reg (by kernel_rfl) fun K hK => ?_
  simp only [go_sem]
  (try simp (disch := omega) only [wrapI])
  refine xcall_eq (good_ok ⟨a, l⟩ hw0) rfl (by simp only [go_sem, i64, ints]) (by simp only [go_sem, i64, ints]) (by first | exact .inl rfl | exact .inr rfl) ?_
  (try simp only [go_sem])
  (try simp (disch := omega) only [wrapI])
  cases hG : goodV ⟨a, l⟩
  · repeat first | intro _ | refine ⟨(by omega), ?_⟩ | refine ⟨⟨by omega, by omega⟩, ?_⟩
    refine hK _ ?_
    clear hK K
    refine awp_sub (sub_keep [1, 2, 11]) ?_
    simp only [go_sem]
    repeat refine awp_seq ?_
    refine awp_cond rfl (fun hc => ?_) (fun hc => ?_) <;> (try simp only [go_sem] at hc)
    repeat refine awp_seq ?_
    refine awp_reg (by kernel_rfl) fun K hK => ?_
    simp only [go_sem]
    (try simp (disch := omega) only [wrapI])
    repeat first | intro _ | refine ⟨(by omega), ?_⟩ | refine ⟨⟨by omega, by omega⟩, ?_⟩
    refine hK _ ?_
    clear hK K
    refine awp_ret ?_
    simp only [go_sem]
    have : aimOk10 d ⟨a, l⟩ = false := by
      unfold goodV at hG
      unfold aimOk10 aimOk
      cases h1 : bedOk a <;> cases h2 : l.isEmpty <;> cases h3 : decide (l.length ≤ 10) <;> cases h4 : seqOk none l <;> simp_all
    simp [this]
  have hl10 : l.length ≤ 10 := by simp [goodV] at hG; exact hG.1.2
  have hG' : bedOk a = true ∧ l.isEmpty = false ∧ seqOk none l = true := by
    simp [goodV] at hG; simp [hG]
  repeat first | intro _ | refine ⟨(by omega), ?_⟩ | refine ⟨⟨by omega, by omega⟩, ?_⟩
  refine hK _ ?_
  clear hK K
  refine awp_sub (sub_keep [1, 2, 11]) ?_
  simp only [go_sem]
  repeat refine awp_seq ?_
  refine awp_cond rfl (fun hc => ?_) (fun hc => ?_) <;> (try simp only [go_sem] at hc)
  refine awp_skip ?_
  try simp only [go_sem]
  repeat refine awp_seq ?_
  refine awp_reg (by kernel_rfl) fun K hK => ?_
  simp only [go_sem]
  (try simp (disch := omega) only [wrapI])
  repeat first | intro _ | refine ⟨(by omega), ?_⟩ | refine ⟨⟨by omega, by omega⟩, ?_⟩
  refine hK _ ?_
  clear hK K
  refine awp_sub (sub_keep [1, 2, 5, 6]) ?_
  simp only [go_sem]
  repeat refine awp_seq ?_
  refine awp_reg (by kernel_rfl) fun K hK => ?_
  simp only [go_sem]
  (try simp (disch := omega) only [wrapI])
  repeat first | intro _ | refine ⟨(by omega), ?_⟩ | refine ⟨⟨by omega, by omega⟩, ?_⟩
  refine hK _ ?_
  clear hK K
  refine awp_sub (sub_keep [1, 2, 5, 6, 7]) ?_
  simp only [go_sem]
  repeat refine awp_seq ?_
  refine awp_block ?_
  refine awp_upto (n := 57) l.length (fun i vs => [(1, .r (i64 d)), (2, .r (.rp [i64 a, bedsR l])), (5, .r (i64 (loS (l.take i)))), (6, .r (i64 (hiS (l.take i)))), (7, .r (i64 i))])
    (fun i => []) (fun i => chOk d (l.take i) = true) 0 (fit_of [] ?_ ?_) (Nat.zero_le _) rfl ?_
  · try simp only [go_sem]
    simp [loS, hiS]
  · try simp only [go_sem]
  · intro i vs hi hI
    have hb := sums_le (chOk_small hI hd)
    have hli : (l.take i).length ≤ 10 := by rw [List.length_take]; omega
    repeat refine awp_seq ?_
    refine awp_reg (by kernel_rfl) fun K hK => ?_
    simp only [go_sem]
    (try simp (disch := omega) only [wrapI])
    repeat first | intro _ | refine ⟨(by omega), ?_⟩ | refine ⟨⟨by omega, by omega⟩, ?_⟩
    refine hK _ ?_
    clear hK K
    refine awp_sub (sub_keep [1, 2, 5, 6, 7, 16]) ?_
    simp only [go_sem]
    repeat refine awp_seq ?_
    refine awp_cond rfl (fun hc => ?_) (fun hc => ?_) <;> (try simp only [go_sem] at hc)
    · -- then
      have hci := hc
      obtain ⟨x, hx⟩ := opt_of_lt hc
      have htk := take_of_opt hx
      have hch : chOk d (l.take (i + 1)) = (chOk d (l.take i) && (decide (0 ≤ x.lo) && decide (x.lo ≤ x.hi) && decide (x.hi ≤ d))) := by
        rw [htk]; simp [chOk]
      have bad : (decide (0 ≤ x.lo) && decide (x.lo ≤ x.hi) && decide (x.hi ≤ d)) = false → aimOk10 d ⟨a, l⟩ = false := fun h => by
        have : chOk d l = false := by
          show (l.all fun x => decide (0 ≤ x.lo) && decide (x.lo ≤ x.hi) && decide (x.hi ≤ d)) = false
          exact List.all_eq_false.2 ⟨x, mem_of_opt hx, by simp only [h]; simp⟩
        simp [aimOk10, aimOk, this]
      refine awp_skip ?_
      try simp only [go_sem]
      repeat refine awp_seq ?_
      refine awp_block ?_
      repeat refine awp_seq ?_
      refine awp_reg (by kernel_rfl) fun K hK => ?_
      simp only [go_sem, hx, hci, bedR]
      (try simp (disch := omega) only [wrapI])
      repeat first | intro _ | refine ⟨(by omega), ?_⟩ | refine ⟨⟨by omega, by omega⟩, ?_⟩
      refine hK _ ?_
      clear hK K
      refine awp_sub (sub_frzP 8 8 [i64 x.lo, i64 x.hi] (by omega) rfl rfl) ?_
      refine awp_sub (sub_keep [1, 2, 5, 6, 7, 8]) ?_
      simp only [go_sem]
      by_cases h1 : x.lo < 0
      · have e1 : decide (x.lo < 0) = true := by simpa using h1
        repeat refine awp_seq ?_
        refine awp_reg (by kernel_rfl) fun K hK => ?_
        simp only [go_sem, e1]
        (try simp (disch := omega) only [wrapI])
        repeat first | intro _ | refine ⟨(by omega), ?_⟩ | refine ⟨⟨by omega, by omega⟩, ?_⟩
        refine hK _ ?_
        clear hK K
        refine awp_sub (sub_keep [1, 2, 5, 6, 7, 8, 40]) ?_
        simp only [go_sem]
        repeat refine awp_seq ?_
        refine awp_cond rfl (fun hc => ?_) (fun hc => ?_) <;> (try simp only [go_sem] at hc)
        repeat refine awp_seq ?_
        refine awp_reg (by kernel_rfl) fun K hK => ?_
        simp only [go_sem]
        (try simp (disch := omega) only [wrapI])
        repeat first | intro _ | refine ⟨(by omega), ?_⟩ | refine ⟨⟨by omega, by omega⟩, ?_⟩
        refine hK _ ?_
        clear hK K
        refine awp_ret ?_
        simp only [go_sem]
        simp [bad (by simp; omega)]
      have e1 : decide (x.lo < 0) = false := by simpa using h1
      by_cases h2 : x.hi < x.lo
      · have e2 : decide (x.hi < x.lo) = true := by simpa using h2
        repeat refine awp_seq ?_
        refine awp_reg (by kernel_rfl) fun K hK => ?_
        simp only [go_sem, e1, e2]
        (try simp (disch := omega) only [wrapI])
        repeat first | intro _ | refine ⟨(by omega), ?_⟩ | refine ⟨⟨by omega, by omega⟩, ?_⟩
        refine hK _ ?_
        clear hK K
        refine awp_sub (sub_keep [1, 2, 5, 6, 7, 8, 40]) ?_
        simp only [go_sem]
        repeat refine awp_seq ?_
        refine awp_cond rfl (fun hc => ?_) (fun hc => ?_) <;> (try simp only [go_sem] at hc)
        repeat refine awp_seq ?_
        refine awp_reg (by kernel_rfl) fun K hK => ?_
        simp only [go_sem]
        (try simp (disch := omega) only [wrapI])
        repeat first | intro _ | refine ⟨(by omega), ?_⟩ | refine ⟨⟨by omega, by omega⟩, ?_⟩
        refine hK _ ?_
        clear hK K
        refine awp_ret ?_
        simp only [go_sem]
        simp [bad (by simp; omega)]
      have e2 : decide (x.hi < x.lo) = false := by simpa using h2
      repeat refine awp_seq ?_
      refine awp_reg (by kernel_rfl) fun K hK => ?_
      simp only [go_sem, e1, e2]
      (try simp (disch := omega) only [wrapI])
      repeat first | intro _ | refine ⟨(by omega), ?_⟩ | refine ⟨⟨by omega, by omega⟩, ?_⟩
      refine hK _ ?_
      clear hK K
      refine awp_sub (sub_keep [1, 2, 5, 6, 7, 8, 40]) ?_
      simp only [go_sem]
      repeat refine awp_seq ?_
      refine awp_cond rfl (fun hc => ?_) (fun hc => ?_) <;> (try simp only [go_sem] at hc)
      · -- then
        repeat refine awp_seq ?_
        refine awp_reg (by kernel_rfl) fun K hK => ?_
        simp only [go_sem]
        (try simp (disch := omega) only [wrapI])
        repeat first | intro _ | refine ⟨(by omega), ?_⟩ | refine ⟨⟨by omega, by omega⟩, ?_⟩
        refine hK _ ?_
        clear hK K
        refine awp_sub (sub_keep [4]) ?_
        simp only [go_sem]
        refine awp_ret ?_
        simp only [go_sem]
        simp [bad (by simp; omega)]
      · -- else
        refine awp_skip ?_
        try simp only [go_sem]
        repeat refine awp_seq ?_
        refine awp_dreg follows (by decide +kernel) (by kernel_rfl) fun K hK => ?_
        simp only [go_sem]
        (try simp (disch := omega) only [wrapI])
        repeat first | intro _ | refine ⟨(by omega), ?_⟩ | refine ⟨⟨by omega, by omega⟩, ?_⟩
        refine hK _ ?_
        clear hK K
        refine awp_sub (sub_keep [1, 2, 5, 6, 7]) ?_
        simp only [go_sem]
        repeat refine awp_seq ?_
        refine awp_reg (by kernel_rfl) fun K hK => ?_
        simp only [go_sem]
        (try simp (disch := omega) only [wrapI])
        repeat first | intro _ | refine ⟨(by omega), ?_⟩ | refine ⟨⟨by omega, by omega⟩, ?_⟩
        refine hK _ ?_
        clear hK K
        try simp only [go_sem]
        refine ⟨hci, ?_, fit_of [] ?_ ?_⟩
        · rw [hch, hI]; simp; omega
        · rw [htk, loS_snoc, hiS_snoc]
          try simp only [go_sem]
        · try simp only [go_sem]
    · -- else
      refine awp_exit ?_
      simp only [go_sem]
      have : i = l.length := by omega
      subst this
      rw [List.take_length] at hI hb hli ⊢
      have res : aimOk10 d ⟨a, l⟩ = (decide (loS l ≤ d) && decide (d ≤ hiS l)) := by
        simp [aimOk10, aimOk, hG', hI, hl10]
      repeat refine awp_seq ?_
      refine awp_reg (by kernel_rfl) fun K hK => ?_
      simp only [go_sem]
      (try simp (disch := omega) only [wrapI])
      repeat' first | intro _ | refine And.intro ?_ ?_
      all_goals first | omega | skip
      all_goals (refine hK _ ?_; clear hK K)
      all_goals (refine awp_ret ?_; simp only [go_sem])
      all_goals simp_all
theorem refCheck_ok (d : Int) (l : List Am) (hw : WfL d l) : ACalls Try.prog 17 [lawV d l] (i64 (checkV d l)) := by
  refine acalls_st (rs := [i64 (checkV d l)]) [.tmp 2] Try.func17 rfl (by kernel_rfl) Try.ntmps17 rfl (by simp) rfl fun C vs => ?_
  repeat refine awp_seq ?_
  refine awp_reg (by kernel_rfl) fun K hK => ?_
  simp only [go_sem]
  (try simp (disch := omega) only [wrapI])
  repeat first | intro _ | refine ⟨(by omega), ?_⟩ | refine ⟨⟨by omega, by omega⟩, ?_⟩
  refine hK _ ?_
  clear hK K
  refine awp_sub (sub_frzP 1 1 [i64 d, aimsR l] (by omega) rfl rfl) ?_
  refine awp_sub (sub_keep [1]) ?_
  simp only [go_sem]
  repeat refine awp_seq ?_
  refine awp_reg (by kernel_rfl) fun K hK => ?_
  simp only [go_sem]
  (try simp (disch := omega) only [wrapI])
  intro hl0
  repeat first | intro _ | refine ⟨(by omega), ?_⟩ | refine ⟨⟨by omega, by omega⟩, ?_⟩
  refine hK _ ?_
  clear hK K
  refine awp_sub (sub_keep [1, 8]) ?_
  simp only [go_sem]
  repeat refine awp_seq ?_
  refine awp_cond rfl (fun hc => ?_) (fun hc => ?_) <;> (try simp only [go_sem] at hc)
  · -- then
    repeat refine awp_seq ?_
    refine awp_reg (by kernel_rfl) fun K hK => ?_
    simp only [go_sem]
    (try simp (disch := omega) only [wrapI])
    repeat first | intro _ | refine ⟨(by omega), ?_⟩ | refine ⟨⟨by omega, by omega⟩, ?_⟩
    refine hK _ ?_
    clear hK K
    refine awp_sub (sub_keep [2]) ?_
    simp only [go_sem]
    refine awp_ret ?_
    simp only [go_sem]
    have : 20 < l.length := by omega
    simp [checkV, this]
  · -- else
    have hl : ¬ 20 < l.length := by omega
    refine awp_skip ?_
    try simp only [go_sem]
    repeat refine awp_seq ?_
    refine awp_reg (by kernel_rfl) fun K hK => ?_
    simp only [go_sem]
    (try simp (disch := omega) only [wrapI])
    repeat first | intro _ | refine ⟨(by omega), ?_⟩ | refine ⟨⟨by omega, by omega⟩, ?_⟩
    refine hK _ ?_
    clear hK K
    refine awp_sub (sub_keep [1, 3]) ?_
    simp only [go_sem]
    repeat refine awp_seq ?_
    refine awp_block ?_
    refine awp_upto (n := 54) l.length (fun i vs => [(1, .r (.rp [i64 d, aimsR l])), (3, .r (i64 i))])
      (fun i => []) (fun i => (l.take i).any (fun a => decide (10 < a.beds.length)) = false) 0 (fit_of [] ?_ ?_) (Nat.zero_le _) rfl ?_
    · try simp only [go_sem]
    · try simp only [go_sem]
    · intro i vs hi hI
      repeat refine awp_seq ?_
      refine awp_reg (by kernel_rfl) fun K hK => ?_
      simp only [go_sem]
      (try simp (disch := omega) only [wrapI])
      repeat first | intro _ | refine ⟨(by omega), ?_⟩ | refine ⟨⟨by omega, by omega⟩, ?_⟩
      refine hK _ ?_
      clear hK K
      refine awp_sub (sub_keep [1, 3, 13]) ?_
      simp only [go_sem]
      repeat refine awp_seq ?_
      refine awp_cond rfl (fun hc => ?_) (fun hc => ?_) <;> (try simp only [go_sem] at hc)
      · -- then
        have hci := hc
        obtain ⟨x, hx⟩ := opt_of_lt hc
        refine awp_skip ?_
        try simp only [go_sem]
        repeat refine awp_seq ?_
        refine awp_block ?_
        repeat refine awp_seq ?_
        refine awp_reg (by kernel_rfl) fun K hK => ?_
        simp only [go_sem, hx, hci, aimR]
        (try simp (disch := omega) only [wrapI])
        intro _
        repeat first | intro _ | refine ⟨(by omega), ?_⟩ | refine ⟨⟨by omega, by omega⟩, ?_⟩
        refine hK _ ?_
        clear hK K
        refine awp_sub (sub_keep [1, 3, 23]) ?_
        simp only [go_sem]
        repeat refine awp_seq ?_
        refine awp_cond rfl (fun hc => ?_) (fun hc => ?_) <;> (try simp only [go_sem] at hc)
        · -- then
          repeat refine awp_seq ?_
          refine awp_reg (by kernel_rfl) fun K hK => ?_
          simp only [go_sem]
          (try simp (disch := omega) only [wrapI])
          repeat first | intro _ | refine ⟨(by omega), ?_⟩ | refine ⟨⟨by omega, by omega⟩, ?_⟩
          refine hK _ ?_
          clear hK K
          refine awp_sub (sub_keep [2]) ?_
          simp only [go_sem]
          refine awp_ret ?_
          simp only [go_sem]
          have : 10 < x.beds.length := by omega
          simp [checkV, any_of hx (p := fun a => decide (10 < a.beds.length)) (by simpa using this)]
        · -- else
          refine awp_skip ?_
          try simp only [go_sem]
          repeat refine awp_seq ?_
          refine awp_reg (by kernel_rfl) fun K hK => ?_
          simp only [go_sem]
          (try simp (disch := omega) only [wrapI])
          repeat first | intro _ | refine ⟨(by omega), ?_⟩ | refine ⟨⟨by omega, by omega⟩, ?_⟩
          refine hK _ ?_
          clear hK K
          try simp only [go_sem]
          refine ⟨hci, ?_, fit_of [] ?_ ?_⟩
          · rw [any_step hx, hI]
            simp
            omega
          · try simp only [go_sem]
          · try simp only [go_sem]
      · -- else
        refine awp_exit ?_
        simp only [go_sem]
        have : i = l.length := by omega
        subst this
        rw [List.take_length] at hI
        have hlen : ∀ x ∈ l, x.beds.length ≤ 10 := fun x hx => by
          have := List.any_eq_false.1 hI x hx
          simp at this; omega
        by_cases hz : l = []
        · subst hz
          repeat refine awp_seq ?_
          refine awp_reg (by kernel_rfl) fun K hK => ?_
          simp only [go_sem]
          (try simp (disch := omega) only [wrapI])
          repeat first | intro _ | refine ⟨(by omega), ?_⟩ | refine ⟨⟨by omega, by omega⟩, ?_⟩
          refine hK _ ?_
          clear hK K
          refine awp_sub (sub_keep [1, 37]) ?_
          simp only [go_sem]
          repeat refine awp_seq ?_
          refine awp_cond rfl (fun hc => ?_) (fun hc => ?_) <;> (try simp only [go_sem] at hc)
          repeat refine awp_seq ?_
          refine awp_reg (by kernel_rfl) fun K hK => ?_
          simp only [go_sem]
          (try simp (disch := omega) only [wrapI])
          repeat first | intro _ | refine ⟨(by omega), ?_⟩ | refine ⟨⟨by omega, by omega⟩, ?_⟩
          refine hK _ ?_
          clear hK K
          refine awp_ret ?_
          simp only [go_sem]
          simp [checkV]
        have hz' : ((l.length : Int) == 0) = false := by
          cases l with
          | nil => simp at hz
          | cons => simp; omega
        have hze : l.isEmpty = false := by cases l <;> simp at hz ⊢
        by_cases h1 : d < 1
        · have e1 : decide (d < 1) = true := by simpa using h1
          repeat refine awp_seq ?_
          refine awp_reg (by kernel_rfl) fun K hK => ?_
          simp only [go_sem, hz', e1]
          (try simp (disch := omega) only [wrapI])
          repeat first | intro _ | refine ⟨(by omega), ?_⟩ | refine ⟨⟨by omega, by omega⟩, ?_⟩
          refine hK _ ?_
          clear hK K
          refine awp_sub (sub_keep [1, 37]) ?_
          simp only [go_sem]
          repeat refine awp_seq ?_
          refine awp_cond rfl (fun hc => ?_) (fun hc => ?_) <;> (try simp only [go_sem] at hc)
          repeat refine awp_seq ?_
          refine awp_reg (by kernel_rfl) fun K hK => ?_
          simp only [go_sem]
          (try simp (disch := omega) only [wrapI])
          repeat first | intro _ | refine ⟨(by omega), ?_⟩ | refine ⟨⟨by omega, by omega⟩, ?_⟩
          refine hK _ ?_
          clear hK K
          refine awp_ret ?_
          simp only [go_sem]
          have : ¬ 1 ≤ d := by omega
          simp [checkV, hl, hI, hze, this]
        have e1 : decide (d < 1) = false := by simpa using h1
        repeat refine awp_seq ?_
        refine awp_reg (by kernel_rfl) fun K hK => ?_
        simp only [go_sem, hz', e1]
        (try simp (disch := omega) only [wrapI])
        intro _
        repeat first | intro _ | refine ⟨(by omega), ?_⟩ | refine ⟨⟨by omega, by omega⟩, ?_⟩
        refine hK _ ?_
        clear hK K
        refine awp_sub (sub_keep [1, 37]) ?_
        simp only [go_sem]
        repeat refine awp_seq ?_
        refine awp_cond rfl (fun hc => ?_) (fun hc => ?_) <;> (try simp only [go_sem] at hc)
        · -- then
          repeat refine awp_seq ?_
          refine awp_reg (by kernel_rfl) fun K hK => ?_
          simp only [go_sem]
          (try simp (disch := omega) only [wrapI])
          repeat first | intro _ | refine ⟨(by omega), ?_⟩ | refine ⟨⟨by omega, by omega⟩, ?_⟩
          refine hK _ ?_
          clear hK K
          refine awp_sub (sub_keep [2]) ?_
          simp only [go_sem]
          refine awp_ret ?_
          simp only [go_sem]
          have : ¬ d ≤ 3000 := by omega
          simp [checkV, hl, hI, hze, this]
        · -- else
          have h2 : 1 ≤ d ∧ d ≤ 3000 := by omega
          have cv : checkV d l = if l.all (aimOk d) = true then 0 else 2 := by simp [checkV, hl, hI, hze, h2]
          refine awp_skip ?_
          try simp only [go_sem]
          repeat refine awp_seq ?_
          refine awp_reg (by kernel_rfl) fun K hK => ?_
          simp only [go_sem]
          (try simp (disch := omega) only [wrapI])
          repeat first | intro _ | refine ⟨(by omega), ?_⟩ | refine ⟨⟨by omega, by omega⟩, ?_⟩
          refine hK _ ?_
          clear hK K
          refine awp_sub (sub_keep [1, 4]) ?_
          simp only [go_sem]
          repeat refine awp_seq ?_
          refine awp_block ?_
          refine awp_upto (n := 54) l.length (fun i vs => [(1, .r (.rp [i64 d, aimsR l])), (4, .r (i64 i))])
            (fun i => []) (fun i => (l.take i).all (aimOk d) = true) 0 (fit_of [] ?_ ?_) (Nat.zero_le _) rfl ?_
          · try simp only [go_sem]
          · try simp only [go_sem]
          · intro i vs hi hI
            repeat refine awp_seq ?_
            refine awp_reg (by kernel_rfl) fun K hK => ?_
            simp only [go_sem]
            (try simp (disch := omega) only [wrapI])
            repeat first | intro _ | refine ⟨(by omega), ?_⟩ | refine ⟨⟨by omega, by omega⟩, ?_⟩
            refine hK _ ?_
            clear hK K
            refine awp_sub (sub_keep [1, 4, 42]) ?_
            simp only [go_sem]
            repeat refine awp_seq ?_
            refine awp_cond rfl (fun hc => ?_) (fun hc => ?_) <;> (try simp only [go_sem] at hc)
            · -- then
              have hci := hc
              obtain ⟨x, hx⟩ := opt_of_lt hc
              have hx10 : aimOk10 d x = aimOk d x := by
                have := hlen x (mem_of_opt hx)
                simp [aimOk10, this]
              refine awp_skip ?_
              try simp only [go_sem]
              repeat refine awp_seq ?_
              refine awp_block ?_
              repeat refine awp_seq ?_
              refine awp_dreg follows (by decide +kernel) (by kernel_rfl) fun K hK => ?_
              simp only [go_sem, hx, hci, aimR]
              (try simp (disch := omega) only [wrapI])
              refine xcall_eq (refAim_ok x d (hw.2 x (mem_of_opt hx)) (by omega)) rfl (by simp only [go_sem, i64, ints]) (by simp only [go_sem, i64, ints]) (by first | exact .inl rfl | exact .inr rfl) ?_
              (try simp only [go_sem])
              (try simp (disch := omega) only [wrapI])
              rw [hx10]
              cases hv : aimOk d x
              · repeat first | intro _ | refine ⟨(by omega), ?_⟩ | refine ⟨⟨by omega, by omega⟩, ?_⟩
                refine hK _ ?_
                clear hK K
                refine awp_sub (sub_keep [1, 4, 53]) ?_
                simp only [go_sem]
                repeat refine awp_seq ?_
                refine awp_cond rfl (fun hc => ?_) (fun hc => ?_) <;> (try simp only [go_sem] at hc)
                repeat refine awp_seq ?_
                refine awp_reg (by kernel_rfl) fun K hK => ?_
                simp only [go_sem]
                (try simp (disch := omega) only [wrapI])
                repeat first | intro _ | refine ⟨(by omega), ?_⟩ | refine ⟨⟨by omega, by omega⟩, ?_⟩
                refine hK _ ?_
                clear hK K
                refine awp_ret ?_
                simp only [go_sem]
                have : l.all (aimOk d) = false := List.all_eq_false.2 ⟨x, mem_of_opt hx, by rw [hv]; simp⟩
                simp [cv, this]
              · repeat first | intro _ | refine ⟨(by omega), ?_⟩ | refine ⟨⟨by omega, by omega⟩, ?_⟩
                refine hK _ ?_
                clear hK K
                refine awp_sub (sub_keep [1, 4, 53]) ?_
                simp only [go_sem]
                repeat refine awp_seq ?_
                refine awp_cond rfl (fun hc => ?_) (fun hc => ?_) <;> (try simp only [go_sem] at hc)
                refine awp_skip ?_
                try simp only [go_sem]
                repeat refine awp_seq ?_
                refine awp_reg (by kernel_rfl) fun K hK => ?_
                simp only [go_sem]
                (try simp (disch := omega) only [wrapI])
                repeat first | intro _ | refine ⟨(by omega), ?_⟩ | refine ⟨⟨by omega, by omega⟩, ?_⟩
                refine hK _ ?_
                clear hK K
                try simp only [go_sem]
                refine ⟨hci, ?_, fit_of [] ?_ ?_⟩
                · rw [take_of_opt hx]; simp [hI, hv]
                · try simp only [go_sem]
                · try simp only [go_sem]
            · -- else
              refine awp_exit ?_
              simp only [go_sem]
              repeat refine awp_seq ?_
              refine awp_reg (by kernel_rfl) fun K hK => ?_
              simp only [go_sem]
              (try simp (disch := omega) only [wrapI])
              repeat first | intro _ | refine ⟨(by omega), ?_⟩ | refine ⟨⟨by omega, by omega⟩, ?_⟩
              refine hK _ ?_
              clear hK K
              refine awp_sub (sub_keep [2]) ?_
              simp only [go_sem]
              refine awp_ret ?_
              simp only [go_sem]
              have : i = l.length := by omega
              rw [this, List.take_length] at hI
              simp [cv, hI]
end Go.Proofs.Ytgkejinoaommeaa

/- The least spans, by the document: each number of each bed is tried. -/
namespace Go.Proofs.Ytgkejinoaommeaa
open Go Go.Oc
set_option linter.unusedSimpArgs false
set_option linter.unusedVariables false
set_option maxRecDepth 8000
theorem others_ok (a : Int) (l : List Bd) (k : Nat) (x : Bd) (hs : Small l) (hl : l.length ≤ 1000) (hk : l[k]? = some x) :
    ACalls Try.prog 55 [aimV ⟨a, l⟩, i64 k] (.tu [i64 (loS l - x.lo), i64 (hiS l - x.hi)]) := by
  have hkl : k < l.length := (List.getElem?_eq_some_iff.1 hk).1
  have hxs := hs x (mem_of_opt hk)
  refine acalls_st (rs := [i64 (loS l - x.lo), i64 (hiS l - x.hi)]) [.tmp 4, .tmp 5] Try.func55 rfl (by kernel_rfl) Try.ntmps55 rfl (by simp) rfl fun C vs => ?_
  repeat refine awp_seq ?_
  refine awp_reg (by kernel_rfl) fun K hK => ?_
  simp only [go_sem]
  (try simp (disch := omega) only [wrapI])
  repeat first | intro _ | refine ⟨(by omega), ?_⟩ | refine ⟨⟨by omega, by omega⟩, ?_⟩
  refine hK _ ?_
  clear hK K
  refine awp_sub (sub_frzP 2 2 [i64 a, bedsR l] (by omega) rfl rfl) ?_
  refine awp_sub (sub_keep [1, 2]) ?_
  simp only [go_sem]
  repeat refine awp_seq ?_
  refine awp_reg (by kernel_rfl) fun K hK => ?_
  simp only [go_sem]
  (try simp (disch := omega) only [wrapI])
  repeat first | intro _ | refine ⟨(by omega), ?_⟩ | refine ⟨⟨by omega, by omega⟩, ?_⟩
  refine hK _ ?_
  clear hK K
  refine awp_sub (sub_keep [1, 2, 6, 7]) ?_
  simp only [go_sem]
  repeat refine awp_seq ?_
  refine awp_reg (by kernel_rfl) fun K hK => ?_
  simp only [go_sem]
  (try simp (disch := omega) only [wrapI])
  repeat first | intro _ | refine ⟨(by omega), ?_⟩ | refine ⟨⟨by omega, by omega⟩, ?_⟩
  refine hK _ ?_
  clear hK K
  refine awp_sub (sub_keep [1, 2, 6, 7, 8]) ?_
  simp only [go_sem]
  repeat refine awp_seq ?_
  refine awp_block ?_
  refine awp_upto (n := 39) l.length (fun i vs => [(1, .r (i64 k)), (2, .r (.rp [i64 a, bedsR l])), (6, .r (i64 (loS (l.take i) - (if k < i then x.lo else 0)))), (7, .r (i64 (hiS (l.take i) - (if k < i then x.hi else 0)))), (8, .r (i64 i))])
    (fun i => []) (fun _ => True) 0 (fit_of [] ?_ ?_) (Nat.zero_le _) trivial ?_
  · try simp only [go_sem]
    simp [loS, hiS]
  · try simp only [go_sem]
  · intro i vs hi _
    have hsi : Small (l.take i) := fun y hy => hs y (List.mem_of_mem_take hy)
    have hb := sums_le hsi
    have hli : (l.take i).length ≤ 1000 := by rw [List.length_take]; omega
    repeat refine awp_seq ?_
    refine awp_reg (by kernel_rfl) fun K hK => ?_
    simp only [go_sem]
    (try simp (disch := omega) only [wrapI])
    repeat first | intro _ | refine ⟨(by omega), ?_⟩ | refine ⟨⟨by omega, by omega⟩, ?_⟩
    refine hK _ ?_
    clear hK K
    refine awp_sub (sub_keep [1, 2, 6, 7, 8, 13]) ?_
    simp only [go_sem]
    repeat refine awp_seq ?_
    refine awp_cond rfl (fun hc => ?_) (fun hc => ?_) <;> (try simp only [go_sem] at hc)
    · -- then
      have hci := hc
      obtain ⟨y, hy⟩ := opt_of_lt hc
      have hys := hs y (mem_of_opt hy)
      refine awp_skip ?_
      try simp only [go_sem]
      repeat refine awp_seq ?_
      refine awp_block ?_
      by_cases hik : i = k
      · have e0 : ((i : Int) != (k : Int)) = false := by simp [hik]
        have hxy : y = x := by subst hik; rw [hk] at hy; injection hy with hy; exact hy.symm
        repeat refine awp_seq ?_
        refine awp_reg (by kernel_rfl) fun K hK => ?_
        simp only [go_sem, e0]
        (try simp (disch := omega) only [wrapI])
        repeat first | intro _ | refine ⟨(by omega), ?_⟩ | refine ⟨⟨by omega, by omega⟩, ?_⟩
        refine hK _ ?_
        clear hK K
        refine awp_sub (sub_keep [1, 2, 6, 7, 8, 18]) ?_
        simp only [go_sem]
        repeat refine awp_seq ?_
        refine awp_cond rfl (fun hc => ?_) (fun hc => ?_) <;> (try simp only [go_sem] at hc)
        refine awp_skip ?_
        try simp only [go_sem]
        repeat refine awp_seq ?_
        refine awp_reg (by kernel_rfl) fun K hK => ?_
        simp only [go_sem]
        (try simp (disch := omega) only [wrapI])
        repeat first | intro _ | refine ⟨(by omega), ?_⟩ | refine ⟨⟨by omega, by omega⟩, ?_⟩
        refine hK _ ?_
        clear hK K
        try simp only [go_sem]
        refine ⟨hci, fit_of [] ?_ ?_⟩
        · rw [take_of_opt hy, loS_snoc, hiS_snoc, hxy, if_neg (by omega), if_neg (by omega), if_pos (by omega), if_pos (by omega)]
          have g1 : loS (l.take i) + x.lo - x.lo = loS (l.take i) - 0 := by omega
          have g2 : hiS (l.take i) + x.hi - x.hi = hiS (l.take i) - 0 := by omega
          rw [g1, g2]
          try simp only [go_sem]
        · try simp only [go_sem]
      · have e0 : ((i : Int) != (k : Int)) = true := by simp; omega
        repeat refine awp_seq ?_
        refine awp_reg (by kernel_rfl) fun K hK => ?_
        simp only [go_sem, e0]
        (try simp (disch := omega) only [wrapI])
        repeat first | intro _ | refine ⟨(by omega), ?_⟩ | refine ⟨⟨by omega, by omega⟩, ?_⟩
        refine hK _ ?_
        clear hK K
        refine awp_sub (sub_keep [1, 2, 6, 7, 8, 18]) ?_
        simp only [go_sem]
        repeat refine awp_seq ?_
        refine awp_cond rfl (fun hc => ?_) (fun hc => ?_) <;> (try simp only [go_sem] at hc)
        generalize hA : (if k < i then x.lo else 0) = A
        generalize hB : (if k < i then x.hi else 0) = B
        have hA2 : (if k < i + 1 then x.lo else 0) = A := by
          rw [← hA]
          by_cases h : k < i
          · rw [if_pos h, if_pos (by omega)]
          · rw [if_neg h, if_neg (by omega)]
        have hB2 : (if k < i + 1 then x.hi else 0) = B := by
          rw [← hB]
          by_cases h : k < i
          · rw [if_pos h, if_pos (by omega)]
          · rw [if_neg h, if_neg (by omega)]
        have hA' : 0 ≤ A ∧ A ≤ 6000 := by rw [← hA]; split <;> omega
        have hB' : 0 ≤ B ∧ B ≤ 6000 := by rw [← hB]; split <;> omega
        repeat refine awp_seq ?_
        refine awp_dreg follows (by decide +kernel) (by kernel_rfl) fun K hK => ?_
        simp only [go_sem, hy, hci, bedR]
        (try simp (disch := omega) only [wrapI])
        repeat first | intro _ | refine ⟨(by omega), ?_⟩ | refine ⟨⟨by omega, by omega⟩, ?_⟩
        refine hK _ ?_
        clear hK K
        refine awp_sub (sub_keep [1, 2, 6, 7, 8]) ?_
        simp only [go_sem]
        repeat refine awp_seq ?_
        refine awp_reg (by kernel_rfl) fun K hK => ?_
        simp only [go_sem]
        (try simp (disch := omega) only [wrapI])
        repeat first | intro _ | refine ⟨(by omega), ?_⟩ | refine ⟨⟨by omega, by omega⟩, ?_⟩
        refine hK _ ?_
        clear hK K
        try simp only [go_sem]
        refine ⟨hci, fit_of [] ?_ ?_⟩
        · rw [take_of_opt hy, loS_snoc, hiS_snoc, hA2, hB2]
          have g1 : loS (l.take i) + y.lo - A = loS (l.take i) - A + y.lo := by omega
          have g2 : hiS (l.take i) + y.hi - B = hiS (l.take i) - B + y.hi := by omega
          rw [g1, g2]
          try simp only [go_sem]
        · try simp only [go_sem]
    · -- else
      refine awp_exit ?_
      simp only [go_sem]
      repeat refine awp_seq ?_
      refine awp_reg (by kernel_rfl) fun K hK => ?_
      simp only [go_sem]
      (try simp (disch := omega) only [wrapI])
      repeat first | intro _ | refine ⟨(by omega), ?_⟩ | refine ⟨⟨by omega, by omega⟩, ?_⟩
      refine hK _ ?_
      clear hK K
      refine awp_sub (sub_keep [4, 5]) ?_
      simp only [go_sem]
      refine awp_ret ?_
      simp only [go_sem]
      have : i = l.length := by omega
      subst this
      rw [List.take_length, if_pos hkl, if_pos hkl]
      exact ⟨rfl, rfl⟩
theorem loS_le_hiS : ∀ {d : Int} {l : List Bd}, chOk d l = true → 0 ≤ loS l ∧ loS l ≤ hiS l
  | _, [], _ => by simp [loS, hiS]
  | d, x :: l, h => by
    simp only [chOk, List.all_cons, Bool.and_eq_true, decide_eq_true_eq] at h
    have := loS_le_hiS (d := d) (l := l) h.2
    simp only [loS, hiS, List.map_cons, List.sum_cons] at this ⊢
    omega
theorem hiS_loS : ∀ {d : Int} {l : List Bd} {k : Nat} {x : Bd}, chOk d l = true → l[k]? = some x → 0 ≤ loS l - x.lo ∧ loS l - x.lo ≤ hiS l - x.hi
  | _, [], _, _, _, hk => by simp at hk
  | d, y :: l, 0, x, h, hk => by
    simp only [List.getElem?_cons_zero, Option.some.injEq] at hk
    subst hk
    simp only [chOk, List.all_cons, Bool.and_eq_true, decide_eq_true_eq] at h
    have := loS_le_hiS (d := d) (l := l) h.2
    simp only [loS, hiS, List.map_cons, List.sum_cons] at this ⊢
    omega
  | d, y :: l, k + 1, x, h, hk => by
    simp only [List.getElem?_cons_succ] at hk
    simp only [chOk, List.all_cons, Bool.and_eq_true, decide_eq_true_eq] at h
    have := hiS_loS (d := d) (l := l) h.2 hk
    simp only [loS, hiS, List.map_cons, List.sum_cons] at this ⊢
    omega
theorem refTight_ok (d : Int) (x0 : Am) (hv : aimOk d x0 = true) (hl0 : x0.beds.length ≤ 1000) (hd : d ≤ 6000) : ACalls Try.prog 20 [aimV x0, i64 d] (aimV (tightA d x0)) := by
  obtain ⟨a, l⟩ := x0
  obtain ⟨_, _, _, hch, hL, hH⟩ := aimOk_facts hv
  simp only at hch hL hH hl0
  have hs := chOk_small hch hd
  have hb := sums_le hs
  refine acalls_st (rs := [aimV (tightA d ⟨a, l⟩)]) [.cell 4 36] Try.func20 rfl (by kernel_rfl) Try.ntmps20 rfl (by simp) rfl fun C vs => ?_
  repeat refine awp_seq ?_
  refine awp_reg (by kernel_rfl) fun K hK => ?_
  simp only [go_sem]
  (try simp (disch := omega) only [wrapI])
  repeat first | intro _ | refine ⟨(by omega), ?_⟩ | refine ⟨⟨by omega, by omega⟩, ?_⟩
  refine hK _ ?_
  clear hK K
  refine awp_sub (sub_frzP 2 2 [i64 a, bedsR l] (by omega) rfl rfl) ?_
  refine awp_sub (sub_keep [1, 2, 4]) ?_
  simp only [go_sem]
  repeat refine awp_seq ?_
  refine awp_reg (by kernel_rfl) fun K hK => ?_
  simp only [go_sem]
  (try simp (disch := omega) only [wrapI])
  repeat first | intro _ | refine ⟨(by omega), ?_⟩ | refine ⟨⟨by omega, by omega⟩, ?_⟩
  refine hK _ ?_
  clear hK K
  refine awp_sub (sub_keep [1, 2, 4, 5]) ?_
  simp only [go_sem]
  repeat refine awp_seq ?_
  refine awp_reg (by kernel_rfl) fun K hK => ?_
  simp only [go_sem]
  (try simp (disch := omega) only [wrapI])
  repeat first | intro _ | refine ⟨(by omega), ?_⟩ | refine ⟨⟨by omega, by omega⟩, ?_⟩
  refine hK _ ?_
  clear hK K
  refine awp_sub (sub_keep [1, 2, 4, 5, 6]) ?_
  simp only [go_sem]
  repeat refine awp_seq ?_
  refine awp_block ?_
  refine awp_sub (sub_ownB 5 1 30 67 3 (by omega) (by omega) rfl rfl) ?_
  try simp only [go_sem]
  refine awp_uptoV (n := 71) l.length (fun i vs => [(1, .r (i64 d)), (2, .r (.rp [i64 a, bedsR l])), (4, .pt 4 (vs 4) 0), (5, .pt 5 (vs 5) 0), (6, .r (i64 i))])
    (fun i vs => [(4, .box [.r (i64 0), .r .ns]), (5, .box [.r (i64 a), .os 30 (vs 30) 3 0 i]), (30, .arr 67 3 (((tightL d l).take i).map bedR))]) (fun _ => True) 0 (fitV_of [] ?_ ?_) (Nat.zero_le _) trivial ?_
  · try simp only [go_sem]
  · try simp only [go_sem]
  · intro i vs hi _
    have hlt : ((tightL d l).take i).length = i := by rw [List.length_take]; simp [tightL]; omega
    repeat refine awp_seq ?_
    refine awp_reg (by kernel_rfl) fun K hK => ?_
    simp only [go_sem]
    (try simp (disch := omega) only [wrapI])
    repeat first | intro _ | refine ⟨(by omega), ?_⟩ | refine ⟨⟨by omega, by omega⟩, ?_⟩
    refine hK _ ?_
    clear hK K
    refine awp_sub (sub_keep [1, 2, 4, 5, 6, 20]) ?_
    simp only [go_sem]
    repeat refine awp_seq ?_
    refine awp_cond rfl (fun hc => ?_) (fun hc => ?_) <;> (try simp only [go_sem] at hc)
    · -- then
      have hci := hc
      obtain ⟨x, hx⟩ := opt_of_lt hc
      obtain ⟨⟨x1, x2⟩, x3, x4⟩ := hs x (mem_of_opt hx)
      have hxc := List.all_eq_true.1 hch x (mem_of_opt hx)
      simp only [Bool.and_eq_true, decide_eq_true_eq] at hxc
      have htx : (tightL d l).take (i + 1) = (tightL d l).take i ++ [tightB d (loS l) (hiS l) x] := take_of_opt (by simp [tightL, hx])
      refine awp_skip ?_
      try simp only [go_sem]
      repeat refine awp_seq ?_
      refine awp_block ?_
      repeat refine awp_seq ?_
      refine awp_reg (by kernel_rfl) fun K hK => ?_
      simp only [go_sem, hx, hci, bedR]
      (try simp (disch := omega) only [wrapI])
      repeat first | intro _ | refine ⟨(by omega), ?_⟩ | refine ⟨⟨by omega, by omega⟩, ?_⟩
      refine hK _ ?_
      clear hK K
      refine awp_sub (sub_keep [1, 2, 4, 5, 6, 7]) ?_
      simp only [go_sem]
      repeat refine awp_seq ?_
      refine awp_reg (by kernel_rfl) fun K hK => ?_
      simp only [go_sem]
      (try simp (disch := omega) only [wrapI])
      refine xcall_eq (others_ok a l i x hs hl0 hx) rfl (by simp only [go_sem, i64, ints]) (by simp only [go_sem, i64, ints]) (by first | exact .inl rfl | exact .inr rfl) ?_
      (try simp only [go_sem])
      (try simp (disch := omega) only [wrapI])
      repeat first | intro _ | refine ⟨(by omega), ?_⟩ | refine ⟨⟨by omega, by omega⟩, ?_⟩
      refine hK _ ?_
      clear hK K
      refine awp_sub (sub_keep [1, 2, 4, 5, 6, 7, 8, 9]) ?_
      simp only [go_sem]
      have hdiff := hiS_loS hch hx
      generalize hp : loS l - x.lo = p at hdiff ⊢
      generalize hq : hiS l - x.hi = q at hdiff ⊢
      have hpq : p + x.lo ≤ d ∧ d ≤ q + x.hi := by omega
      have hp' : 0 ≤ p ∧ p ≤ 6000000 ∧ q ≤ 6000000 := by omega
      obtain ⟨M, hM1, hM2, hM3⟩ : ∃ M : Int, x.lo ≤ M ∧ d - q ≤ M ∧ (M = x.lo ∨ M = d - q) := by
        by_cases h : x.lo ≤ d - q
        · exact ⟨d - q, h, Int.le_refl _, .inr rfl⟩
        · exact ⟨x.lo, Int.le_refl _, by omega, .inl rfl⟩
      repeat refine awp_seq ?_
      refine awp_reg (by kernel_rfl) fun K hK => ?_
      simp only [go_sem]
      (try simp (disch := omega) only [wrapI])
      repeat first | intro _ | refine ⟨(by omega), ?_⟩ | refine ⟨⟨by omega, by omega⟩, ?_⟩
      refine hK _ ?_
      clear hK K
      refine awp_sub (sub_keep [1, 2, 4, 5, 6, 7, 8, 9, 10, 11]) ?_
      simp only [go_sem]
      repeat refine awp_seq ?_
      refine awp_reg (by kernel_rfl) fun K hK => ?_
      simp only [go_sem]
      (try simp (disch := omega) only [wrapI])
      repeat first | intro _ | refine ⟨(by omega), ?_⟩ | refine ⟨⟨by omega, by omega⟩, ?_⟩
      refine hK _ ?_
      clear hK K
      refine awp_sub (sub_keep [1, 2, 4, 5, 6, 7, 8, 9, 10, 11, 12]) ?_
      simp only [go_sem]
      repeat refine awp_seq ?_
      refine awp_block ?_
      refine awp_uptoV (n := 71) (x.hi - x.lo + 1).toNat (fun j vs => [(1, .r (i64 d)), (2, .r (.rp [i64 a, bedsR l])), (4, .pt 4 (vs 4) 0), (5, .pt 5 (vs 5) 0), (6, .r (i64 i)), (7, .pt 7 (vs 7) 0), (8, .r (i64 p)), (9, .r (i64 q)),
          (10, .r (i64 (if M < x.lo + j then M else -1))), (11, .r (i64 (if M < x.lo + j then min (x.lo + j - 1) (d - p) else -1))), (12, .r (i64 (x.lo + j)))])
        (fun j vs => [(4, .box [.r (i64 0), .r .ns]), (5, .box [.r (i64 a), .os 30 (vs 30) 3 0 i]), (7, .box [.r (i64 x.b), .r (i64 x.lo), .r (i64 x.hi)]), (30, .arr 67 3 (((tightL d l).take i).map bedR))]) (fun _ => True) 0 (fitV_of [] ?_ ?_) (Nat.zero_le _) trivial ?_
      · try simp only [go_sem]
        have : ¬ M < x.lo := by omega
        simp [this]
      · try simp only [go_sem]
      · intro j vs hj _
        repeat refine awp_seq ?_
        refine awp_reg (by kernel_rfl) fun K hK => ?_
        simp only [go_sem]
        (try simp (disch := omega) only [wrapI])
        repeat first | intro _ | refine ⟨(by omega), ?_⟩ | refine ⟨⟨by omega, by omega⟩, ?_⟩
        refine hK _ ?_
        clear hK K
        refine awp_sub (sub_keep [1, 2, 4, 5, 6, 7, 8, 9, 10, 11, 12, 41]) ?_
        simp only [go_sem]
        repeat refine awp_seq ?_
        refine awp_cond rfl (fun hc => ?_) (fun hc => ?_) <;> (try simp only [go_sem] at hc)
        · have hcj : x.lo + (j : Int) ≤ x.hi := hc
          have hjN : j < (x.hi - x.lo + 1).toNat := by omega
          have hj1 : x.lo + (j : Int) + 1 = x.lo + ((j : Int) + 1) := by omega
          refine awp_skip ?_
          try simp only [go_sem]
          repeat refine awp_seq ?_
          refine awp_block ?_
          repeat refine awp_seq ?_
          refine awp_reg (by kernel_rfl) fun K hK => ?_
          simp only [go_sem]
          (try simp (disch := omega) only [wrapI])
          have bad : ¬ (p ≤ d - (x.lo + j) ∧ d - (x.lo + j) ≤ q) → (if M < x.lo + (j : Int) then M else -1) = (if M < x.lo + ((j : Int) + 1) then M else -1) ∧ (if M < x.lo + (j : Int) then min (x.lo + j - 1) (d - p) else -1) = (if M < x.lo + ((j : Int) + 1) then min (x.lo + ((j : Int) + 1) - 1) (d - p) else -1) := fun h => by
            by_cases h1 : M < x.lo + (j : Int)
            · rw [if_pos h1, if_pos (by omega), if_pos h1, if_pos (by omega)]
              omega
            · have : ¬ M < x.lo + ((j : Int) + 1) := by omega
              rw [if_neg h1, if_neg this, if_neg h1, if_neg this]
              simp
          refine ⟨fun g1 => ?_, fun g1 => ?_⟩
          · repeat first | intro _ | refine ⟨(by omega), ?_⟩ | refine ⟨⟨by omega, by omega⟩, ?_⟩
            refine hK _ ?_
            clear hK K
            refine awp_sub (sub_keep [1, 2, 4, 5, 6, 7, 8, 9, 10, 11, 12, 55]) ?_
            simp only [go_sem]
            repeat refine awp_seq ?_
            refine awp_cond rfl (fun hc => ?_) (fun hc => ?_) <;> (try simp only [go_sem] at hc)
            · have g2 := hc
              by_cases h1 : M < x.lo + (j : Int)
              · have e1 : (if M < x.lo + (j : Int) then M else -1) = M := if_pos h1
                rw [e1]
                repeat refine awp_seq ?_
                refine awp_reg (by kernel_rfl) fun K hK => ?_
                simp only [go_sem]
                (try simp (disch := omega) only [wrapI])
                repeat first | intro _ | refine ⟨(by omega), ?_⟩ | refine ⟨⟨by omega, by omega⟩, ?_⟩
                refine hK _ ?_
                clear hK K
                refine awp_sub (sub_keep [1, 2, 4, 5, 6, 7, 8, 9, 10, 12, 57]) ?_
                simp only [go_sem]
                repeat refine awp_seq ?_
                refine awp_cond rfl (fun hc => ?_) (fun hc => ?_) <;> (try simp only [go_sem] at hc)
                · exfalso
                  omega
                refine awp_skip ?_
                try simp only [go_sem]
                repeat refine awp_seq ?_
                refine awp_reg (by kernel_rfl) fun K hK => ?_
                simp only [go_sem]
                (try simp (disch := omega) only [wrapI])
                repeat first | intro _ | refine ⟨(by omega), ?_⟩ | refine ⟨⟨by omega, by omega⟩, ?_⟩
                refine hK _ ?_
                clear hK K
                refine awp_sub (sub_keep [1, 2, 4, 5, 6, 7, 8, 9, 10, 11, 12]) ?_
                simp only [go_sem]
                repeat refine awp_seq ?_
                refine awp_reg (by kernel_rfl) fun K hK => ?_
                simp only [go_sem]
                (try simp (disch := omega) only [wrapI])
                repeat first | intro _ | refine ⟨(by omega), ?_⟩ | refine ⟨⟨by omega, by omega⟩, ?_⟩
                refine hK _ ?_
                clear hK K
                try simp only [go_sem]
                refine ⟨hjN, fitV_of [] ?_ ?_⟩
                · rw [if_pos (by omega), if_pos (by omega), hj1]
                  have : min (x.lo + ((j : Int) + 1) - 1) (d - p) = x.lo + j := by omega
                  rw [this]
                  try simp only [go_sem]
                · try simp only [go_sem]
              · have e1 : (if M < x.lo + (j : Int) then M else -1) = -1 := if_neg h1
                rw [e1]
                repeat refine awp_seq ?_
                refine awp_reg (by kernel_rfl) fun K hK => ?_
                simp only [go_sem]
                (try simp (disch := omega) only [wrapI])
                repeat first | intro _ | refine ⟨(by omega), ?_⟩ | refine ⟨⟨by omega, by omega⟩, ?_⟩
                refine hK _ ?_
                clear hK K
                refine awp_sub (sub_keep [1, 2, 4, 5, 6, 7, 8, 9, 10, 12, 57]) ?_
                simp only [go_sem]
                repeat refine awp_seq ?_
                refine awp_cond rfl (fun hc => ?_) (fun hc => ?_) <;> (try simp only [go_sem] at hc)
                repeat refine awp_seq ?_
                refine awp_reg (by kernel_rfl) fun K hK => ?_
                simp only [go_sem]
                (try simp (disch := omega) only [wrapI])
                repeat first | intro _ | refine ⟨(by omega), ?_⟩ | refine ⟨⟨by omega, by omega⟩, ?_⟩
                refine hK _ ?_
                clear hK K
                refine awp_sub (sub_keep [1, 2, 4, 5, 6, 7, 8, 9, 10, 12]) ?_
                simp only [go_sem]
                repeat refine awp_seq ?_
                refine awp_reg (by kernel_rfl) fun K hK => ?_
                simp only [go_sem]
                (try simp (disch := omega) only [wrapI])
                repeat first | intro _ | refine ⟨(by omega), ?_⟩ | refine ⟨⟨by omega, by omega⟩, ?_⟩
                refine hK _ ?_
                clear hK K
                refine awp_sub (sub_keep [1, 2, 4, 5, 6, 7, 8, 9, 10, 11, 12]) ?_
                simp only [go_sem]
                repeat refine awp_seq ?_
                refine awp_reg (by kernel_rfl) fun K hK => ?_
                simp only [go_sem]
                (try simp (disch := omega) only [wrapI])
                repeat first | intro _ | refine ⟨(by omega), ?_⟩ | refine ⟨⟨by omega, by omega⟩, ?_⟩
                refine hK _ ?_
                clear hK K
                try simp only [go_sem]
                refine ⟨hjN, fitV_of [] ?_ ?_⟩
                · rw [if_pos (by omega), if_pos (by omega), hj1]
                  have : min (x.lo + ((j : Int) + 1) - 1) (d - p) = x.lo + j := by omega
                  have h2 : M = x.lo + j := by omega
                  rw [this, h2]
                  try simp only [go_sem]
                · try simp only [go_sem]
            · obtain ⟨b1, b2⟩ := bad (by omega)
              refine awp_skip ?_
              try simp only [go_sem]
              repeat refine awp_seq ?_
              refine awp_reg (by kernel_rfl) fun K hK => ?_
              simp only [go_sem]
              (try simp (disch := omega) only [wrapI])
              repeat first | intro _ | refine ⟨(by omega), ?_⟩ | refine ⟨⟨by omega, by omega⟩, ?_⟩
              refine hK _ ?_
              clear hK K
              try simp only [go_sem]
              refine ⟨hjN, fitV_of [] ?_ ?_⟩
              · rw [← b1, ← b2, hj1]
                try simp only [go_sem]
              · try simp only [go_sem]
          · obtain ⟨b1, b2⟩ := bad (by omega)
            repeat first | intro _ | refine ⟨(by omega), ?_⟩ | refine ⟨⟨by omega, by omega⟩, ?_⟩
            refine hK _ ?_
            clear hK K
            refine awp_sub (sub_keep [1, 2, 4, 5, 6, 7, 8, 9, 10, 11, 12, 55]) ?_
            simp only [go_sem]
            repeat refine awp_seq ?_
            refine awp_cond rfl (fun hc => ?_) (fun hc => ?_) <;> (try simp only [go_sem] at hc)
            refine awp_skip ?_
            try simp only [go_sem]
            repeat refine awp_seq ?_
            refine awp_reg (by kernel_rfl) fun K hK => ?_
            simp only [go_sem]
            (try simp (disch := omega) only [wrapI])
            repeat first | intro _ | refine ⟨(by omega), ?_⟩ | refine ⟨⟨by omega, by omega⟩, ?_⟩
            refine hK _ ?_
            clear hK K
            try simp only [go_sem]
            refine ⟨hjN, fitV_of [] ?_ ?_⟩
            · rw [← b1, ← b2, hj1]
              try simp only [go_sem]
            · try simp only [go_sem]
        · have hjN : (j : Int) = x.hi - x.lo + 1 := by omega
          have f1 : (if M < x.lo + (j : Int) then M else -1) = max x.lo (d - q) := by rw [if_pos (by omega)]; omega
          have f2 : (if M < x.lo + (j : Int) then min (x.lo + (j : Int) - 1) (d - p) else -1) = min x.hi (d - p) := by rw [if_pos (by omega)]; omega
          rw [f1, f2]
          have htb : bedR (tightB d (loS l) (hiS l) x) = [i64 x.b, i64 (max x.lo (d - q)), i64 (min x.hi (d - p))] := by
            rw [← hp, ← hq]; rfl
          refine awp_exit ?_
          simp only [go_sem]
          repeat refine awp_seq ?_
          refine awp_reg (by kernel_rfl) fun K hK => ?_
          simp only [go_sem]
          (try simp (disch := omega) only [wrapI])
          repeat first | intro _ | refine ⟨(by omega), ?_⟩ | refine ⟨⟨by omega, by omega⟩, ?_⟩
          refine hK _ ?_
          clear hK K
          refine awp_sub (sub_keep [1, 2, 4, 5, 6, 7]) ?_
          simp only [go_sem]
          repeat refine awp_seq ?_
          refine awp_reg (by kernel_rfl) fun K hK => ?_
          simp only [go_sem, hlt]
          (try simp (disch := omega) only [wrapI])
          repeat first | intro _ | refine ⟨(by omega), ?_⟩ | refine ⟨⟨by omega, by omega⟩, ?_⟩
          refine hK _ ?_
          clear hK K
          refine awp_sub (sub_keep [1, 2, 4, 5, 6]) ?_
          simp only [go_sem]
          repeat refine awp_seq ?_
          refine awp_reg (by kernel_rfl) fun K hK => ?_
          simp only [go_sem]
          (try simp (disch := omega) only [wrapI])
          repeat first | intro _ | refine ⟨(by omega), ?_⟩ | refine ⟨⟨by omega, by omega⟩, ?_⟩
          refine hK _ ?_
          clear hK K
          try simp only [go_sem]
          refine ⟨hci, fitV_of [7] ?_ ?_⟩
          · try simp only [go_sem]
          · try simp only [go_sem]
            rw [htx]
            simp [htb]
    · -- else
      refine awp_exit ?_
      simp only [go_sem]
      repeat refine awp_seq ?_
      refine awp_reg (by kernel_rfl) fun K hK => ?_
      simp only [go_sem]
      (try simp (disch := omega) only [wrapI])
      repeat first | intro _ | refine ⟨(by omega), ?_⟩ | refine ⟨⟨by omega, by omega⟩, ?_⟩
      refine hK _ ?_
      clear hK K
      refine awp_sub (sub_keep [4]) ?_
      simp only [go_sem]
      refine awp_ret ?_
      simp only [go_sem]
      have h1 : i = l.length := by omega
      have h2 : (tightL d l).take i = tightL d l := List.take_of_length_le (by simp [tightL]; omega)
      subst h1
      rw [h2]
      simp [tightL, tightA]
      exact List.take_of_length_le (by simp)
end Go.Proofs.Ytgkejinoaommeaa

/- Own copies of aims, laws and visits. -/
namespace Go.Proofs.Ytgkejinoaommeaa
open Go Go.Oc
set_option linter.unusedSimpArgs false
set_option linter.unusedVariables false
set_option maxRecDepth 8000
theorem aim_ok (a : Am) (hl : a.beds.length ≤ 1000) : ACalls Try.prog 26 [aimV a] (aimV a) := by
  refine acalls_st (rs := [aimV a]) [.cell 2 36] Try.func26 rfl (by kernel_rfl) Try.ntmps26 rfl (by simp) rfl fun C vs => ?_
  repeat refine awp_seq ?_
  refine awp_reg (by kernel_rfl) fun K hK => ?_
  simp only [go_sem]
  (try simp (disch := omega) only [wrapI])
  repeat first | intro _ | refine ⟨(by omega), ?_⟩ | refine ⟨⟨by omega, by omega⟩, ?_⟩
  refine hK _ ?_
  clear hK K
  refine awp_sub (sub_frzP 1 1 [i64 a.at_, bedsR a.beds] (by omega) rfl rfl) ?_
  refine awp_sub (sub_keep [1, 2]) ?_
  simp only [go_sem]
  repeat refine awp_seq ?_
  refine awp_dreg2 [(1, none), (2, some 2)] follows (by decide +kernel) (by kernel_rfl) (by simp only [keysOk, List.mem_cons, List.not_mem_nil, forall_eq_or_imp, Oc.keyOf, go_sem]; simp) fun K hK => ?_
  simp only [go_sem]
  (try simp (disch := omega) only [wrapI])
  repeat first | intro _ | refine ⟨(by omega), ?_⟩ | refine ⟨⟨by omega, by omega⟩, ?_⟩
  refine hK _ ?_
  clear hK K
  refine awp_sub (sub_keep [2]) ?_
  simp only [go_sem]
  refine awp_ret ?_
  simp only [go_sem]
theorem own_ok (d : Int) (l : List Am) (hl : l.length ≤ 1000) (hb : ∀ a ∈ l, a.beds.length ≤ 1000) : ACalls Try.prog 15 [lawV d l] (lawV d l) := by
  refine acalls_st (rs := [lawV d l]) [.cell 2 24] Try.func15 rfl (by kernel_rfl) Try.ntmps15 rfl (by simp) rfl fun C vs => ?_
  repeat refine awp_seq ?_
  refine awp_reg (by kernel_rfl) fun K hK => ?_
  simp only [go_sem]
  (try simp (disch := omega) only [wrapI])
  repeat first | intro _ | refine ⟨(by omega), ?_⟩ | refine ⟨⟨by omega, by omega⟩, ?_⟩
  refine hK _ ?_
  clear hK K
  refine awp_sub (sub_frzP 1 1 [i64 d, aimsR l] (by omega) rfl rfl) ?_
  refine awp_sub (sub_keep [1, 2]) ?_
  simp only [go_sem]
  repeat refine awp_seq ?_
  refine awp_reg (by kernel_rfl) fun K hK => ?_
  simp only [go_sem]
  (try simp (disch := omega) only [wrapI])
  repeat first | intro _ | refine ⟨(by omega), ?_⟩ | refine ⟨⟨by omega, by omega⟩, ?_⟩
  refine hK _ ?_
  clear hK K
  refine awp_sub (sub_keep [1, 2, 3]) ?_
  simp only [go_sem]
  repeat refine awp_seq ?_
  refine awp_reg (by kernel_rfl) fun K hK => ?_
  simp only [go_sem]
  (try simp (disch := omega) only [wrapI])
  repeat first | intro _ | refine ⟨(by omega), ?_⟩ | refine ⟨⟨by omega, by omega⟩, ?_⟩
  refine hK _ ?_
  clear hK K
  refine awp_sub (sub_keep [1, 2, 3, 4]) ?_
  simp only [go_sem]
  repeat refine awp_seq ?_
  refine awp_block ?_
  refine awp_sub (sub_ownB 3 1 30 36 2 (by omega) (by omega) rfl rfl) ?_
  try simp only [go_sem]
  refine awp_uptoV (n := 27) l.length (fun i vs => [(1, .r (.rp [i64 d, aimsR l])), (2, .pt 2 (vs 2) 0), (3, .pt 3 (vs 3) 0), (4, .r (i64 i))])
    (fun i vs => [(2, .box [.r (i64 0), .r .ns]), (3, .box [.r (i64 d), .os 30 (vs 30) 2 0 i]), (30, .arr 36 2 ((l.take i).map aimR))]) (fun _ => True) 0 (fitV_of [] ?_ ?_) (Nat.zero_le _) trivial ?_
  · try simp only [go_sem]
  · try simp only [go_sem]
  · intro i vs hi _
    repeat refine awp_seq ?_
    refine awp_reg (by kernel_rfl) fun K hK => ?_
    simp only [go_sem]
    (try simp (disch := omega) only [wrapI])
    repeat first | intro _ | refine ⟨(by omega), ?_⟩ | refine ⟨⟨by omega, by omega⟩, ?_⟩
    refine hK _ ?_
    clear hK K
    refine awp_sub (sub_keep [1, 2, 3, 4, 12]) ?_
    simp only [go_sem]
    repeat refine awp_seq ?_
    refine awp_cond rfl (fun hc => ?_) (fun hc => ?_) <;> (try simp only [go_sem] at hc)
    · -- then
      have hci := hc
      obtain ⟨x, hx⟩ := opt_of_lt hc
      have hlt : (l.take i).length = i := by rw [List.length_take]; omega
      refine awp_skip ?_
      try simp only [go_sem]
      repeat refine awp_seq ?_
      refine awp_block ?_
      repeat refine awp_seq ?_
      refine awp_dreg3 [(1, none), (2, some 2), (3, some 3), (4, none)] [3] follows (by decide +kernel) (by kernel_rfl) (by simp only [keysOk, List.mem_cons, List.not_mem_nil, forall_eq_or_imp, Oc.keyOf, go_sem]; simp) (by intro k hk; simp only [List.mem_cons, List.not_mem_nil, or_false] at hk; first | (subst hk; exact ⟨_, rfl⟩) | (rcases hk with rfl | rfl <;> exact ⟨_, rfl⟩) | (rcases hk with rfl | rfl | rfl <;> exact ⟨_, rfl⟩)) fun K hK => ?_
      simp only [go_sem, hx, hci, aimR, hlt]
      (try simp (disch := omega) only [wrapI])
      refine xcall_eq (aim_ok x (hb x (mem_of_opt hx))) rfl (by simp only [go_sem, i64, ints, hlt, aimR]) (by simp only [go_sem, i64, ints, hlt, aimR]) (by first | exact .inl rfl | exact .inr rfl) ?_
      (try simp only [go_sem, hlt, aimR])
      (try simp (disch := omega) only [wrapI])
      repeat first | intro _ | refine ⟨(by omega), ?_⟩ | refine ⟨⟨by omega, by omega⟩, ?_⟩
      refine hK _ ?_
      clear hK K
      refine awp_sub (sub_keep [1, 2, 3, 4]) ?_
      simp only [go_sem]
      repeat refine awp_seq ?_
      refine awp_reg (by kernel_rfl) fun K hK => ?_
      simp only [go_sem]
      (try simp (disch := omega) only [wrapI])
      repeat first | intro _ | refine ⟨(by omega), ?_⟩ | refine ⟨⟨by omega, by omega⟩, ?_⟩
      refine hK _ ?_
      clear hK K
      try simp only [go_sem]
      refine ⟨hci, fitV_of [] ?_ ?_⟩
      · try simp only [go_sem]
      · try simp only [go_sem]
        rw [take_of_opt hx]
        simp [aimR]
    · -- else
      refine awp_exit ?_
      simp only [go_sem]
      repeat refine awp_seq ?_
      refine awp_reg (by kernel_rfl) fun K hK => ?_
      simp only [go_sem]
      (try simp (disch := omega) only [wrapI])
      repeat first | intro _ | refine ⟨(by omega), ?_⟩ | refine ⟨⟨by omega, by omega⟩, ?_⟩
      refine hK _ ?_
      clear hK K
      refine awp_sub (sub_keep [2]) ?_
      simp only [go_sem]
      refine awp_ret ?_
      simp only [go_sem]
      have : i = l.length := by omega
      subst this
      simp [List.take_of_length_le]
end Go.Proofs.Ytgkejinoaommeaa

/- Law ThrowTights: the law with the least spans is what the document says. -/
namespace Go.Proofs.Ytgkejinoaommeaa
open Go Go.Oc
set_option linter.unusedSimpArgs false
set_option linter.unusedVariables false
set_option maxRecDepth 8000
theorem great_le {l : List Am} (h : greatL l = false) : l.length ≤ 22 ∧ ∀ a ∈ l, a.beds.length ≤ 12 := by
  simp only [greatL, Bool.or_eq_false_iff, decide_eq_false_iff_not] at h
  refine ⟨by omega, fun a ha => ?_⟩
  have := List.any_eq_false.1 h.2 a ha
  simp at this
  omega
theorem tights_law (d : Int) (l : List Am) (hw : WfL d l) : ACalls Try.prog 3 [lawV d l] (.bo true) := by
  refine acalls_st (rs := [.bo true]) [.tmp 2] Try.func3 rfl (by kernel_rfl) Try.ntmps3 rfl (by simp) rfl fun C vs => ?_
  repeat refine awp_seq ?_
  refine awp_reg (by kernel_rfl) fun K hK => ?_
  simp only [go_sem]
  (try simp (disch := omega) only [wrapI])
  repeat first | intro _ | refine ⟨(by omega), ?_⟩ | refine ⟨⟨by omega, by omega⟩, ?_⟩
  refine hK _ ?_
  clear hK K
  refine awp_sub (sub_frzP 1 1 [i64 d, aimsR l] (by omega) rfl rfl) ?_
  refine awp_sub (sub_keep [1]) ?_
  simp only [go_sem]
  repeat refine awp_seq ?_
  refine awp_reg (by kernel_rfl) fun K hK => ?_
  simp only [go_sem]
  (try simp (disch := omega) only [wrapI])
  refine xcall_eq (great_ok d l) rfl (by simp only [go_sem, i64, ints]) (by simp only [go_sem, i64, ints]) (by first | exact .inl rfl | exact .inr rfl) ?_
  (try simp only [go_sem])
  (try simp (disch := omega) only [wrapI])
  cases hg : greatL l
  case true =>
    repeat first | intro _ | refine ⟨(by omega), ?_⟩ | refine ⟨⟨by omega, by omega⟩, ?_⟩
    refine hK _ ?_
    clear hK K
    refine awp_sub (sub_keep [1, 10]) ?_
    simp only [go_sem]
    repeat refine awp_seq ?_
    refine awp_cond rfl (fun hc => ?_) (fun hc => ?_) <;> (try simp only [go_sem] at hc)
    repeat refine awp_seq ?_
    refine awp_reg (by kernel_rfl) fun K hK => ?_
    simp only [go_sem]
    (try simp (disch := omega) only [wrapI])
    refine xcall_eq (known14_ok) rfl (by simp only [go_sem, i64, ints]) (by simp only [go_sem, i64, ints]) (by first | exact .inl rfl | exact .inr rfl) ?_
    (try simp only [go_sem])
    (try simp (disch := omega) only [wrapI])
    repeat first | intro _ | refine ⟨(by omega), ?_⟩ | refine ⟨⟨by omega, by omega⟩, ?_⟩
    refine hK _ ?_
    clear hK K
    refine awp_sub (sub_keep [2]) ?_
    simp only [go_sem]
    refine awp_ret ?_
    simp only [go_sem]
  obtain ⟨hl, hb⟩ := great_le hg
  repeat first | intro _ | refine ⟨(by omega), ?_⟩ | refine ⟨⟨by omega, by omega⟩, ?_⟩
  refine hK _ ?_
  clear hK K
  refine awp_sub (sub_keep [1, 10]) ?_
  simp only [go_sem]
  repeat refine awp_seq ?_
  refine awp_cond rfl (fun hc => ?_) (fun hc => ?_) <;> (try simp only [go_sem] at hc)
  refine awp_skip ?_
  try simp only [go_sem]
  repeat refine awp_seq ?_
  refine awp_reg (by kernel_rfl) fun K hK => ?_
  simp only [go_sem]
  (try simp (disch := omega) only [wrapI])
  refine xcall_eq (own_ok d l (by omega) (fun a ha => by have := hb a ha; omega)) rfl (by simp only [go_sem, i64, ints]) (by simp only [go_sem, i64, ints]) (by first | exact .inl rfl | exact .inr rfl) ?_
  (try simp only [go_sem])
  (try simp (disch := omega) only [wrapI])
  repeat first | intro _ | refine ⟨(by omega), ?_⟩ | refine ⟨⟨by omega, by omega⟩, ?_⟩
  refine hK _ ?_
  clear hK K
  refine awp_sub (sub_frzP 3 3 [i64 d, aimsR l] (by omega) rfl rfl) ?_
  refine awp_sub (sub_keep [1, 3]) ?_
  simp only [go_sem]
  have hT := Tight_ok d l hw
  by_cases h0 : checkV d l = 0
  · obtain ⟨c1, c2, c3, c4, c5⟩ := checkV_zero h0
    have hC := check_ok d l hw
    have hR := refCheck_ok d l hw
    rw [h0] at hT hC hR
    rw [if_pos rfl] at hT
    repeat refine awp_seq ?_
    refine awp_reg (by kernel_rfl) fun K hK => ?_
    simp only [go_sem]
    (try simp (disch := omega) only [wrapI])
    refine xcall_eq (hT) rfl (by simp only [go_sem, i64, ints]) (by simp only [go_sem, i64, ints]) (by first | exact .inl rfl | exact .inr rfl) ?_
    (try simp only [go_sem])
    (try simp (disch := omega) only [wrapI])
    repeat first | intro _ | refine ⟨(by omega), ?_⟩ | refine ⟨⟨by omega, by omega⟩, ?_⟩
    refine hK _ ?_
    clear hK K
    refine awp_sub (sub_frzP 4 4 [i64 d, aimsR (l.map (tightA d))] (by omega) rfl rfl) ?_
    refine awp_sub (sub_keep [1, 3, 4, 5]) ?_
    simp only [go_sem]
    repeat refine awp_seq ?_
    refine awp_reg (by kernel_rfl) fun K hK => ?_
    simp only [go_sem]
    (try simp (disch := omega) only [wrapI])
    refine xcall_eq (hR) rfl (by simp only [go_sem, i64, ints]) (by simp only [go_sem, i64, ints]) (by first | exact .inl rfl | exact .inr rfl) ?_
    (try simp only [go_sem])
    (try simp (disch := omega) only [wrapI])
    repeat first | intro _ | refine ⟨(by omega), ?_⟩ | refine ⟨⟨by omega, by omega⟩, ?_⟩
    refine hK _ ?_
    clear hK K
    refine awp_sub (sub_keep [1, 3, 4, 5, 6]) ?_
    simp only [go_sem]
    repeat refine awp_seq ?_
    refine awp_reg (by kernel_rfl) fun K hK => ?_
    simp only [go_sem, bne_self_eq_false]
    (try simp (disch := omega) only [wrapI])
    refine xcall_eq (equal_ok d d l l) rfl (by simp only [go_sem, i64, ints, bne_self_eq_false]) (by simp only [go_sem, i64, ints, bne_self_eq_false]) (by first | exact .inl rfl | exact .inr rfl) ?_
    (try simp only [go_sem, bne_self_eq_false])
    (try simp (disch := omega) only [wrapI])
    try simp only [go_sem]
    refine xcall_eq (hC) rfl (by simp only [go_sem, i64, ints, bne_self_eq_false]) (by simp only [go_sem, i64, ints, bne_self_eq_false]) (by first | exact .inl rfl | exact .inr rfl) ?_
    (try simp only [go_sem, bne_self_eq_false])
    (try simp (disch := omega) only [wrapI])
    repeat first | intro _ | refine ⟨(by omega), ?_⟩ | refine ⟨⟨by omega, by omega⟩, ?_⟩
    refine hK _ ?_
    clear hK K
    refine awp_sub (sub_keep [1, 4, 6, 35]) ?_
    simp only [go_sem]
    repeat refine awp_seq ?_
    refine awp_cond rfl (fun hc => ?_) (fun hc => ?_) <;> (try simp only [go_sem] at hc)
    refine awp_skip ?_
    try simp only [go_sem]
    repeat refine awp_seq ?_
    refine awp_reg (by kernel_rfl) fun K hK => ?_
    simp only [go_sem]
    (try simp (disch := omega) only [wrapI])
    repeat first | intro _ | refine ⟨(by omega), ?_⟩ | refine ⟨⟨by omega, by omega⟩, ?_⟩
    refine hK _ ?_
    clear hK K
    refine awp_sub (sub_keep [1, 4, 6, 7]) ?_
    simp only [go_sem]
    repeat refine awp_seq ?_
    refine awp_reg (by kernel_rfl) fun K hK => ?_
    simp only [go_sem]
    (try simp (disch := omega) only [wrapI])
    repeat first | intro _ | refine ⟨(by omega), ?_⟩ | refine ⟨⟨by omega, by omega⟩, ?_⟩
    refine hK _ ?_
    clear hK K
    refine awp_sub (sub_keep [1, 4, 7, 38]) ?_
    simp only [go_sem]
    repeat refine awp_seq ?_
    refine awp_cond rfl (fun hc => ?_) (fun hc => ?_) <;> (try simp only [go_sem] at hc)
    repeat refine awp_seq ?_
    refine awp_reg (by kernel_rfl) fun K hK => ?_
    simp only [go_sem]
    (try simp (disch := omega) only [wrapI])
    repeat first | intro _ | refine ⟨(by omega), ?_⟩ | refine ⟨⟨by omega, by omega⟩, ?_⟩
    refine hK _ ?_
    clear hK K
    refine awp_sub (sub_keep [1, 4, 7]) ?_
    simp only [go_sem]
    repeat refine awp_seq ?_
    refine awp_reg (by kernel_rfl) fun K hK => ?_
    simp only [go_sem]
    (try simp (disch := omega) only [wrapI])
    repeat first | intro _ | refine ⟨(by omega), ?_⟩ | refine ⟨⟨by omega, by omega⟩, ?_⟩
    refine hK _ ?_
    clear hK K
    refine awp_sub (sub_keep [1, 4, 7, 8]) ?_
    simp only [go_sem]
    repeat refine awp_seq ?_
    refine awp_block ?_
    refine awp_sub (sub_ownB 7 1 30 36 2 (by omega) (by omega) rfl rfl) ?_
    try simp only [go_sem]
    refine awp_uptoV (n := 68) l.length (fun i vs => [(1, .r (.rp [i64 d, aimsR l])), (4, .r (.rp [i64 d, aimsR (l.map (tightA d))])), (7, .pt 7 (vs 7) 0), (8, .r (i64 i))])
      (fun i vs => [(7, .box [.r (i64 d), .os 30 (vs 30) 2 0 i]), (30, .arr 36 2 (((l.map (tightA d)).take i).map aimR))]) (fun _ => True) 0 (fitV_of [] ?_ ?_) (Nat.zero_le _) trivial ?_
    · try simp only [go_sem]
    · try simp only [go_sem]
    · intro i vs hi _
      have hlt : ((l.map (tightA d)).take i).length = i := by rw [List.length_take]; simp; omega
      repeat refine awp_seq ?_
      refine awp_reg (by kernel_rfl) fun K hK => ?_
      simp only [go_sem]
      (try simp (disch := omega) only [wrapI])
      repeat first | intro _ | refine ⟨(by omega), ?_⟩ | refine ⟨⟨by omega, by omega⟩, ?_⟩
      refine hK _ ?_
      clear hK K
      refine awp_sub (sub_keep [1, 4, 7, 8, 46]) ?_
      simp only [go_sem]
      repeat refine awp_seq ?_
      refine awp_cond rfl (fun hc => ?_) (fun hc => ?_) <;> (try simp only [go_sem] at hc)
      · -- then
        have hci := hc
        obtain ⟨x, hx⟩ := opt_of_lt hc
        have htx : (l.map (tightA d)).take (i + 1) = (l.map (tightA d)).take i ++ [tightA d x] := take_of_opt (by simp [hx])
        refine awp_skip ?_
        try simp only [go_sem]
        repeat refine awp_seq ?_
        refine awp_block ?_
        repeat refine awp_seq ?_
        refine awp_dreg3 [(1, none), (7, some 7), (8, none)] [7] follows (by decide +kernel) (by kernel_rfl) (by simp only [keysOk, List.mem_cons, List.not_mem_nil, forall_eq_or_imp, Oc.keyOf, go_sem]; simp) (by intro k hk; simp only [List.mem_cons, List.not_mem_nil, or_false] at hk; first | (subst hk; exact ⟨_, rfl⟩) | (rcases hk with rfl | rfl <;> exact ⟨_, rfl⟩) | (rcases hk with rfl | rfl | rfl <;> exact ⟨_, rfl⟩)) fun K hK => ?_
        simp only [go_sem, hx, hci, aimR, hlt]
        (try simp (disch := omega) only [wrapI])
        refine xcall_eq (refTight_ok d x (c5 x (mem_of_opt hx)) (by have := c2 x (mem_of_opt hx); omega) (by omega)) rfl (by simp only [go_sem, i64, ints, hlt, aimR]) (by simp only [go_sem, i64, ints, hlt, aimR]) (by first | exact .inl rfl | exact .inr rfl) ?_
        (try simp only [go_sem, hlt, aimR])
        (try simp (disch := omega) only [wrapI])
        repeat first | intro _ | refine ⟨(by omega), ?_⟩ | refine ⟨⟨by omega, by omega⟩, ?_⟩
        refine hK _ ?_
        clear hK K
        refine awp_sub (sub_keep [1, 4, 7, 8]) ?_
        simp only [go_sem]
        repeat refine awp_seq ?_
        refine awp_reg (by kernel_rfl) fun K hK => ?_
        simp only [go_sem]
        (try simp (disch := omega) only [wrapI])
        repeat first | intro _ | refine ⟨(by omega), ?_⟩ | refine ⟨⟨by omega, by omega⟩, ?_⟩
        refine hK _ ?_
        clear hK K
        try simp only [go_sem]
        refine ⟨hci, fitV_of [] ?_ ?_⟩
        · try simp only [go_sem]
        · try simp only [go_sem]
          rw [htx]
          simp [aimR]
      · -- else
        refine awp_exit ?_
        simp only [go_sem]
        have h1 : i = l.length := by omega
        have h2 : (l.map (tightA d)).take i = l.map (tightA d) := List.take_of_length_le (by simp; omega)
        rw [h2] at hlt ⊢
        have hm2 : ((l.map (tightA d)).map aimR).take i = (l.map (tightA d)).map aimR := List.take_of_length_le (by simp; omega)
        repeat refine awp_seq ?_
        refine awp_reg (by kernel_rfl) fun K hK => ?_
        simp only [go_sem]
        (try simp (disch := omega) only [wrapI])
        refine xcall_eq (equal_ok d d (l.map (tightA d)) (l.map (tightA d))) rfl (by simp only [go_sem, i64, ints, hlt, hm2]) (by simp only [go_sem, i64, ints, hlt, hm2]) (by first | exact .inl rfl | exact .inr rfl) ?_
        (try simp only [go_sem, hlt, hm2])
        (try simp (disch := omega) only [wrapI])
        try simp only [go_sem]
        refine xcall_eq (known14_ok) rfl (by simp only [go_sem, i64, ints]) (by simp only [go_sem, i64, ints]) (by first | exact .inl rfl | exact .inr rfl) ?_
        (try simp only [go_sem])
        (try simp (disch := omega) only [wrapI])
        repeat first | intro _ | refine ⟨(by omega), ?_⟩ | refine ⟨⟨by omega, by omega⟩, ?_⟩
        refine hK _ ?_
        clear hK K
        refine awp_sub (sub_keep [2]) ?_
        simp only [go_sem]
        refine awp_ret ?_
        simp only [go_sem]
  · have hC := check_ok d l hw
    have hR := refCheck_ok d l hw
    rw [if_neg h0] at hT
    generalize checkV d l = c at hT hC hR h0
    have e0 : (c == 0) = false := by simpa using h0
    repeat refine awp_seq ?_
    refine awp_reg (by kernel_rfl) fun K hK => ?_
    simp only [go_sem]
    (try simp (disch := omega) only [wrapI])
    refine xcall_eq (hT) rfl (by simp only [go_sem, i64, ints]) (by simp only [go_sem, i64, ints]) (by first | exact .inl rfl | exact .inr rfl) ?_
    (try simp only [go_sem])
    (try simp (disch := omega) only [wrapI])
    repeat first | intro _ | refine ⟨(by omega), ?_⟩ | refine ⟨⟨by omega, by omega⟩, ?_⟩
    refine hK _ ?_
    clear hK K
    refine awp_sub (sub_frzP 4 4 [i64 0, .ns] (by omega) rfl rfl) ?_
    refine awp_sub (sub_keep [1, 3, 4, 5]) ?_
    simp only [go_sem]
    repeat refine awp_seq ?_
    refine awp_reg (by kernel_rfl) fun K hK => ?_
    simp only [go_sem]
    (try simp (disch := omega) only [wrapI])
    refine xcall_eq (hR) rfl (by simp only [go_sem, i64, ints]) (by simp only [go_sem, i64, ints]) (by first | exact .inl rfl | exact .inr rfl) ?_
    (try simp only [go_sem])
    (try simp (disch := omega) only [wrapI])
    repeat first | intro _ | refine ⟨(by omega), ?_⟩ | refine ⟨⟨by omega, by omega⟩, ?_⟩
    refine hK _ ?_
    clear hK K
    refine awp_sub (sub_keep [1, 3, 4, 5, 6]) ?_
    simp only [go_sem]
    repeat refine awp_seq ?_
    refine awp_reg (by kernel_rfl) fun K hK => ?_
    simp only [go_sem, bne_self_eq_false]
    (try simp (disch := omega) only [wrapI])
    refine xcall_eq (equal_ok d d l l) rfl (by simp only [go_sem, i64, ints, bne_self_eq_false]) (by simp only [go_sem, i64, ints, bne_self_eq_false]) (by first | exact .inl rfl | exact .inr rfl) ?_
    (try simp only [go_sem, bne_self_eq_false])
    (try simp (disch := omega) only [wrapI])
    try simp only [go_sem]
    refine xcall_eq (hC) rfl (by simp only [go_sem, i64, ints, bne_self_eq_false]) (by simp only [go_sem, i64, ints, bne_self_eq_false]) (by first | exact .inl rfl | exact .inr rfl) ?_
    (try simp only [go_sem, bne_self_eq_false])
    (try simp (disch := omega) only [wrapI])
    repeat first | intro _ | refine ⟨(by omega), ?_⟩ | refine ⟨⟨by omega, by omega⟩, ?_⟩
    refine hK _ ?_
    clear hK K
    refine awp_sub (sub_keep [1, 4, 6, 35]) ?_
    simp only [go_sem]
    repeat refine awp_seq ?_
    refine awp_cond rfl (fun hc => ?_) (fun hc => ?_) <;> (try simp only [go_sem] at hc)
    refine awp_skip ?_
    try simp only [go_sem]
    repeat refine awp_seq ?_
    refine awp_reg (by kernel_rfl) fun K hK => ?_
    simp only [go_sem]
    (try simp (disch := omega) only [wrapI])
    repeat first | intro _ | refine ⟨(by omega), ?_⟩ | refine ⟨⟨by omega, by omega⟩, ?_⟩
    refine hK _ ?_
    clear hK K
    refine awp_sub (sub_keep [1, 4, 6, 7]) ?_
    simp only [go_sem]
    repeat refine awp_seq ?_
    refine awp_reg (by kernel_rfl) fun K hK => ?_
    simp only [go_sem, e0]
    (try simp (disch := omega) only [wrapI])
    repeat first | intro _ | refine ⟨(by omega), ?_⟩ | refine ⟨⟨by omega, by omega⟩, ?_⟩
    refine hK _ ?_
    clear hK K
    refine awp_sub (sub_keep [1, 4, 7, 38]) ?_
    simp only [go_sem]
    repeat refine awp_seq ?_
    refine awp_cond rfl (fun hc => ?_) (fun hc => ?_) <;> (try simp only [go_sem] at hc)
    refine awp_skip ?_
    try simp only [go_sem]
    refine awp_sub (sub_frzP 7 7 [i64 0, .ns] (by omega) rfl rfl) ?_
    repeat refine awp_seq ?_
    refine awp_reg (by kernel_rfl) fun K hK => ?_
    simp only [go_sem]
    (try simp (disch := omega) only [wrapI])
    refine .inl (acall_of (equal_ok 0 0 [] []) rfl (by simp only [go_sem, i64, ints]) (by simp only [go_sem, i64, ints]; try simp) (by first | exact .inl rfl | exact .inr rfl) ?_)
    (try simp only [go_sem])
    (try simp (disch := omega) only [wrapI])
    try simp only [go_sem]
    refine xcall_eq (known14_ok) rfl (by simp only [go_sem, i64, ints]) (by simp only [go_sem, i64, ints]) (by first | exact .inl rfl | exact .inr rfl) ?_
    (try simp only [go_sem])
    (try simp (disch := omega) only [wrapI])
    repeat first | intro _ | refine ⟨(by omega), ?_⟩ | refine ⟨⟨by omega, by omega⟩, ?_⟩
    refine hK _ ?_
    clear hK K
    refine awp_sub (sub_keep [2]) ?_
    simp only [go_sem]
    refine awp_ret ?_
    simp only [go_sem]
end Go.Proofs.Ytgkejinoaommeaa
