/- Part 7 of the texts of this claim. -/
import Derived.Test.YtaniakoadbkadaaV76
import Derived.Test.YtaniakoadbkadaaV74
/- A call on given data, reckoned out: a program that walks, and what its answer means. -/
namespace Go.Oc
open Go Go.RowKit

/-! ### What an operation needs can be decided -/
instance {c : Prop} [h : Decidable c] {v : AV} : Decidable (Res.when c v).pre := h
instance {v : AV} : Decidable (Res.val v).pre := .isTrue trivial
instance : Decidable Res.bad.pre := .isFalse id
instance {c a : Prop} [h : Decidable c] {y : Yi} : Decidable (Res.mk c a y).pre := h
def nilB {α : Type} (l : List α) : Decidable (l = []) := match l with
  | [] => .isTrue rfl
  | _ :: _ => .isFalse (by simp)
instance {α : Type} {l : List α} : Decidable (l = []) := nilB l
def RowC.isDead : RowC → Bool
  | .dead => true
  | _ => false
theorem isDead_iff {c : RowC} : c = .dead ↔ c.isDead = true := by cases c <;> simp [RowC.isDead]
instance {c : RowC} : Decidable (c = .dead) := decidable_of_iff _ isDead_iff.symm
def decNews {s : AS} {y : AV} {c : Prop} {sz : Nat} {es : List (List RV)} (h : news? s y = some (c, sz, es)) : Decidable c := by
  unfold news? at h
  split at h
  · exact .isTrue (by injection h with h; injection h with h1 _; rw [← h1]; trivial)
  · exact .isTrue (by injection h with h; injection h with h1 _; rw [← h1]; trivial)
  · split at h
    · rename_i k n sz off m _ n' t sz' es' _
      exact decidable_of_iff (n = n' ∧ sz = sz' ∧ off + m ≤ es'.length) (by injection h with h; injection h with h1 _; rw [← h1])
    · cases h
  · cases h
def decLen {s : AS} {y : AV} {c : Prop} {m : Nat} (h : lenA s y = some (c, m)) : Decidable c := by
  unfold lenA at h
  split at h
  · exact .isTrue (by injection h with h; injection h with h1 _; rw [← h1]; trivial)
  · exact .isTrue (by injection h with h; injection h with h1 _; rw [← h1]; trivial)
  · rename_i k n sz off m
    exact decidable_of_iff (n = s.ver k) (by injection h with h; injection h with h1 _; rw [← h1])
  · cases h
section
variable {P : Program} {s : AS}
instance {c a b : AV} : Decidable (sPick c a b).pre := by delta sPick; split <;> infer_instance
instance {op : BinOp} {t : TypeId} {x y : AV} : Decidable (sEq P op t x y).pre := by delta sEq; split <;> (try split) <;> infer_instance
instance {op : BinOp} {t : TypeId} {x y : AV} : Decidable (sBin P op t x y).pre := by delta sBin; split <;> (try split) <;> infer_instance
instance {op : UnOp} {x : AV} : Decidable (sUn op x).pre := by delta sUn; split <;> infer_instance
instance {a b : TypeId} {x : AV} : Decidable (sConv P a b x).pre := by delta sConv; split <;> infer_instance
instance {t : TypeId} {a : AV} : Decidable (sLoad P s t a).pre := by delta sLoad; split <;> (try split) <;> infer_instance
instance {t : TypeId} {a x : AV} : Decidable (sStore P s t a x).pre := by delta sStore; split <;> (try split) <;> infer_instance
instance {d : Nat} {x : AV} : Decidable (sBox s d x).pre := by delta sBox; split <;> infer_instance
instance {d : Nat} {t : TypeId} : Decidable (sAlloc P s d t).pre := by delta sAlloc; split <;> infer_instance
instance {t : TypeId} {a : AV} {f : Nat} : Decidable (sField P s t a f).pre := by delta sField; split <;> (try split) <;> (try split) <;> infer_instance
instance {cs : AV} {o sz : Nat} {agg : Bool} {c : Prop} [Decidable c] : Decidable (sPart cs o sz agg c).pre := by delta sPart; split <;> infer_instance
instance {t : TypeId} {x : AV} {f : Nat} : Decidable (sFieldV P t x f).pre := by delta sFieldV; split <;> (try split) <;> infer_instance
instance {t : TypeId} {x i : AV} : Decidable (sIndexV P t x i).pre := by delta sIndexV; split <;> infer_instance
instance {t : TypeId} {x i : AV} : Decidable (sIndex P s t x i).pre := by delta sIndex; split <;> (try split) <;> infer_instance
instance {x mx : AV} {lo hi : Option AV} : Decidable (sSlice3 s x lo hi mx).pre := by
  delta sSlice3
  split
  · have := decLen ‹lenA _ _ = some (_, _)›
    infer_instance
  · infer_instance
instance {n esz : Nat} {x : AV} {lo hi mx : Option AV} : Decidable (sSliceA n esz x lo hi mx).pre := by delta sSliceA; split <;> infer_instance
instance {t : TypeId} {x : AV} {lo hi mx : Option AV} : Decidable (sSlice P s t x lo hi mx).pre := by delta sSlice; split <;> (try split) <;> (try split) <;> infer_instance
instance {t : TypeId} {ps : List (Nat × AV)} : Decidable (sBuild P s t ps).pre := by delta sBuild; split <;> (try split) <;> infer_instance
instance {t : TypeId} {n : Nat} {ps : List (Nat × AV)} : Decidable (sBuildSlice P s t n ps).pre := by delta sBuildSlice; split <;> (try split) <;> (try split) <;> infer_instance
instance {d : Nat} {t : TypeId} {l c : AV} : Decidable (sMakeSlice P s d t l c).pre := by delta sMakeSlice; split <;> infer_instance
instance {d : Nat} {t t' : TypeId} {x y : AV} : Decidable (sAppend P s d t t' x y).pre := by
  delta sAppend
  split
  · rename_i h
    have := decNews h
    infer_instance
  · rename_i h
    have := decNews h
    infer_instance
  · rename_i h
    have := decNews h
    split
    · infer_instance
    · split <;> infer_instance
    · infer_instance
  · infer_instance
instance {d : Nat} {t t' : TypeId} {x y : AV} : Decidable (sAppendZ P s d t t' x y).pre := by delta sAppendZ; split <;> infer_instance
instance {t : TypeId} {x : AV} : Decidable (sCap P t x).pre := by delta sCap; split <;> infer_instance
instance {t : TypeId} {x : AV} : Decidable (sClear P s t x).pre := by delta sClear; split <;> (try split) <;> infer_instance
instance {t : TypeId} {x : AV} : Decidable (sLen P s t x).pre := by delta sLen; split <;> (try split) <;> infer_instance
instance {r : Option RV} : Decidable (sMinMax r).pre := by delta sMinMax; split <;> infer_instance
instance {x : AV} {i : Nat} : Decidable (sExtract x i).pre := by delta sExtract; split <;> (try split) <;> infer_instance
instance {x : AV} : Decidable (sNil s x).pre := by delta sNil; split <;> infer_instance
instance {d : Nat} {t : TypeId} : Decidable (sMakeMap P s d t).pre := by delta sMakeMap; split <;> infer_instance
instance {t : TypeId} {x key : AV} {ok : Bool} : Decidable (sLookup P s t x key ok).pre := by delta sLookup; split <;> (try split) <;> (try split) <;> infer_instance
instance {t : TypeId} {x key : AV} : Decidable (sMapEntry P s t x key).pre := by delta sMapEntry; split <;> (try split) <;> (try split) <;> infer_instance
instance {x st v : AV} : Decidable (sEntryStore s x st v).pre := by delta sEntryStore; split <;> (try split) <;> (try split) <;> infer_instance
instance {t : TypeId} {x key v : AV} : Decidable (sMapUpdate P s t x key v).pre := by delta sMapUpdate; split <;> (try split) <;> (try split) <;> infer_instance
instance {d : Nat} {t : TypeId} {x : AV} : Decidable (sRange P s d t x).pre := by delta sRange; split <;> (try split) <;> infer_instance
instance {x : AV} : Decidable (sEntry s x).pre := by delta sEntry; split <;> (try split) <;> infer_instance
instance {d : Nat} {b : Builtin} {ts : List TypeId} {xs : List AV} : Decidable (sBuiltin P s d b ts xs).pre := by delta sBuiltin; split <;> (try split) <;> infer_instance
instance decStep {o : Oper} : Decidable (step P o s).pre := by delta step; split <;> (try split) <;> infer_instance
end

/-! ### States in lists -/
def nth : List AV → Nat → AV
  | [], _ => .r .un
  | x :: _, 0 => x
  | _ :: l, t + 1 => nth l t
def setAt : List AV → Nat → AV → List AV
  | [], 0, v => [v]
  | [], d + 1, v => .r .un :: setAt [] d v
  | _ :: l, 0, v => v :: l
  | x :: l, d + 1, v => x :: setAt l d v
theorem nth_setAt : ∀ (l : List AV) (d : Nat) (v : AV) (t : Nat), nth (setAt l d v) t = if t = d then v else nth l t
  | [], 0, v, 0 => by simp [setAt, nth]
  | [], 0, v, t + 1 => by simp [setAt, nth]
  | [], d + 1, v, 0 => by simp [setAt, nth]
  | [], d + 1, v, t + 1 => by simp only [setAt, nth, nth_setAt [] d v t, Nat.add_right_cancel_iff]
  | x :: l, 0, v, 0 => by simp [setAt, nth]
  | x :: l, 0, v, t + 1 => by simp [setAt, nth]
  | x :: l, d + 1, v, 0 => by simp [setAt, nth]
  | x :: l, d + 1, v, t + 1 => by simp only [setAt, nth, nth_setAt l d v t, Nat.add_right_cancel_iff]
def rowAt : List (Nat × Row) → Nat → Row
  | [], _ => ⟨0, .dead⟩
  | (j, r) :: l, k => if k = j then r else rowAt l k
def setRow : List (Nat × Row) → Nat → Row → List (Nat × Row)
  | [], k, r => [(k, r)]
  | (j, q) :: l, k, r => if k = j then (j, r) :: l else (j, q) :: setRow l k r
theorem rowAt_setRow : ∀ (l : List (Nat × Row)) (k : Nat) (r : Row) (j : Nat), rowAt (setRow l k r) j = if j = k then r else rowAt l j
  | [], k, r, j => rfl
  | (i, q) :: l, k, r, j => by
    unfold setRow
    split
    · rename_i e; subst e
      simp only [rowAt]
      split <;> rfl
    · rename_i e
      simp only [rowAt, rowAt_setRow l k r j]
      by_cases e1 : j = i
      · have : ¬ j = k := by omega
        simp [e1]; omega
      · simp [e1]
structure CS where
  n : Nat
  tm : List AV
  rows : List (Nat × Row)
def CS.as (s : CS) : AS := ⟨s.n, nth s.tm, rowAt s.rows⟩
def CS.put (s : CS) (d : Option Nat) (v : AV) : CS := match d with | some d => ⟨s.n, setAt s.tm d v, s.rows⟩ | none => s
def CS.row (s : CS) (k : Nat) (r : Row) : CS := ⟨s.n, s.tm, setRow s.rows k r⟩
def CS.effs (s : CS) : List (Nat × Row) → CS
  | [] => s
  | (k, r) :: l => (s.row k r).effs l
def CS.app (s : CS) (d : Option Nat) (y : Yi) : CS := (s.effs y.eff).put d y.av
theorem as_put (s : CS) (d : Option Nat) (v : AV) : (s.put d v).as = s.as.put d v := by
  cases d with
  | none => rfl
  | some d =>
    simp only [CS.put, CS.as, AS.put, AS.mk.injEq, true_and, and_true]
    funext t
    rw [nth_setAt]; rfl
theorem as_row (s : CS) (k : Nat) (r : Row) : (s.row k r).as = s.as.row k r := by
  simp only [CS.row, CS.as, AS.row, AS.mk.injEq, true_and]
  funext j
  rw [rowAt_setRow]; rfl
theorem as_effs : ∀ (l : List (Nat × Row)) (s : CS), (s.effs l).as = { s.as with rows := l.foldl (fun f p => upd f p.1 p.2) s.as.rows }
  | [], s => rfl
  | (k, r) :: l, s => by
    simp only [CS.effs, as_effs l, as_row, List.foldl_cons]
    rfl
theorem as_app (s : CS) (d : Option Nat) (y : Yi) : (s.app d y).as = s.as.app d y := by
  unfold CS.app AS.app
  rw [as_put, as_effs]
  rfl
theorem put_num (s : CS) (d : Option Nat) (v : AV) : (s.put d v).n = s.n := by cases d <;> rfl
theorem effs_num : ∀ (l : List (Nat × Row)) (s : CS), (s.effs l).n = s.n
  | [], s => rfl
  | (k, r) :: l, s => by simp only [CS.effs, effs_num l]; rfl
theorem app_num (s : CS) (d : Option Nat) (y : Yi) : (s.app d y).n = s.n := by simp only [CS.app, put_num, effs_num]

/-! ### Operations -/
def bindL {α β : Type} (x : Option (List α)) (f : α → Option (List β)) : Option (List β) :=
  match x with
  | none => none
  | some l => go l
  where go : List α → Option (List β)
  | [] => some []
  | a :: l => match f a with
    | none => none
    | some ys => match go l with
      | none => none
      | some zs => some (ys ++ zs)
theorem bindL_go {α β : Type} {f : α → Option (List β)} : ∀ {l : List α} {zs : List β}, bindL.go f l = some zs → ∀ a ∈ l, ∃ ys, f a = some ys ∧ ∀ y ∈ ys, y ∈ zs
  | [], _, _, a, ha => by simp at ha
  | b :: l, zs, h, a, ha => by
    unfold bindL.go at h
    split at h
    · cases h
    · rename_i ys hys
      split at h
      · cases h
      · rename_i ws hws
        injection h with h; subst h
        rcases List.mem_cons.1 ha with rfl | ha
        · exact ⟨ys, hys, fun y hy => by simp [hy]⟩
        · obtain ⟨y2, h1, h2⟩ := bindL_go hws a ha
          exact ⟨y2, h1, fun y hy => by simp [h2 y hy]⟩
theorem bindL_spec {α β : Type} {x : Option (List α)} {f : α → Option (List β)} {zs : List β} (h : bindL x f = some zs) : ∃ l, x = some l ∧ ∀ a ∈ l, ∃ ys, f a = some ys ∧ ∀ y ∈ ys, y ∈ zs := by
  unfold bindL at h
  split at h
  · cases h
  · exact ⟨_, rfl, bindL_go h⟩

/-- What a call comes to: the state behind it. -/
abbrev Caller := Bool → CS → Option Nat → AV → List AV → Option CS
def Caller.ok (P : Program) (call : Caller) : Prop :=
  ∀ D s d f xs t, call D s d f xs = some t → t.n = s.n ∧ ∀ K : AS → Prop, K t.as → acall P s.as f xs (fun r => K (s.as.put d (.r r))) ∨ (D = false ∧ (mcall P s.as d f xs K ∨ ocall P s.as d f xs K))
def each {α : Type} (f : Nat → α → CS) : List α → Nat → List CS
  | [], _ => []
  | e :: l, i => f i e :: each f l (i + 1)
theorem each_mem {α : Type} {f : Nat → α → CS} : ∀ {l : List α} {i j : Nat} {e : α}, l[j]? = some e → f (i + j) e ∈ each f l i
  | [], _, _, _, h => by simp at h
  | x :: l, i, 0, e, h => by simp at h; subst h; simp [each]
  | x :: l, i, j + 1, e, h => by
    simp at h
    have := each_mem (f := f) (i := i + 1) h
    rw [show i + 1 + j = i + (j + 1) from by omega] at this
    simp [each, this]
theorem each_num {α : Type} {f : Nat → α → CS} {n : Nat} (h : ∀ i e, (f i e).n = n) : ∀ {l : List α} {i : Nat}, ∀ t ∈ each f l i, t.n = n
  | [], _, t, ht => by simp [each] at ht
  | x :: l, i, t, ht => by
    simp only [each, List.mem_cons] at ht
    rcases ht with rfl | ht
    · exact h _ _
    · exact each_num h t ht
def nextC (s : CS) (d : Option Nat) (x : AV) : Option (List CS) :=
  match x with
  | .mi k n =>
    match rowAt s.rows k with
    | ⟨n', .mi km nm left _⟩ =>
      if n = n' ∧ nm = (rowAt s.rows km).ver ∧ k ≠ km then
        match left with
        | [] => some [s.put d (.r (.tu [.bo false]))]
        | e :: l => some (each (fun i e' => CS.put (s.row k ⟨n', .mi km nm ((e :: l).eraseIdx i) (some e')⟩) d (.r (.tu [.bo true, e'.1, e'.2]))) (e :: l) 0)
      else none
    | _ => none
  | _ => none
theorem nextC_ok {s : CS} {d : Option Nat} {x : AV} {L : List CS} (h : nextC s d x = some L) {K : AS → Prop} (hK : ∀ t ∈ L, K t.as) : sNext s.as d x K ∧ ∀ t ∈ L, t.n = s.n := by
  unfold nextC at h
  split at h
  · rename_i k n
    split at h
    · rename_i n' km nm left cur hr
      split at h
      · rename_i hc
        have hr' : s.as.rows k = ⟨n', .mi km nm left cur⟩ := hr
        unfold sNext
        simp only [hr']
        split at h
        · injection h with h; subst h
          refine ⟨⟨hc.1, hc.2.1, hc.2.2, fun _ => ?_, fun i e he => by simp at he⟩, fun t ht => ?_⟩
          · rw [← as_put]; exact hK _ (by simp)
          · simp only [List.mem_singleton] at ht; rw [ht, put_num]
        · rename_i e l
          injection h with h; subst h
          refine ⟨⟨hc.1, hc.2.1, hc.2.2, fun h => by simp at h, fun i e' he => ?_⟩, fun t ht => ?_⟩
          · rw [← as_row, ← as_put]
            have := each_mem (f := fun i e' => CS.put (s.row k ⟨n', .mi km nm ((e :: l).eraseIdx i) (some e')⟩) d (.r (.tu [.bo true, e'.1, e'.2]))) (i := 0) he
            rw [Nat.zero_add] at this
            exact hK _ this
          · exact each_num (fun i e => by rw [put_num]; rfl) t ht
      · cases h
    · cases h
  · cases h
def opC (P : Program) (call : Caller) (D : Bool) (o : Oper) (s : CS) : Option (List CS) :=
  match o.op with
  | .call ⟨.value f, args, _⟩ =>
    match call D s o.dst (s.as.ev f) (args.toList.map s.as.ev) with
    | some t => some [t]
    | none => none
  | .next x false => if D then none else nextC s o.dst (s.as.ev x)
  | _ =>
    if (step P o s.as).pre then
      if D && cls o == 2 && !((rowAt s.rows (o.dst.getD 0)).c.isDead && o.dst.isSome) then none
      else some [s.app o.dst (step P o s.as).y]
    else none
theorem opC_ok {P : Program} {call : Caller} (hcall : call.ok P) {D : Bool} {o : Oper} {s : CS} {L : List CS} (h : opC P call D o s = some L) {K : AS → Prop} (hK : ∀ t ∈ L, K t.as) : xop P D o K s.as ∧ ∀ t ∈ L, t.n = s.n := by
  unfold opC at h
  split at h
  · rename_i f args ts ho
    split at h
    · rename_i t ht
      injection h with h; subst h
      obtain ⟨hn, hc⟩ := hcall _ _ _ _ _ _ ht
      have hc := hc K (hK t (by simp))
      refine ⟨?_, fun t' ht' => by simp only [List.mem_singleton] at ht'; rw [ht']; exact hn⟩
      unfold xop
      split
      · rename_i hD
        unfold aop
        rw [ho]
        rcases hc with hc | ⟨hc, _⟩
        · exact .inl hc
        · rw [hD] at hc; cases hc
      · rw [ho]
        rcases hc with hc | ⟨_, hc⟩
        · exact .inl hc
        · exact .inr (hc.imp id .inl)
    · cases h
  · rename_i x ho
    split at h
    · cases h
    · rename_i hD
      have := nextC_ok h hK
      refine ⟨?_, this.2⟩
      unfold xop
      rw [if_neg hD, ho]
      exact this.1
  · rename_i h1 h2
    split at h
    · rename_i hp
      split at h
      · cases h
      · rename_i hdead
        injection h with h; subst h
        refine ⟨?_, fun t ht => by simp only [List.mem_singleton] at ht; rw [ht, app_num]⟩
        have key : ∀ D', (D' = true → D = true) → aop P D' o K s.as := fun D' hD' => by
          unfold aop
          split
          · rename_i f args ts ho; exact (h1 f args ts ho).elim
          · rename_i x ho; exact (h2 x ho).elim
          · refine ⟨hp, fun hD hc => ?_, fun _ => ?_⟩
            · have hD := hD' hD
              cases e : ((rowAt s.rows (o.dst.getD 0)).c.isDead && o.dst.isSome) with
              | false => exact (hdead (by simp only [hD, hc, e]; rfl)).elim
              | true =>
                simp only [Bool.and_eq_true] at e
                exact ⟨isDead_iff.2 e.1, e.2⟩
            · rw [← as_app]; exact hK _ (by simp)
        unfold xop
        split
        · rename_i hD; exact key true fun _ => hD
        · split
          · rename_i f args ts ho; exact (h1 f args ts ho).elim
          · rename_i x ho; exact (h2 x ho).elim
          · exact key false fun h => by cases h
    · cases h

def runOps (P : Program) (call : Caller) (D : Bool) (ops : Array Oper) : List Oper → CS → Option (List CS)
  | [], s => some [s]
  | o :: rest, s =>
    match o.guard with
    | none => bindL (opC P call D o s) (runOps P call D ops rest)
    | some (g, want) =>
      match ((ops[g]?).bind (·.dst) : Option Nat) with
      | none => runOps P call D ops rest (s.put o.dst (.r .ud))
      | some t =>
        match nth s.tm t with
        | .r (.bo b) => if b == want then bindL (opC P call D o s) (runOps P call D ops rest) else runOps P call D ops rest (s.put o.dst (.r .ud))
        | .r .ud => runOps P call D ops rest (s.put o.dst (.r .ud))
        | _ => none
theorem runOps_ok {P : Program} {call : Caller} (hcall : call.ok P) {D : Bool} {ops : Array Oper} {K : AS → Prop} : ∀ (l : List Oper) {s : CS} {L : List CS}, runOps P call D ops l s = some L → (∀ t ∈ L, t.n = s.n → K t.as) → aops P D ops l K s.as
  | [], s, L, h, hK => by
    unfold runOps at h
    injection h with h; subst h
    exact hK s (by simp) rfl
  | o :: l, s, L, h, hK => by
    have go : ∀ {s1 : CS}, s1.n = s.n → bindL (opC P call D o s1) (runOps P call D ops l) = some L → xop P D o (aops P D ops l K) s1.as := fun hn h => by
      obtain ⟨l1, h1, h2⟩ := bindL_spec h
      have hnum := (opC_ok hcall h1 (K := fun _ => True) fun _ _ => trivial).2
      refine (opC_ok hcall h1 fun t ht => ?_).1
      obtain ⟨ys, hys, hsub⟩ := h2 t ht
      exact runOps_ok hcall l hys fun t' ht' hn' => hK t' (hsub t' ht') (by rw [hn', hnum t ht, hn])
    have sk : runOps P call D ops l (s.put o.dst (.r .ud)) = some L → aops P D ops l K (s.as.put o.dst (.r .ud)) := fun h => by
      rw [← as_put]
      exact runOps_ok hcall l h fun t ht hn => hK t ht (by rw [hn, put_num])
    unfold runOps at h
    unfold aops
    split at h
    · rename_i hg
      rw [hg]
      exact go rfl h
    · rename_i g want hg
      rw [hg]
      dsimp only
      split at h
      · rename_i ht; rw [ht]; exact sk h
      · rename_i t ht
        rw [ht]
        dsimp only
        split at h
        · rename_i b hb
          have hb' : s.as.tm t = .r (.bo b) := hb
          rw [hb']
          dsimp only
          split at h
          · rename_i e
            have e : b = want := by simpa using e
            subst e
            refine ⟨fun _ => ?_, fun e => (by cases b <;> cases e)⟩
            rw [put_self hb']
            exact go rfl h
          · rename_i e
            have e : b = !want := by cases b <;> cases want <;> simp_all
            subst e
            refine ⟨fun e => (by cases want <;> cases e), fun _ => ?_⟩
            rw [put_self hb']
            exact sk h
        · rename_i hb
          have hb' : s.as.tm t = .r .ud := hb
          rw [hb']
          exact sk h
        · cases h

/-! ### Code -/
def codeOk (n : Nat) : Code → Bool
  | .region _ ops _ => dstOk ops n
  | .seq a b => codeOk n a && codeOk n b
  | .cond _ a b => codeOk n a && codeOk n b
  | .block _ c => codeOk n c
  | .loop c => codeOk n c
  | _ => true
/-- The functions that may be called, and how: 1 = for a slice of its own, 2 = it is lent rows, else it only reads. -/
structure Modes where
  fs : List (FuncId × Nat)
def modeOf : List (FuncId × Nat) → FuncId → Option Nat
  | [], _ => none
  | (g, m) :: l, f => if f = g then some m else modeOf l f
def fnOk (P : Program) (f : FuncId) : Bool :=
  match P.funcs[f]? with
  | some fn => match fn.body with
    | some c => codeOk fn.ntmps c && callable P f
    | none => false
  | none => false
def allOk (P : Program) : List (FuncId × Nat) → Bool
  | [] => true
  | (f, _) :: l => fnOk P f && allOk P l
theorem allOk_get {P : Program} : ∀ {l : List (FuncId × Nat)} {f : FuncId} {m : Nat}, allOk P l = true → modeOf l f = some m → fnOk P f = true
  | [], _, _, _, h => by simp [modeOf] at h
  | (g, k) :: l, f, m, ha, h => by
    simp only [allOk, Bool.and_eq_true] at ha
    unfold modeOf at h
    split at h
    · rename_i e; subst e; exact ha.1
    · exact allOk_get ha.2 h
mutual
def snapB (rows : Nat → Row) : AV → Bool
  | .r _ => true
  | .os k n sz off m => n == (rows k).ver && match (rows k).c with | .arr _ sz' es => sz == sz' && decide (off + m ≤ es.length) | _ => false
  | .pt k n off => n == (rows k).ver && match (rows k).c with | .box cs => snap1B rows (cs.drop off) | _ => false
  | .pe k n sz idx _ => n == (rows k).ver && match (rows k).c with | .arr _ sz' es => sz == sz' && decide (idx < es.length) | _ => false
  | .fn _ cs => snapBL rows cs
  | .ag cs => snapBL rows cs
  | .tu cs => snapBL rows cs
  | .mp _ _ => false
  | .mi _ _ => false
def snapBL (rows : Nat → Row) : List AV → Bool
  | [] => true
  | x :: xs => snapB rows x && snapBL rows xs
def snap1B (rows : Nat → Row) : List AV → Bool
  | [] => true
  | .os k n sz off m :: xs => (n == (rows k).ver && match (rows k).c with | .arr _ sz' es => sz == sz' && decide (off + m ≤ es.length) | _ => false) && snap1B rows xs
  | _ :: xs => snap1B rows xs
end
end Go.Oc

/- A call on given data, reckoned out (second part): code, calls, and what the answer means. -/
namespace Go.Oc
open Go Go.RowKit

section
variable {rows : Nat → Row}
theorem osB {k n sz off m : Nat} (h : (n == (rows k).ver && match (rows k).c with | .arr _ sz' es => sz == sz' && decide (off + m ≤ es.length) | _ => false) = true) :
    n = (rows k).ver ∧ match (rows k).c with | .arr _ sz' es => sz = sz' ∧ off + m ≤ es.length | .arc _ sz' es _ => sz = sz' ∧ off + m ≤ es.length | _ => False := by
  simp only [Bool.and_eq_true, beq_iff_eq] at h
  refine ⟨h.1, ?_⟩
  have h := h.2
  split at h
  · rename_i e; simp only [e]; simpa using h
  · cases h
theorem snap1B_ok : ∀ (xs : List AV), snap1B rows xs = true → snap1PL rows xs
  | [], _ => trivial
  | x :: xs, h => by
    cases x with
    | os k n sz off m =>
      simp only [snap1B, Bool.and_eq_true (_ && _)] at h
      exact ⟨osB h.1, snap1B_ok xs h.2⟩
    | _ => simp only [snap1B] at h; exact ⟨trivial, snap1B_ok xs h⟩
mutual
theorem snapB_ok : ∀ (x : AV), snapB rows x = true → snapP rows x
  | .r _, _ => by simp only [snapP]
  | .os k n sz off m, h => by simp only [snapB] at h; simp only [snapP]; exact osB h
  | .pt k n off, h => by
    simp only [snapB, Bool.and_eq_true, beq_iff_eq] at h
    simp only [snapP]
    refine ⟨h.1, ?_⟩
    have h := h.2
    generalize (rows k).c = c at h ⊢
    cases c <;> first | exact snap1B_ok _ h | cases h
  | .pe k n sz idx _, h => by
    simp only [snapB, Bool.and_eq_true, beq_iff_eq] at h
    simp only [snapP]
    refine ⟨h.1, ?_⟩
    have h := h.2
    generalize (rows k).c = c at h ⊢
    cases c <;> first | (simp only [Bool.and_eq_true, beq_iff_eq, decide_eq_true_eq] at h; exact h) | cases h
  | .fn _ cs, h => by simp only [snapB] at h; simp only [snapP]; exact snapBL_ok cs h
  | .ag cs, h => by simp only [snapB] at h; simp only [snapP]; exact snapBL_ok cs h
  | .tu cs, h => by simp only [snapB] at h; simp only [snapP]; exact snapBL_ok cs h
  | .mp _ _, h => by simp [snapB] at h
  | .mi _ _, h => by simp [snapB] at h
theorem snapBL_ok : ∀ (xs : List AV), snapBL rows xs = true → snapPL rows xs
  | [], _ => trivial
  | x :: xs, h => by
    simp only [snapBL, Bool.and_eq_true] at h
    exact ⟨snapB_ok x h.1, snapBL_ok xs h.2⟩
end
end

/-! ### Results -/
instance {P : Program} {s : AS} {v : ResultVar} : Decidable (resA P s v).pre := match v with
  | .tmp _ => .isTrue trivial
  | .cell a t => inferInstanceAs (Decidable (sLoad P s t (s.tm a)).pre)
def resList (P : Program) (s : AS) : List ResultVar → Option (List RV)
  | [] => some []
  | v :: vs =>
    if (resA P s v).pre then
      if snapB s.rows (resA P s v).y.av then
        match resList P s vs with
        | some rs => some (snapV s.rows (resA P s v).y.av :: rs)
        | none => none
      else none
    else none
theorem resList_ok {P : Program} {s : AS} : ∀ {vs : List ResultVar} {rs : List RV}, resList P s vs = some rs → resOk P s vs rs
  | [], rs, h => by injection h with h; exact h.symm
  | v :: vs, rs, h => by
    unfold resList at h
    split at h
    · rename_i hp
      split at h
      · rename_i hs
        split at h
        · rename_i rs' hr
          injection h with h; subst h
          exact ⟨hp, snapB_ok _ hs, _, rs', rfl, leL_refl.le_refl _, resList_ok hr⟩
        · cases h
      · cases h
    · cases h
abbrev Outs := List (Exit × CS)
def endRs (P : Program) (res : List ResultVar) (x : Exit × CS) : Option (List RV) :=
  match x.1 with
  | .normal => resList P x.2.as res
  | .ret => resList P x.2.as res
  | _ => none
theorem endRs_ok {P : Program} {res : List ResultVar} {x : Exit × CS} {rs : List RV} (h : endRs P res x = some rs) : fpostL P res rs x.1 x.2.as := by
  obtain ⟨e, t⟩ := x
  unfold endRs at h
  cases e <;> first | exact resList_ok h | cases h
def sameRs : List RV → List RV → Bool
  | [], [] => true
  | .bo a :: l, .bo b :: l' => (a == b) && sameRs l l'
  | .it .i64 a :: l, .it .i64 b :: l' => (a == b) && sameRs l l'
  | _, _ => false
theorem sameRs_ok : ∀ {l l' : List RV}, sameRs l l' = true → l = l' := fun {l l'} h => by
  fun_induction sameRs l l' with
  | case1 => rfl
  | case2 a l b l' ih => simp only [Bool.and_eq_true, beq_iff_eq] at h; rw [h.1, ih h.2]
  | case3 a l b l' ih => simp only [Bool.and_eq_true, beq_iff_eq] at h; rw [h.1, ih h.2]
  | case4 => cases h
def agree (P : Program) (res : List ResultVar) : Outs → Option (List RV)
  | [] => none
  | [x] => endRs P res x
  | x :: l => match endRs P res x, agree P res l with
    | some r, some r' => if sameRs r r' then some r else none
    | _, _ => none
theorem agree_ok {P : Program} {res : List ResultVar} : ∀ {L : Outs} {rs : List RV}, agree P res L = some rs → ∀ x ∈ L, fpostL P res rs x.1 x.2.as
  | [], _, h => by simp [agree] at h
  | [x], rs, h => fun y hy => by
    simp only [List.mem_singleton] at hy
    subst hy
    exact endRs_ok (by simpa only [agree] using h)
  | x :: y :: l, rs, h => fun z hz => by
    simp only [agree] at h
    split at h
    · rename_i r r' h1 h2
      split at h
      · rename_i e
        injection h with h; subst h
        have e := sameRs_ok e
        subst e
        rcases List.mem_cons.1 hz with rfl | hz
        · exact endRs_ok h1
        · exact agree_ok (L := y :: l) h2 z hz
      · cases h
    · cases h

/-! ### Calls -/
def isEnd : Exit → Bool
  | .normal => true
  | .ret => true
  | _ => false
def callA (P : Program) (ex : Code → CS → Option Outs) (fn : Func) (c : Code) (args : List RV) : Option RV :=
  if args.length ≤ fn.ntmps then
    match ex c ⟨fn.ntmps, args.map .r, []⟩ with
    | some L => match agree P fn.results.toList L with
      | some rs => some (resV rs)
      | none => none
    | none => none
  else none
def callO (P : Program) (ex : Code → CS → Option Outs) (fn : Func) (c : Code) (args : List RV) : Option (Nat × Nat × List (List RV) × Nat) :=
  if args.length ≤ fn.ntmps then
    match fn.results.toList, ex c ⟨fn.ntmps, args.map .r, []⟩ with
    | [rv], some [(e, t)] =>
      if isEnd e then
      if (resA P t.as rv).pre then
        match (resA P t.as rv).y.av with
        | .os j n sz off m =>
          match rowAt t.rows j with
          | ⟨n', .arr ty sz' es⟩ => if n == n' && sz == sz' && off == 0 && es.all RV.flatL then some (ty, sz, es, m) else none
          | _ => none
        | _ => none
      else none
      else none
    | _, _ => none
  else none
/- The rows that a call is lent. -/
mutual
def keysA : AV → List Nat
  | .pt k _ _ => [k]
  | .pe k _ _ _ _ => [k]
  | .os k _ _ _ _ => [k]
  | .mp k _ => [k]
  | .fn _ cs => keysL cs
  | .ag cs => keysL cs
  | .tu cs => keysL cs
  | _ => []
def keysL : List AV → List Nat
  | [] => []
  | x :: xs => keysA x ++ keysL xs
end
def keysB (rows : Nat → Row) : List Nat → List Nat
  | [] => []
  | k :: ks => k :: ((match (rows k).c with | .box cs => keysL cs | _ => []) ++ keysB rows ks)
def mkRho : List Nat → Nat → List (Nat × Nat)
  | [], _ => []
  | k :: ks, i => if (k :: ks).length > 1 && ks.contains k then mkRho ks i else (i, k) :: mkRho ks (i + 1)
def lendRows (ρ : List (Nat × Nat)) (s : AS) : List (Nat × Nat) → Option (List (Nat × RowC))
  | [] => some []
  | (pk, ck) :: l => match lendC ρ s.ver (s.rows ck).c, lendRows ρ s l with
    | some c, some L => some ((pk, c) :: L)
    | _, _ => none
theorem lendRows_ok {ρ : List (Nat × Nat)} {s : AS} : ∀ {l : List (Nat × Nat)} {L : List (Nat × RowC)}, lendRows ρ s l = some L → lendOk ρ s l L
  | [], L, h => by injection h with h; subst h; trivial
  | (pk, ck) :: l, L, h => by
    unfold lendRows at h
    split at h
    · rename_i c L' h1 h2
      injection h with h; subst h
      exact ⟨rfl, h1, lendRows_ok h2⟩
    · cases h
def frzB (ks : List (Nat × RowC)) (rows : Nat → Row) : AV → Bool
  | .os j n sz off m => if keyIn ks j then true else (decide (j < 1000) && snapB rows (.os j n sz off m))
  | _ => true
theorem frzB_ok {ks : List (Nat × RowC)} {rows : Nat → Row} {x : AV} (h : frzB ks rows x = true) : frzP1 ks rows x := by
  cases x with
  | os j n sz off m =>
    simp only [frzB] at h
    simp only [frzP1]
    split at h
    · rename_i e; rw [if_pos e]; trivial
    · rename_i e
      rw [if_neg e]
      simp only [Bool.and_eq_true, decide_eq_true_eq] at h
      refine ⟨h.1, ?_⟩
      have := snapB_ok _ h.2
      simpa only [snapP, snap1P] using this
  | _ => simp only [frzP1]
def frzBL (ks : List (Nat × RowC)) (rows : Nat → Row) : List AV → Bool
  | [] => true
  | x :: xs => frzB ks rows x && frzBL ks rows xs
theorem frzBL_ok {ks : List (Nat × RowC)} {rows : Nat → Row} : ∀ {xs : List AV}, frzBL ks rows xs = true → frzPL ks rows xs
  | [], _ => trivial
  | x :: xs, h => by
    simp only [frzBL, Bool.and_eq_true] at h
    exact ⟨frzB_ok h.1, frzBL_ok h.2⟩
def frzBC (ks : List (Nat × RowC)) (rows : Nat → Row) : RowC → Bool
  | .box cs => frzBL ks rows cs
  | _ => true
theorem frzBC_ok {ks : List (Nat × RowC)} {rows : Nat → Row} {c : RowC} (h : frzBC ks rows c = true) : frzPC ks rows c := by
  cases c <;> first | exact frzBL_ok h | trivial
def finM (ks : List (Nat × RowC)) (rows : Nat → Row) : List (Nat × RowC) → Option (List (Nat × RowC))
  | [] => some []
  | (k, _) :: L => if okC (rows k).c && frzBC ks rows (rows k).c then match finM ks rows L with | some L' => some ((k, frzC ks rows (rows k).c) :: L') | none => none else none
theorem finM_ok {ks : List (Nat × RowC)} {rows : Nat → Row} : ∀ {L L' : List (Nat × RowC)}, finM ks rows L = some L' → mfin ks rows L L'
  | [], L', h => by injection h with h; subst h; trivial
  | (k, c) :: L, L', h => by
    unfold finM at h
    split at h
    · rename_i hc
      simp only [Bool.and_eq_true] at hc
      split at h
      · rename_i L'' h2
        injection h with h; subst h
        exact ⟨rfl, hc.1, frzBC_ok hc.2, rfl, finM_ok h2⟩
      · cases h
    · cases h
def resListM (P : Program) (ks : List (Nat × RowC)) (s : AS) : List ResultVar → Option (List AV)
  | [] => some []
  | v :: vs =>
    if (resA P s v).pre then
      if frzB ks s.rows (resA P s v).y.av then
        match resListM P ks s vs with
        | some rs => some (frz1 ks s.rows (resA P s v).y.av :: rs)
        | none => none
      else none
    else none
theorem resListM_ok {P : Program} {ks : List (Nat × RowC)} {s : AS} : ∀ {vs : List ResultVar} {rs : List AV}, resListM P ks s vs = some rs → resM P ks s vs rs
  | [], rs, h => by injection h with h; exact h.symm
  | v :: vs, rs, h => by
    unfold resListM at h
    split at h
    · rename_i hp
      split at h
      · rename_i hs
        split at h
        · rename_i rs' hr
          injection h with h; subst h
          exact ⟨hp, frzB_ok hs, rs', rfl, resListM_ok hr⟩
        · cases h
      · cases h
    · cases h
def rowsOf : List (Nat × RowC) → List (Nat × Row)
  | [] => []
  | (k, c) :: L => (k, ⟨0, c⟩) :: rowsOf L
def callM (P : Program) (ex : Code → CS → Option Outs) (fn : Func) (c : Code) (L : List (Nat × RowC)) (args : List AV) : Option (List (Nat × RowC) × AV) :=
  if args.length ≤ fn.ntmps && pinned L then
    match ex c ⟨fn.ntmps, args, rowsOf L⟩ with
    | some [(e, t)] =>
      if isEnd e then
        match finM L t.as.rows L, resListM P L t.as fn.results.toList with
        | some L', some rs => some (L', resMV rs)
        | _, _ => none
      else none
    | _ => none
  else none
def putRows (s : CS) (L' : List (Nat × RowC)) (ver : Nat → Nat) (ρ : List (Nat × Nat)) : List (Nat × Nat) → CS
  | [] => s
  | (pk, ck) :: l => putRows (s.row ck ⟨ver ck, backC ρ ver (lookc L' pk)⟩) L' ver ρ l
def callC (P : Program) (fs : List (FuncId × Nat)) (ex : Code → CS → Option Outs) : Caller := fun D s d f xs =>
  match callee? f with
  | none => none
  | some (F, cs) =>
    match modeOf fs F, P.funcs[F]? with
    | some m, some fn =>
      match fn.body with
      | none => none
      | some c =>
        if m == 1 && !D then
          match d with
          | some dd =>
            if snapBL s.as.rows (xs ++ cs) && decide (dd < 1000) then
              match callO P ex fn c (snapVL s.as.rows (xs ++ cs)) with
              | some (t, sz, es, m) => some ((s.row dd ⟨(s.as.rows dd).ver + 1, .arr t sz es⟩).put d (.os dd ((s.as.rows dd).ver + 1) sz 0 m))
              | none => none
            else none
          | none => none
        else if m == 2 && !D then
          let ρ := mkRho (keysB s.as.rows (keysL (xs ++ cs))) 1000
          match lendL ρ s.as.ver (xs ++ cs), lendRows ρ s.as ρ with
          | some args, some L =>
            match callM P ex fn c L args with
            | some (L', r) => if apart ρ && sameKeys ρ L' then some ((putRows s L' s.as.ver ρ ρ).put d (backA ρ s.as.ver r)) else none
            | none => none
          | _, _ => none
        else if snapBL s.as.rows (xs ++ cs) then
          match callA P ex fn c (snapVL s.as.rows (xs ++ cs)) with
          | some r => if r.flatB || AV.pureL (xs ++ cs) then some (s.put d (.r r)) else none
          | none => none
        else none
    | _, _ => none

/-! ### Code -/
def norm : List CS → Outs
  | [] => []
  | t :: l => (.normal, t) :: norm l
def leave (id : Nat) : Exit → Exit
  | .exit id' => if id' = id then .normal else .exit id'
  | e => e
def blk (id : Nat) : Outs → Outs
  | [] => []
  | (e, t) :: l => (leave id e, t) :: blk id l
/-- A region that draws its order makes rows only where none is. -/
def killOps : List Oper → CS → CS
  | [], s => s
  | o :: l, s => if cls o == 2 && decide (o.dst.getD 0 < 1000) then killOps l (s.row (o.dst.getD 0) ⟨(rowAt s.rows (o.dst.getD 0)).ver + 1, .dead⟩) else killOps l s
def killD (D : Bool) (l : List Oper) (s : CS) : CS := match D with | true => killOps l s | false => s
/-- Where the slots that a region does not make lie. -/
def slots : List Operand → List Nat
  | [] => []
  | .tmp t :: l => t :: slots l
  | _ :: l => slots l
def kappa (ops : Array Oper) (s : CS) : List Oper → List (Nat × Option Nat)
  | [] => []
  | o :: l => (slots o.op.operands.toList).map (fun t => (t, keyOf (nth s.tm t))) ++ kappa ops s l
def drawOk (D : Bool) (ops : Array Oper) (s : CS) : Bool := !D || lexOk ops || lexOk2 ops (kappa ops s ops.toList)
def exec (P : Program) (fs : List (FuncId × Nat)) : Nat → Code → CS → Option Outs
  | 0, _, _ => none
  | k + 1, .region _ ops D, s => if drawOk D ops (killD D ops.toList s) then match runOps P (callC P fs (exec P fs k)) D ops ops.toList (killD D ops.toList s) with | some L => some (norm L) | none => none else none
  | k + 1, .seq a b, s => bindL (exec P fs k a s) fun x => match x.1 with | .normal => exec P fs k b x.2 | e => some [(e, x.2)]
  | k + 1, .loop c, s => bindL (exec P fs k c s) fun x => match x.1 with | .normal => exec P fs k (.loop c) x.2 | e => some [(e, x.2)]
  | k + 1, .cond c a b, s => match s.as.ev c with | .r (.bo t) => bif t then exec P fs k a s else exec P fs k b s | _ => none
  | k + 1, .block id c, s => match exec P fs k c s with | some L => some (blk id L) | none => none
  | _ + 1, .skip, s => some [(.normal, s)]
  | _ + 1, .label _, s => some [(.normal, s)]
  | _ + 1, .exit id, s => some [(.exit id, s)]
  | _ + 1, .ret, s => some [(.ret, s)]
  | _ + 1, _, _ => none
/-- The call's result, reckoned out. -/
def evalA (P : Program) (fs : List (FuncId × Nat)) (k : Nat) (F : FuncId) (args : List RV) : Option RV :=
  match P.funcs[F]? with
  | some fn => match fn.body with
    | some c => callA P (exec P fs k) fn c args
    | none => none
  | none => none
end Go.Oc

/- What is reckoned out is so: a call's answer is what the function returns. -/
namespace Go.Oc
open Go Go.RowKit

section
variable {P : Program}
theorem norm_mem : ∀ {L : List CS} {t : CS}, t ∈ L → (Exit.normal, t) ∈ norm L
  | [], _, h => by simp at h
  | x :: l, t, h => by
    rcases List.mem_cons.1 h with rfl | h
    · simp [norm]
    · simp [norm, norm_mem h]
theorem blk_mem {id : Nat} : ∀ {L : Outs} {e : Exit} {t : CS}, (e, t) ∈ L → (leave id e, t) ∈ blk id L
  | [], _, _, h => by simp at h
  | (e', t') :: l, e, t, h => by
    rcases List.mem_cons.1 h with h | h
    · injection h with h1 h2; subst h1 h2; simp [blk]
    · simp [blk, blk_mem h]
theorem nth_look : ∀ (xs : List AV) (k t : Nat), look (argA k xs) (k + t) = nth xs t
  | [], _, _ => by simp [argA, look_nil, nth]
  | x :: xs, k, 0 => by simp [argA, look_cons, nth]
  | x :: xs, k, t + 1 => by
    have := nth_look xs (k + 1) t
    rw [show k + 1 + t = k + (t + 1) from by omega] at this
    simp only [argA, look_cons, nth, this]
    rw [if_neg (by omega)]
theorem argL_A : ∀ (xs : List RV) (k : Nat), argL k xs = argA k (xs.map .r)
  | [], _ => rfl
  | x :: xs, k => by simp only [argL, argA, List.map_cons, argL_A xs]
theorem rowsOf_at : ∀ (L : List (Nat × RowC)) (k : Nat), rowAt (rowsOf L) k = ⟨0, lookc L k⟩
  | [], _ => rfl
  | (j, c) :: L, k => by
    simp only [rowsOf, rowAt, lookc_cons, rowsOf_at L k]
    split <;> rfl
theorem start_as {n : Nat} {xs : List AV} {L : List (Nat × RowC)} : (CS.mk n xs (rowsOf L)).as = st n (argA 0 xs) (fun _ => 0) L := by
  simp only [CS.as, st, AS.mk.injEq, true_and]
  refine ⟨?_, funext fun k => rowsOf_at L k⟩
  funext t
  have := nth_look xs 0 t
  rw [Nat.zero_add] at this
  exact this.symm
theorem start_as0 {n : Nat} {xs : List RV} : (CS.mk n (xs.map .r) []).as = st n (argL 0 xs) (fun _ => 0) [] := by
  rw [argL_A]
  exact start_as (L := [])
theorem as_putRows {L' : List (Nat × RowC)} {ver : Nat → Nat} {ρ : List (Nat × Nat)} : ∀ (l : List (Nat × Nat)) (s : CS), (putRows s L' ver ρ l).as = { s.as with rows := backRows ρ ver L' l s.as.rows }
  | [], s => rfl
  | (pk, ck) :: l, s => by
    simp only [putRows, as_putRows l, as_row, backRows]
    rfl
theorem putRows_num {L' : List (Nat × RowC)} {ver : Nat → Nat} {ρ : List (Nat × Nat)} : ∀ (l : List (Nat × Nat)) (s : CS), (putRows s L' ver ρ l).n = s.n
  | [], s => rfl
  | (pk, ck) :: l, s => by simp only [putRows, putRows_num l]; rfl

theorem killOps_sub : ∀ (l : List Oper) (s : CS), Sub s.as (killOps l s).as ∧ (killOps l s).n = s.n
  | [], s => ⟨Sub.refl _, rfl⟩
  | o :: l, s => by
    unfold killOps
    split
    · rename_i h
      simp only [Bool.and_eq_true, decide_eq_true_eq] at h
      obtain ⟨h1, h2⟩ := killOps_sub l (s.row (o.dst.getD 0) ⟨(rowAt s.rows (o.dst.getD 0)).ver + 1, .dead⟩)
      refine ⟨Sub.trans ?_ h1, h2⟩
      rw [as_row]
      exact sub_kill s.as (o.dst.getD 0) h.2
    · exact killOps_sub l s
theorem killD_sub (D : Bool) (l : List Oper) (s : CS) : Sub s.as (killD D l s).as ∧ (killD D l s).n = s.n := by
  cases D with
  | true => exact killOps_sub l s
  | false => exact ⟨Sub.refl _, rfl⟩
/-- What the walk of one code promises. -/
def Good (P : Program) (ex : Code → CS → Option Outs) : Prop := ∀ c t L, codeOk t.n c = true → ex c t = some L → (∀ x ∈ L, x.2.n = t.n) ∧ ∀ C Q, (∀ x ∈ L, Q x.1 x.2.as) → awp P C c Q t.as

theorem callA_ok {ex : Code → CS → Option Outs} (hex : Good P ex) {F : FuncId} {fn : Func} {c : Code} {args : List RV} {r : RV} (hF : P.funcs[F]? = some fn) (hb : fn.body = some c) (hok : fnOk P F = true) (h : callA P ex fn c args = some r) : ACalls P F args r := by
  unfold fnOk at hok
  simp only [hF, hb, Bool.and_eq_true] at hok
  unfold callA at h
  split at h
  · rename_i hlen
    split at h
    · rename_i L hL
      split at h
      · rename_i rs hrs
        injection h with h
        have hag := agree_ok hrs
        refine acalls_of hF hb hok.2 rfl hlen h fun C => awp_sub (sub_look (argL 0 args) fun p hp => ?_) ?_
        · obtain ⟨i, x, rfl, e⟩ := argL_mem p hp
          simp only [argTm, Nat.zero_add, e]
        · have := ((hex c _ L hok.1 hL).2 C (fpost P fn rs) fun x hx => ?_)
          · rw [start_as0] at this
            exact this
          · have := hag x hx
            obtain ⟨e, t⟩ := x
            cases e <;> exact this
      · cases h
    · cases h
  · cases h
theorem callO_ok {ex : Code → CS → Option Outs} (hex : Good P ex) {F : FuncId} {fn : Func} {c : Code} {args : List RV} {ty sz m : Nat} {es : List (List RV)} (hF : P.funcs[F]? = some fn) (hb : fn.body = some c) (hok : fnOk P F = true)
    (h : callO P ex fn c args = some (ty, sz, es, m)) : OCalls P F args ty sz es m := by
  unfold fnOk at hok
  simp only [hF, hb, Bool.and_eq_true] at hok
  unfold callO at h
  split at h
  · rename_i hlen
    split at h
    · rename_i rv e t hres hL
      split at h
      · rename_i he
        split at h
        · rename_i hp
          split at h
          · rename_i j n sz1 off m1 hav
            split at h
            · rename_i n' ty1 sz' es1 hrow
              split at h
              · rename_i hc
                simp only [Bool.and_eq_true, beq_iff_eq, List.all_eq_true] at hc
                obtain ⟨⟨⟨h1, h2⟩, h3⟩, h4⟩ := hc
                subst h1 h2 h3
                injection h with h
                simp only [Prod.mk.injEq] at h
                obtain ⟨rfl, rfl, rfl, rfl⟩ := h
                refine ocalls_0 rv hF hb hok.2 rfl hres hlen h4 fun C => ?_
                have := ((hex c _ _ hok.1 hL).2 C (opostL P rv ty1 sz1 es1 m1) fun x hx => ?_)
                · rw [start_as0] at this
                  exact this
                · simp only [List.mem_singleton] at hx
                  subst hx
                  have key : resC (resA P t.as rv) fun v => ∃ j n, v = .os j n sz1 0 m1 ∧ t.as.rows j = ⟨n, .arr ty1 sz1 es1⟩ := ⟨hp, j, n, hav, hrow⟩
                  cases e <;> first | exact key | cases he
              · cases h
            · cases h
          · cases h
        · cases h
      · cases h
    · cases h
  · cases h
theorem callM_ok {ex : Code → CS → Option Outs} (hex : Good P ex) {F : FuncId} {fn : Func} {c : Code} {L L' : List (Nat × RowC)} {args : List AV} {r : AV} (hF : P.funcs[F]? = some fn) (hb : fn.body = some c) (hok : fnOk P F = true)
    (h : callM P ex fn c L args = some (L', r)) : MCalls P F L L' args r := by
  unfold fnOk at hok
  simp only [hF, hb, Bool.and_eq_true] at hok
  unfold callM at h
  split at h
  · rename_i hlen
    simp only [Bool.and_eq_true, decide_eq_true_eq] at hlen
    split at h
    · rename_i e t hL
      split at h
      · rename_i he
        split at h
        · rename_i L1 rs hfin hres
          injection h with h
          simp only [Prod.mk.injEq] at h
          obtain ⟨rfl, rfl⟩ := h
          refine mcalls_st (rs := rs) L L1 fn.results.toList hF hb hok.2 rfl rfl hlen.1 rfl hlen.2 fun C => ?_
          have := ((hex c _ _ hok.1 hL).2 C (mpostL P fn.results.toList rs L L1) fun x hx => ?_)
          · rw [start_as] at this
            exact this
          · simp only [List.mem_singleton] at hx
            subst hx
            have key : resM P L t.as fn.results.toList rs ∧ mfin L t.as.rows L L1 := ⟨resListM_ok hres, finM_ok hfin⟩
            cases e <;> first | exact key | cases he
        · cases h
      · cases h
    · cases h
  · cases h
theorem callC_ok {fs : List (FuncId × Nat)} (hfs : allOk P fs = true) {ex : Code → CS → Option Outs} (hex : Good P ex) : (callC P fs ex).ok P := fun D s d f xs t h => by
  unfold callC at h
  split at h
  · cases h
  · rename_i F cs hcal
    split at h
    · rename_i m fn hm hF
      have hok := allOk_get hfs hm
      split at h
      · cases h
      · rename_i c hb
        split at h
        · rename_i hmode
          simp only [Bool.and_eq_true, beq_iff_eq, Bool.not_eq_true'] at hmode
          split at h
          · rename_i dd
            split at h
            · rename_i hsn
              simp only [Bool.and_eq_true, decide_eq_true_eq] at hsn
              split at h
              · rename_i ty sz es m' hO
                injection h with h; subst h
                refine ⟨put_num _ _ _, fun K hK => .inr ⟨hmode.2, .inr ⟨F, cs, _, ty, sz, es, m', dd, hcal, snapBL_ok _ hsn.1, leL_refl _, callO_ok hex hF hb hok hO, rfl, hsn.2, ?_⟩⟩⟩
                rw [as_put, as_row] at hK
                exact hK
              · cases h
            · cases h
          · cases h
        · split at h
          · rename_i hmode
            simp only [Bool.and_eq_true, beq_iff_eq, Bool.not_eq_true'] at hmode
            dsimp only at h
            split at h
            · rename_i args L hargs hL
              split at h
              · rename_i L' r hM
                split at h
                · rename_i hap
                  simp only [Bool.and_eq_true] at hap
                  injection h with h; subst h
                  refine ⟨(put_num _ _ _).trans (putRows_num _ _), fun K hK => .inr ⟨hmode.2, .inl ⟨F, cs, _, L, L', args, r, hcal, hargs, lendRows_ok hL, hap.1, hap.2, callM_ok hex hF hb hok hM, ?_⟩⟩⟩
                  rw [as_put, as_putRows] at hK
                  exact hK
                · cases h
              · cases h
            · cases h
          · split at h
            · rename_i hsn
              split at h
              · rename_i r hA
                split at h
                · rename_i hfl
                  simp only [Bool.or_eq_true] at hfl
                  injection h with h; subst h
                  refine ⟨put_num _ _ _, fun K hK => .inl ⟨r, ⟨F, cs, _, hcal, snapBL_ok _ hsn, leL_refl _, callA_ok hex hF hb hok hA, hfl⟩, ?_⟩⟩
                  rw [as_put] at hK
                  exact hK
                · cases h
              · cases h
            · cases h
    · cases h

theorem bindL_mem {α β : Type} {x : Option (List α)} {f : α → Option (List β)} {zs : List β} (h : bindL x f = some zs) {z : β} (hz : z ∈ zs) : ∃ l, x = some l ∧ ∃ a ∈ l, ∃ ys, f a = some ys ∧ z ∈ ys := by
  unfold bindL at h
  split at h
  · cases h
  · rename_i l
    refine ⟨l, rfl, ?_⟩
    induction l generalizing zs with
    | nil => injection h with h; subst h; simp at hz
    | cons b l ih =>
      unfold bindL.go at h
      split at h
      · cases h
      · rename_i ys hys
        split at h
        · cases h
        · rename_i ws hws
          injection h with h; subst h
          rcases List.mem_append.1 hz with hz | hz
          · exact ⟨b, by simp, ys, hys, hz⟩
          · obtain ⟨a, ha, y2, h1, h2⟩ := ih hz hws
            exact ⟨a, by simp [ha], y2, h1, h2⟩
theorem runOps_num {call : Caller} (hcall : call.ok P) {D : Bool} {ops : Array Oper} : ∀ (l : List Oper) {s : CS} {L : List CS}, runOps P call D ops l s = some L → ∀ t ∈ L, t.n = s.n
  | [], s, L, h => by
    unfold runOps at h
    injection h with h; subst h
    intro t ht
    simp only [List.mem_singleton] at ht; rw [ht]
  | o :: l, s, L, h => by
    have go : bindL (opC P call D o s) (runOps P call D ops l) = some L → ∀ t ∈ L, t.n = s.n := fun h t ht => by
      obtain ⟨l1, h1, a, ha, ys, h2, h3⟩ := bindL_mem h ht
      rw [runOps_num hcall l h2 t h3, (opC_ok hcall h1 (K := fun _ => True) fun _ _ => trivial).2 a ha]
    have sk : runOps P call D ops l (s.put o.dst (.r .ud)) = some L → ∀ t ∈ L, t.n = s.n := fun h t ht => by
      rw [runOps_num hcall l h t ht, put_num]
    unfold runOps at h
    split at h
    · exact go h
    · split at h
      · exact sk h
      · split at h
        · split at h
          · exact go h
          · exact sk h
        · exact sk h
        · cases h
theorem norm_mem' : ∀ {L : List CS} {x : Exit × CS}, x ∈ norm L → x.1 = .normal ∧ x.2 ∈ L
  | [], _, h => by simp [norm] at h
  | t :: l, x, h => by
    simp only [norm, List.mem_cons] at h
    rcases h with rfl | h
    · exact ⟨rfl, by simp⟩
    · have := norm_mem' h
      exact ⟨this.1, by simp [this.2]⟩
theorem blk_mem' {id : Nat} : ∀ {L : Outs} {x : Exit × CS}, x ∈ blk id L → ∃ e, (e, x.2) ∈ L
  | [], _, h => by simp [blk] at h
  | (e', t') :: l, x, h => by
    simp only [blk, List.mem_cons] at h
    rcases h with rfl | h
    · exact ⟨e', by simp⟩
    · obtain ⟨e, he⟩ := blk_mem' h
      exact ⟨e, by simp [he]⟩
theorem kappa_ok {ops : Array Oper} {s : CS} : ∀ l : List Oper, keysOk (kappa ops s l) s.as
  | [] => fun p hp => by simp [kappa] at hp
  | o :: l => fun p hp => by
    simp only [kappa, List.mem_append, List.mem_map] at hp
    rcases hp with ⟨t, _, rfl⟩ | hp
    · rfl
    · exact kappa_ok l p hp
theorem exec_ok (hm : P.follows .mixedOrders = true) {fs : List (FuncId × Nat)} (hfs : allOk P fs = true) : ∀ k, Good P (exec P fs k) := by
  intro k
  induction k using Nat.strongRecOn with
  | _ k ih =>
    cases k with
    | zero => intro c t L _ h; cases c <;> simp [exec] at h
    | succ k =>
      intro c t L hok h
      cases c with
      | skip => simp only [exec, Option.some.injEq] at h; subst h; exact ⟨by simp, fun C Q hQ => awp_skip (hQ _ (List.mem_singleton.2 rfl))⟩
      | label l => simp only [exec, Option.some.injEq] at h; subst h; exact ⟨by simp, fun C Q hQ => awp_label (hQ _ (List.mem_singleton.2 rfl))⟩
      | exit id => simp only [exec, Option.some.injEq] at h; subst h; exact ⟨by simp, fun C Q hQ => awp_exit (hQ _ (List.mem_singleton.2 rfl))⟩
      | ret => simp only [exec, Option.some.injEq] at h; subst h; exact ⟨by simp, fun C Q hQ => awp_ret (hQ _ (List.mem_singleton.2 rfl))⟩
      | region id ops D =>
        simp only [codeOk] at hok
        simp only [exec] at h
        split at h
        · rename_i hdr
          split at h
          · rename_i L' hL
            injection h with h; subst h
            have hcall := callC_ok hfs (ih k (Nat.lt_succ_self k))
            have hk := killD_sub D ops.toList t
            refine ⟨fun x hx => (runOps_num hcall _ hL _ (norm_mem' hx).2).trans hk.2, fun C Q hQ => awp_sub hk.1 ?_⟩
            have := runOps_ok hcall (K := Q .normal) _ hL fun t ht _ => hQ _ (norm_mem ht)
            have hd : dstOk ops.toList.toArray (killD D ops.toList t).as.n = true := by rw [show (killD D ops.toList t).as.n = t.n from hk.2]; exact hok
            cases D with
            | false => exact awp_region (l := ops.toList) hd this
            | true =>
              simp only [drawOk, Bool.not_true, Bool.false_or, Bool.or_eq_true] at hdr
              rcases hdr with hlex | hlex
              · exact awp_draw (l := ops.toList) hm hlex hd this
              · exact awp_draw2 (l := ops.toList) hm hlex hd (kappa_ok _) this
          · cases h
        · cases h
      | seq a b =>
        simp only [codeOk, Bool.and_eq_true] at hok
        simp only [exec] at h
        obtain ⟨l1, h1, h2⟩ := bindL_spec h
        have ga := ih k (Nat.lt_succ_self k) a t l1 hok.1 h1
        refine ⟨fun x hx => ?_, fun C Q hQ => ?_⟩
        · obtain ⟨l1', h1', y, hy, ys, h3, h4⟩ := bindL_mem h hx
          rw [h1] at h1'; injection h1' with h1'; subst h1'
          have hn := ga.1 y hy
          obtain ⟨e, u⟩ := y
          cases e <;> first
            | (have := (ih k (Nat.lt_succ_self k) b u ys (by rw [hn]; exact hok.2) h3).1 x h4; rw [this]; exact hn)
            | (simp only [Option.some.injEq] at h3; subst h3; simp only [List.mem_singleton] at h4; rw [h4]; exact hn)
        · refine awp_seq (ga.2 C _ fun x hx => ?_)
          obtain ⟨ys, h3, h4⟩ := h2 x hx
          have hn := ga.1 x hx
          obtain ⟨e, u⟩ := x
          cases e <;> first
            | exact (ih k (Nat.lt_succ_self k) b u ys (by rw [hn]; exact hok.2) h3).2 C Q fun x hx => hQ x (h4 x hx)
            | (simp only [Option.some.injEq] at h3; subst h3; exact hQ _ (h4 _ (by simp)))
      | cond c a b =>
        simp only [codeOk, Bool.and_eq_true] at hok
        simp only [exec] at h
        split at h
        · rename_i tt hc
          cases tt with
          | true =>
            have g := ih k (Nat.lt_succ_self k) a t L hok.1 h
            exact ⟨g.1, fun C Q hQ => awp_cond hc (fun _ => g.2 C Q hQ) (fun e => by cases e)⟩
          | false =>
            have g := ih k (Nat.lt_succ_self k) b t L hok.2 h
            exact ⟨g.1, fun C Q hQ => awp_cond hc (fun e => by cases e) (fun _ => g.2 C Q hQ)⟩
        · cases h
      | block id c =>
        simp only [codeOk] at hok
        simp only [exec] at h
        split at h
        · rename_i L' hL
          injection h with h; subst h
          have g := ih k (Nat.lt_succ_self k) c t L' hok hL
          refine ⟨fun x hx => ?_, fun C Q hQ => ?_⟩
          · obtain ⟨e, he⟩ := blk_mem' hx
            exact g.1 (e, x.2) he
          · refine awp_block (g.2 C _ fun x hx => ?_)
            obtain ⟨e, u⟩ := x
            have := hQ _ (blk_mem hx)
            cases e with
            | exit id' =>
              simp only [leave] at this
              simp only [inBlk]
              split <;> rename_i e <;> simp only [e, if_true, if_false] at this <;> exact this
            | _ => exact this
        · cases h
      | loop c =>
        simp only [codeOk] at hok
        have num : ∀ j, j ≤ k + 1 → ∀ (u : CS) (L' : Outs), u.n = t.n → exec P fs j (.loop c) u = some L' → ∀ x ∈ L', x.2.n = t.n := by
          intro j
          induction j with
          | zero => intro _ u L' _ hL; simp [exec] at hL
          | succ j ihj =>
            intro hj u L' hu hL x hx
            simp only [exec] at hL
            obtain ⟨l1, h1, y, hy, ys, h3, h4⟩ := bindL_mem hL hx
            have hn := (ih j (by omega) c u l1 (by rw [hu]; exact hok) h1).1 y hy
            obtain ⟨e, v⟩ := y
            cases e <;> first
              | exact ihj (by omega) v ys (by rw [← hu]; exact hn) h3 x h4
              | (simp only [Option.some.injEq] at h3; subst h3; simp only [List.mem_singleton] at h4; rw [h4, ← hu]; exact hn)
        refine ⟨num (k + 1) (Nat.le_refl _) t L rfl h, fun C Q hQ => ?_⟩
        refine awp_loop (fun j s => j ≤ k + 1 ∧ ∃ u L', s = u.as ∧ u.n = t.n ∧ exec P fs j (.loop c) u = some L' ∧ ∀ x ∈ L', Q x.1 x.2.as) (k + 1) ⟨Nat.le_refl _, t, L, rfl, rfl, h, hQ⟩ ?_
        rintro j s ⟨hj, u, L', rfl, hu, hL, hQ'⟩
        cases j with
        | zero => simp [exec] at hL
        | succ j =>
          simp only [exec] at hL
          obtain ⟨l1, h1, h2⟩ := bindL_spec hL
          have g := ih j (by omega) c u l1 (by rw [hu]; exact hok) h1
          refine g.2 C _ fun x hx => ?_
          obtain ⟨ys, h3, h4⟩ := h2 x hx
          have hn := g.1 x hx
          obtain ⟨e, v⟩ := x
          cases e <;> first
            | exact ⟨j, Nat.lt_succ_self j, by omega, v, ys, rfl, by rw [← hu]; exact hn, h3, fun x hx => hQ' x (h4 x hx)⟩
            | (simp only [Option.some.injEq] at h3; subst h3; exact hQ' _ (h4 _ (by simp)))
      | _ => simp [exec] at h
theorem evalA_ok (hm : P.follows .mixedOrders = true) {fs : List (FuncId × Nat)} (hfs : allOk P fs = true) {k : Nat} {F : FuncId} {args : List RV} {r : RV} (hF : fnOk P F = true) (h : evalA P fs k F args = some r) : ACalls P F args r := by
  unfold evalA at h
  split at h
  · rename_i fn hf
    split at h
    · rename_i c hb
      exact callA_ok (exec_ok hm hfs k) hf hb hF h
    · cases h
  · cases h
end
end Go.Oc
