/- A call on given data, reckoned out: a program that walks, and what its answer means. -/
import Derived.Test.YtnklbfmdojpfkaaOt
import Derived.Test.YtnklbfmdojpfkaaO1
namespace Go.Oc
open Go Go.RowKit

/-! ### What an operation needs can be decided -/
instance {c : Prop} [h : Decidable c] {v : AV} : Decidable (Res.when c v).pre := h
instance {v : AV} : Decidable (Res.val v).pre := .isTrue trivial
instance : Decidable Res.bad.pre := .isFalse id
instance {c a : Prop} [h : Decidable c] {y : Yi} : Decidable (Res.mk c a y).pre := h
def nilB {α : Type} (l : List α) : Decidable (l = []) := match l with
  | [] => .isTrue rfl
  | _ :: _ => .isFalse (by simp)
instance {α : Type} {l : List α} : Decidable (l = []) := nilB l
def RowC.isDead : RowC → Bool
  | .dead => true
  | _ => false
theorem isDead_iff {c : RowC} : c = .dead ↔ c.isDead = true := by cases c <;> simp [RowC.isDead]
instance {c : RowC} : Decidable (c = .dead) := decidable_of_iff _ isDead_iff.symm
def decNews {s : AS} {y : AV} {c : Prop} {sz : Nat} {es : List (List RV)} (h : news? s y = some (c, sz, es)) : Decidable c := by
  unfold news? at h
  split at h
  · exact .isTrue (by injection h with h; injection h with h1 _; rw [← h1]; trivial)
  · exact .isTrue (by injection h with h; injection h with h1 _; rw [← h1]; trivial)
  · split at h
    · rename_i k n sz off m _ n' t sz' es' _
      exact decidable_of_iff (n = n' ∧ sz = sz' ∧ off + m ≤ es'.length) (by injection h with h; injection h with h1 _; rw [← h1])
    · cases h
  · cases h
def decLen {s : AS} {y : AV} {c : Prop} {m : Nat} (h : lenA s y = some (c, m)) : Decidable c := by
  unfold lenA at h
  split at h
  · exact .isTrue (by injection h with h; injection h with h1 _; rw [← h1]; trivial)
  · exact .isTrue (by injection h with h; injection h with h1 _; rw [← h1]; trivial)
  · rename_i k n sz off m
    exact decidable_of_iff (n = s.ver k) (by injection h with h; injection h with h1 _; rw [← h1])
  · cases h
section
variable {P : Program} {s : AS}
instance {c a b : AV} : Decidable (sPick c a b).pre := by delta sPick; split <;> infer_instance
instance {op : BinOp} {t : TypeId} {x y : AV} : Decidable (sEq P op t x y).pre := by delta sEq; split <;> (try split) <;> infer_instance
instance {op : BinOp} {t : TypeId} {x y : AV} : Decidable (sBin P op t x y).pre := by delta sBin; split <;> (try split) <;> infer_instance
instance {op : UnOp} {x : AV} : Decidable (sUn op x).pre := by delta sUn; split <;> infer_instance
instance {a b : TypeId} {x : AV} : Decidable (sConv P a b x).pre := by delta sConv; split <;> infer_instance
instance {t : TypeId} {a : AV} : Decidable (sLoad P s t a).pre := by delta sLoad; split <;> (try split) <;> infer_instance
instance {t : TypeId} {a x : AV} : Decidable (sStore P s t a x).pre := by delta sStore; split <;> (try split) <;> infer_instance
instance {d : Nat} {x : AV} : Decidable (sBox s d x).pre := by delta sBox; split <;> infer_instance
instance {d : Nat} {t : TypeId} : Decidable (sAlloc P s d t).pre := by delta sAlloc; split <;> infer_instance
instance {t : TypeId} {a : AV} {f : Nat} : Decidable (sField P s t a f).pre := by delta sField; split <;> (try split) <;> (try split) <;> infer_instance
instance {cs : AV} {o sz : Nat} {agg : Bool} {c : Prop} [Decidable c] : Decidable (sPart cs o sz agg c).pre := by delta sPart; split <;> infer_instance
instance {t : TypeId} {x : AV} {f : Nat} : Decidable (sFieldV P t x f).pre := by delta sFieldV; split <;> (try split) <;> infer_instance
instance {t : TypeId} {x i : AV} : Decidable (sIndexV P t x i).pre := by delta sIndexV; split <;> infer_instance
instance {t : TypeId} {x i : AV} : Decidable (sIndex P s t x i).pre := by delta sIndex; split <;> (try split) <;> infer_instance
instance {x mx : AV} {lo hi : Option AV} : Decidable (sSlice3 s x lo hi mx).pre := by
  delta sSlice3
  split
  · have := decLen ‹lenA _ _ = some (_, _)›
    infer_instance
  · infer_instance
instance {t : TypeId} {x : AV} {lo hi mx : Option AV} : Decidable (sSlice P s t x lo hi mx).pre := by delta sSlice; split <;> (try split) <;> (try split) <;> infer_instance
instance {t : TypeId} {ps : List (Nat × AV)} : Decidable (sBuild P s t ps).pre := by delta sBuild; split <;> (try split) <;> infer_instance
instance {t : TypeId} {n : Nat} {ps : List (Nat × AV)} : Decidable (sBuildSlice P s t n ps).pre := by delta sBuildSlice; split <;> (try split) <;> (try split) <;> infer_instance
instance {d : Nat} {t : TypeId} {l c : AV} : Decidable (sMakeSlice P s d t l c).pre := by delta sMakeSlice; split <;> infer_instance
instance {d : Nat} {t t' : TypeId} {x y : AV} : Decidable (sAppend P s d t t' x y).pre := by
  delta sAppend
  split
  · rename_i h
    have := decNews h
    infer_instance
  · rename_i h
    have := decNews h
    split
    · split <;> infer_instance
    · infer_instance
  · infer_instance
instance {d : Nat} {t t' : TypeId} {x y : AV} : Decidable (sAppendZ P s d t t' x y).pre := by delta sAppendZ; split <;> infer_instance
instance {t : TypeId} {x : AV} : Decidable (sCap P t x).pre := by delta sCap; split <;> infer_instance
instance {t : TypeId} {x : AV} : Decidable (sClear P s t x).pre := by delta sClear; split <;> (try split) <;> infer_instance
instance {t : TypeId} {x : AV} : Decidable (sLen P s t x).pre := by delta sLen; split <;> (try split) <;> infer_instance
instance {r : Option RV} : Decidable (sMinMax r).pre := by delta sMinMax; split <;> infer_instance
instance {x : AV} {i : Nat} : Decidable (sExtract x i).pre := by delta sExtract; split <;> (try split) <;> infer_instance
instance {x : AV} : Decidable (sNil s x).pre := by delta sNil; split <;> infer_instance
instance {d : Nat} {t : TypeId} : Decidable (sMakeMap P s d t).pre := by delta sMakeMap; split <;> infer_instance
instance {t : TypeId} {x key : AV} {ok : Bool} : Decidable (sLookup P s t x key ok).pre := by delta sLookup; split <;> (try split) <;> (try split) <;> infer_instance
instance {t : TypeId} {x key v : AV} : Decidable (sMapUpdate P s t x key v).pre := by delta sMapUpdate; split <;> (try split) <;> (try split) <;> infer_instance
instance {d : Nat} {t : TypeId} {x : AV} : Decidable (sRange P s d t x).pre := by delta sRange; split <;> (try split) <;> infer_instance
instance {x : AV} : Decidable (sEntry s x).pre := by delta sEntry; split <;> (try split) <;> infer_instance
instance {d : Nat} {b : Builtin} {ts : List TypeId} {xs : List AV} : Decidable (sBuiltin P s d b ts xs).pre := by delta sBuiltin; split <;> (try split) <;> infer_instance
instance decStep {o : Oper} : Decidable (step P o s).pre := by delta step; split <;> (try split) <;> infer_instance
end

/-! ### States in lists -/
def nth : List AV → Nat → AV
  | [], _ => .r .un
  | x :: _, 0 => x
  | _ :: l, t + 1 => nth l t
def setAt : List AV → Nat → AV → List AV
  | [], 0, v => [v]
  | [], d + 1, v => .r .un :: setAt [] d v
  | _ :: l, 0, v => v :: l
  | x :: l, d + 1, v => x :: setAt l d v
theorem nth_setAt : ∀ (l : List AV) (d : Nat) (v : AV) (t : Nat), nth (setAt l d v) t = if t = d then v else nth l t
  | [], 0, v, 0 => by simp [setAt, nth]
  | [], 0, v, t + 1 => by simp [setAt, nth]
  | [], d + 1, v, 0 => by simp [setAt, nth]
  | [], d + 1, v, t + 1 => by simp only [setAt, nth, nth_setAt [] d v t, Nat.add_right_cancel_iff]
  | x :: l, 0, v, 0 => by simp [setAt, nth]
  | x :: l, 0, v, t + 1 => by simp [setAt, nth]
  | x :: l, d + 1, v, 0 => by simp [setAt, nth]
  | x :: l, d + 1, v, t + 1 => by simp only [setAt, nth, nth_setAt l d v t, Nat.add_right_cancel_iff]
def rowAt : List (Nat × Row) → Nat → Row
  | [], _ => ⟨0, .dead⟩
  | (j, r) :: l, k => if k = j then r else rowAt l k
def setRow : List (Nat × Row) → Nat → Row → List (Nat × Row)
  | [], k, r => [(k, r)]
  | (j, q) :: l, k, r => if k = j then (j, r) :: l else (j, q) :: setRow l k r
theorem rowAt_setRow : ∀ (l : List (Nat × Row)) (k : Nat) (r : Row) (j : Nat), rowAt (setRow l k r) j = if j = k then r else rowAt l j
  | [], k, r, j => rfl
  | (i, q) :: l, k, r, j => by
    unfold setRow
    split
    · rename_i e; subst e
      simp only [rowAt]
      split <;> rfl
    · rename_i e
      simp only [rowAt, rowAt_setRow l k r j]
      by_cases e1 : j = i
      · have : ¬ j = k := by omega
        simp [e1]; omega
      · simp [e1]
structure CS where
  n : Nat
  tm : List AV
  rows : List (Nat × Row)
def CS.as (s : CS) : AS := ⟨s.n, nth s.tm, rowAt s.rows⟩
def CS.put (s : CS) (d : Option Nat) (v : AV) : CS := match d with | some d => ⟨s.n, setAt s.tm d v, s.rows⟩ | none => s
def CS.row (s : CS) (k : Nat) (r : Row) : CS := ⟨s.n, s.tm, setRow s.rows k r⟩
def CS.effs (s : CS) : List (Nat × Row) → CS
  | [] => s
  | (k, r) :: l => (s.row k r).effs l
def CS.app (s : CS) (d : Option Nat) (y : Yi) : CS := (s.effs y.eff).put d y.av
theorem as_put (s : CS) (d : Option Nat) (v : AV) : (s.put d v).as = s.as.put d v := by
  cases d with
  | none => rfl
  | some d =>
    simp only [CS.put, CS.as, AS.put, AS.mk.injEq, true_and, and_true]
    funext t
    rw [nth_setAt]; rfl
theorem as_row (s : CS) (k : Nat) (r : Row) : (s.row k r).as = s.as.row k r := by
  simp only [CS.row, CS.as, AS.row, AS.mk.injEq, true_and]
  funext j
  rw [rowAt_setRow]; rfl
theorem as_effs : ∀ (l : List (Nat × Row)) (s : CS), (s.effs l).as = { s.as with rows := l.foldl (fun f p => upd f p.1 p.2) s.as.rows }
  | [], s => rfl
  | (k, r) :: l, s => by
    simp only [CS.effs, as_effs l, as_row, List.foldl_cons]
    rfl
theorem as_app (s : CS) (d : Option Nat) (y : Yi) : (s.app d y).as = s.as.app d y := by
  unfold CS.app AS.app
  rw [as_put, as_effs]
  rfl
theorem put_num (s : CS) (d : Option Nat) (v : AV) : (s.put d v).n = s.n := by cases d <;> rfl
theorem effs_num : ∀ (l : List (Nat × Row)) (s : CS), (s.effs l).n = s.n
  | [], s => rfl
  | (k, r) :: l, s => by simp only [CS.effs, effs_num l]; rfl
theorem app_num (s : CS) (d : Option Nat) (y : Yi) : (s.app d y).n = s.n := by simp only [CS.app, put_num, effs_num]

/-! ### Operations -/
def bindL {α β : Type} (x : Option (List α)) (f : α → Option (List β)) : Option (List β) :=
  match x with
  | none => none
  | some l => go l
  where go : List α → Option (List β)
  | [] => some []
  | a :: l => match f a with
    | none => none
    | some ys => match go l with
      | none => none
      | some zs => some (ys ++ zs)
theorem bindL_go {α β : Type} {f : α → Option (List β)} : ∀ {l : List α} {zs : List β}, bindL.go f l = some zs → ∀ a ∈ l, ∃ ys, f a = some ys ∧ ∀ y ∈ ys, y ∈ zs
  | [], _, _, a, ha => by simp at ha
  | b :: l, zs, h, a, ha => by
    unfold bindL.go at h
    split at h
    · cases h
    · rename_i ys hys
      split at h
      · cases h
      · rename_i ws hws
        injection h with h; subst h
        rcases List.mem_cons.1 ha with rfl | ha
        · exact ⟨ys, hys, fun y hy => by simp [hy]⟩
        · obtain ⟨y2, h1, h2⟩ := bindL_go hws a ha
          exact ⟨y2, h1, fun y hy => by simp [h2 y hy]⟩
theorem bindL_spec {α β : Type} {x : Option (List α)} {f : α → Option (List β)} {zs : List β} (h : bindL x f = some zs) : ∃ l, x = some l ∧ ∀ a ∈ l, ∃ ys, f a = some ys ∧ ∀ y ∈ ys, y ∈ zs := by
  unfold bindL at h
  split at h
  · cases h
  · exact ⟨_, rfl, bindL_go h⟩

/-- What a call comes to: the state behind it. -/
abbrev Caller := Bool → CS → Option Nat → AV → List AV → Option CS
def Caller.ok (P : Program) (call : Caller) : Prop :=
  ∀ D s d f xs t, call D s d f xs = some t → t.n = s.n ∧ ∀ K : AS → Prop, K t.as → acall P s.as f xs (fun r => K (s.as.put d (.r r))) ∨ (D = false ∧ (mcall P s.as d f xs K ∨ ocall P s.as d f xs K))
def each {α : Type} (f : Nat → α → CS) : List α → Nat → List CS
  | [], _ => []
  | e :: l, i => f i e :: each f l (i + 1)
theorem each_mem {α : Type} {f : Nat → α → CS} : ∀ {l : List α} {i j : Nat} {e : α}, l[j]? = some e → f (i + j) e ∈ each f l i
  | [], _, _, _, h => by simp at h
  | x :: l, i, 0, e, h => by simp at h; subst h; simp [each]
  | x :: l, i, j + 1, e, h => by
    simp at h
    have := each_mem (f := f) (i := i + 1) h
    rw [show i + 1 + j = i + (j + 1) from by omega] at this
    simp [each, this]
theorem each_num {α : Type} {f : Nat → α → CS} {n : Nat} (h : ∀ i e, (f i e).n = n) : ∀ {l : List α} {i : Nat}, ∀ t ∈ each f l i, t.n = n
  | [], _, t, ht => by simp [each] at ht
  | x :: l, i, t, ht => by
    simp only [each, List.mem_cons] at ht
    rcases ht with rfl | ht
    · exact h _ _
    · exact each_num h t ht
def nextC (s : CS) (d : Option Nat) (x : AV) : Option (List CS) :=
  match x with
  | .mi k n =>
    match rowAt s.rows k with
    | ⟨n', .mi km nm left _⟩ =>
      if n = n' ∧ nm = (rowAt s.rows km).ver ∧ k ≠ km then
        match left with
        | [] => some [s.put d (.r (.tu [.bo false]))]
        | e :: l => some (each (fun i e' => CS.put (s.row k ⟨n', .mi km nm ((e :: l).eraseIdx i) (some e')⟩) d (.r (.tu [.bo true, e'.1, e'.2]))) (e :: l) 0)
      else none
    | _ => none
  | _ => none
theorem nextC_ok {s : CS} {d : Option Nat} {x : AV} {L : List CS} (h : nextC s d x = some L) {K : AS → Prop} (hK : ∀ t ∈ L, K t.as) : sNext s.as d x K ∧ ∀ t ∈ L, t.n = s.n := by
  unfold nextC at h
  split at h
  · rename_i k n
    split at h
    · rename_i n' km nm left cur hr
      split at h
      · rename_i hc
        have hr' : s.as.rows k = ⟨n', .mi km nm left cur⟩ := hr
        unfold sNext
        simp only [hr']
        split at h
        · injection h with h; subst h
          refine ⟨⟨hc.1, hc.2.1, hc.2.2, fun _ => ?_, fun i e he => by simp at he⟩, fun t ht => ?_⟩
          · rw [← as_put]; exact hK _ (by simp)
          · simp only [List.mem_singleton] at ht; rw [ht, put_num]
        · rename_i e l
          injection h with h; subst h
          refine ⟨⟨hc.1, hc.2.1, hc.2.2, fun h => by simp at h, fun i e' he => ?_⟩, fun t ht => ?_⟩
          · rw [← as_row, ← as_put]
            have := each_mem (f := fun i e' => CS.put (s.row k ⟨n', .mi km nm ((e :: l).eraseIdx i) (some e')⟩) d (.r (.tu [.bo true, e'.1, e'.2]))) (i := 0) he
            rw [Nat.zero_add] at this
            exact hK _ this
          · exact each_num (fun i e => by rw [put_num]; rfl) t ht
      · cases h
    · cases h
  · cases h
def opC (P : Program) (call : Caller) (D : Bool) (o : Oper) (s : CS) : Option (List CS) :=
  match o.op with
  | .call ⟨.value f, args, _⟩ =>
    match call D s o.dst (s.as.ev f) (args.toList.map s.as.ev) with
    | some t => some [t]
    | none => none
  | .next x false => if D then none else nextC s o.dst (s.as.ev x)
  | _ =>
    if (step P o s.as).pre then
      if D && cls o == 2 && !((rowAt s.rows (o.dst.getD 0)).c.isDead && o.dst.isSome) then none
      else some [s.app o.dst (step P o s.as).y]
    else none
theorem opC_ok {P : Program} {call : Caller} (hcall : call.ok P) {D : Bool} {o : Oper} {s : CS} {L : List CS} (h : opC P call D o s = some L) {K : AS → Prop} (hK : ∀ t ∈ L, K t.as) : xop P D o K s.as ∧ ∀ t ∈ L, t.n = s.n := by
  unfold opC at h
  split at h
  · rename_i f args ts ho
    split at h
    · rename_i t ht
      injection h with h; subst h
      obtain ⟨hn, hc⟩ := hcall _ _ _ _ _ _ ht
      have hc := hc K (hK t (by simp))
      refine ⟨?_, fun t' ht' => by simp only [List.mem_singleton] at ht'; rw [ht']; exact hn⟩
      unfold xop
      split
      · rename_i hD
        unfold aop
        rw [ho]
        rcases hc with hc | ⟨hc, _⟩
        · exact hc
        · rw [hD] at hc; cases hc
      · rw [ho]
        rcases hc with hc | ⟨_, hc⟩
        · exact .inl hc
        · exact .inr hc
    · cases h
  · rename_i x ho
    split at h
    · cases h
    · rename_i hD
      have := nextC_ok h hK
      refine ⟨?_, this.2⟩
      unfold xop
      rw [if_neg hD, ho]
      exact this.1
  · rename_i h1 h2
    split at h
    · rename_i hp
      split at h
      · cases h
      · rename_i hdead
        injection h with h; subst h
        refine ⟨?_, fun t ht => by simp only [List.mem_singleton] at ht; rw [ht, app_num]⟩
        have key : ∀ D', (D' = true → D = true) → aop P D' o K s.as := fun D' hD' => by
          unfold aop
          split
          · rename_i f args ts ho; exact (h1 f args ts ho).elim
          · rename_i x ho; exact (h2 x ho).elim
          · refine ⟨hp, fun hD hc => ?_, fun _ => ?_⟩
            · have hD := hD' hD
              cases e : ((rowAt s.rows (o.dst.getD 0)).c.isDead && o.dst.isSome) with
              | false => exact (hdead (by simp only [hD, hc, e]; rfl)).elim
              | true =>
                simp only [Bool.and_eq_true] at e
                exact ⟨isDead_iff.2 e.1, e.2⟩
            · rw [← as_app]; exact hK _ (by simp)
        unfold xop
        split
        · rename_i hD; exact key true fun _ => hD
        · split
          · rename_i f args ts ho; exact (h1 f args ts ho).elim
          · rename_i x ho; exact (h2 x ho).elim
          · exact key false fun h => by cases h
    · cases h

def runOps (P : Program) (call : Caller) (D : Bool) (ops : Array Oper) : List Oper → CS → Option (List CS)
  | [], s => some [s]
  | o :: rest, s =>
    match o.guard with
    | none => bindL (opC P call D o s) (runOps P call D ops rest)
    | some (g, want) =>
      match ((ops[g]?).bind (·.dst) : Option Nat) with
      | none => runOps P call D ops rest (s.put o.dst (.r .ud))
      | some t =>
        match nth s.tm t with
        | .r (.bo b) => if b == want then bindL (opC P call D o s) (runOps P call D ops rest) else runOps P call D ops rest (s.put o.dst (.r .ud))
        | .r .ud => runOps P call D ops rest (s.put o.dst (.r .ud))
        | _ => none
theorem runOps_ok {P : Program} {call : Caller} (hcall : call.ok P) {D : Bool} {ops : Array Oper} {K : AS → Prop} : ∀ (l : List Oper) {s : CS} {L : List CS}, runOps P call D ops l s = some L → (∀ t ∈ L, t.n = s.n → K t.as) → aops P D ops l K s.as
  | [], s, L, h, hK => by
    unfold runOps at h
    injection h with h; subst h
    exact hK s (by simp) rfl
  | o :: l, s, L, h, hK => by
    have go : ∀ {s1 : CS}, s1.n = s.n → bindL (opC P call D o s1) (runOps P call D ops l) = some L → xop P D o (aops P D ops l K) s1.as := fun hn h => by
      obtain ⟨l1, h1, h2⟩ := bindL_spec h
      have hnum := (opC_ok hcall h1 (K := fun _ => True) fun _ _ => trivial).2
      refine (opC_ok hcall h1 fun t ht => ?_).1
      obtain ⟨ys, hys, hsub⟩ := h2 t ht
      exact runOps_ok hcall l hys fun t' ht' hn' => hK t' (hsub t' ht') (by rw [hn', hnum t ht, hn])
    have sk : runOps P call D ops l (s.put o.dst (.r .ud)) = some L → aops P D ops l K (s.as.put o.dst (.r .ud)) := fun h => by
      rw [← as_put]
      exact runOps_ok hcall l h fun t ht hn => hK t ht (by rw [hn, put_num])
    unfold runOps at h
    unfold aops
    split at h
    · rename_i hg
      rw [hg]
      exact go rfl h
    · rename_i g want hg
      rw [hg]
      dsimp only
      split at h
      · rename_i ht; rw [ht]; exact sk h
      · rename_i t ht
        rw [ht]
        dsimp only
        split at h
        · rename_i b hb
          have hb' : s.as.tm t = .r (.bo b) := hb
          rw [hb']
          dsimp only
          split at h
          · rename_i e
            have e : b = want := by simpa using e
            subst e
            refine ⟨fun _ => ?_, fun e => (by cases b <;> cases e)⟩
            rw [put_self hb']
            exact go rfl h
          · rename_i e
            have e : b = !want := by cases b <;> cases want <;> simp_all
            subst e
            refine ⟨fun e => (by cases want <;> cases e), fun _ => ?_⟩
            rw [put_self hb']
            exact sk h
        · rename_i hb
          have hb' : s.as.tm t = .r .ud := hb
          rw [hb']
          exact sk h
        · cases h

/-! ### Code -/
def codeOk (n : Nat) : Code → Bool
  | .region _ ops _ => dstOk ops n
  | .seq a b => codeOk n a && codeOk n b
  | .cond _ a b => codeOk n a && codeOk n b
  | .block _ c => codeOk n c
  | .loop c => codeOk n c
  | _ => true
/-- The functions that may be called, and how: 1 = for a slice of its own, 2 = it is lent rows, else it only reads. -/
structure Modes where
  fs : List (FuncId × Nat)
def modeOf : List (FuncId × Nat) → FuncId → Option Nat
  | [], _ => none
  | (g, m) :: l, f => if f = g then some m else modeOf l f
def fnOk (P : Program) (f : FuncId) : Bool :=
  match P.funcs[f]? with
  | some fn => match fn.body with
    | some c => codeOk fn.ntmps c && callable P f
    | none => false
  | none => false
def allOk (P : Program) : List (FuncId × Nat) → Bool
  | [] => true
  | (f, _) :: l => fnOk P f && allOk P l
theorem allOk_get {P : Program} : ∀ {l : List (FuncId × Nat)} {f : FuncId} {m : Nat}, allOk P l = true → modeOf l f = some m → fnOk P f = true
  | [], _, _, _, h => by simp [modeOf] at h
  | (g, k) :: l, f, m, ha, h => by
    simp only [allOk, Bool.and_eq_true] at ha
    unfold modeOf at h
    split at h
    · rename_i e; subst e; exact ha.1
    · exact allOk_get ha.2 h
mutual
def snapB (rows : Nat → Row) : AV → Bool
  | .r _ => true
  | .os k n sz off m => n == (rows k).ver && match (rows k).c with | .arr _ sz' es => sz == sz' && decide (off + m ≤ es.length) | _ => false
  | .pt k n off => n == (rows k).ver && match (rows k).c with | .box cs => snap1B rows (cs.drop off) | _ => false
  | .pe k n sz idx _ => n == (rows k).ver && match (rows k).c with | .arr _ sz' es => sz == sz' && decide (idx < es.length) | _ => false
  | .fn _ cs => snapBL rows cs
  | .ag cs => snapBL rows cs
  | .tu cs => snapBL rows cs
  | .mp _ _ => false
  | .mi _ _ => false
def snapBL (rows : Nat → Row) : List AV → Bool
  | [] => true
  | x :: xs => snapB rows x && snapBL rows xs
def snap1B (rows : Nat → Row) : List AV → Bool
  | [] => true
  | .os k n sz off m :: xs => (n == (rows k).ver && match (rows k).c with | .arr _ sz' es => sz == sz' && decide (off + m ≤ es.length) | _ => false) && snap1B rows xs
  | _ :: xs => snap1B rows xs
end
end Go.Oc
