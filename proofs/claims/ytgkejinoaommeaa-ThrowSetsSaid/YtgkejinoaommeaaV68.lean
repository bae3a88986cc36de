/- Part 8 of the texts of this claim. -/
import Derived.Test.YtgkejinoaommeaaV67
import Derived.Test.YtgkejinoaommeaaV64
import Derived.Test.YtgkejinoaommeaaV66
namespace Go.Oc
open Go Go.RowKit
instance {c : Prop} [h : Decidable c] {v : AV} : Decidable (Res.when c v).pre := h
instance {v : AV} : Decidable (Res.val v).pre := .isTrue trivial
instance : Decidable Res.bad.pre := .isFalse id
instance {c a : Prop} [h : Decidable c] {y : Yi} : Decidable (Res.mk c a y).pre := h
def nilB {α : Type} (l : List α) : Decidable (l = []) := match l with
 | [] => .isTrue rfl
 | _ :: _ => .isFalse (by simp)
instance {α : Type} {l : List α} : Decidable (l = []) := nilB l
def RowC.isDead : RowC → Bool
 | .dead => true
 | _ => false
theorem isDead_iff {c : RowC} : c = .dead ↔ c.isDead = true := by cases c <;> simp [RowC.isDead]
instance {c : RowC} : Decidable (c = .dead) := decidable_of_iff _ isDead_iff.symm
def decNews {s : AS} {y : AV} {c : Prop} {sz : Nat} {es : List (List RV)} (h : news? s y = some (c, sz, es)) : Decidable c := by
 unfold news? at h
 split at h
 · exact .isTrue (by injection h with h; injection h with h1 _; rw [← h1]; trivial)
 · exact .isTrue (by injection h with h; injection h with h1 _; rw [← h1]; trivial)
 · split at h
   · rename_i k n sz off m _ n' t sz' es' _
     exact decidable_of_iff (n = n' ∧ sz = sz' ∧ off + m ≤ es'.length) (by injection h with h; injection h with h1 _; rw [← h1])
   · cases h
 · cases h
def decLen {s : AS} {y : AV} {c : Prop} {m : Nat} (h : lenA s y = some (c, m)) : Decidable c := by
 unfold lenA at h
 split at h
 · exact .isTrue (by injection h with h; injection h with h1 _; rw [← h1]; trivial)
 · exact .isTrue (by injection h with h; injection h with h1 _; rw [← h1]; trivial)
 · rename_i k n sz off m
   exact decidable_of_iff (n = s.ver k) (by injection h with h; injection h with h1 _; rw [← h1])
 · cases h
section
variable {P : Program} {s : AS}
instance {c a b : AV} : Decidable (sPick c a b).pre := by delta sPick; split <;> infer_instance
instance {op : BinOp} {t : TypeId} {x y : AV} : Decidable (sEq P op t x y).pre := by delta sEq; split <;> (try split) <;> infer_instance
instance {op : BinOp} {t : TypeId} {x y : AV} : Decidable (sBin P op t x y).pre := by delta sBin; split <;> (try split) <;> infer_instance
instance {op : UnOp} {x : AV} : Decidable (sUn op x).pre := by delta sUn; split <;> infer_instance
instance {a b : TypeId} {x : AV} : Decidable (sConv P a b x).pre := by delta sConv; split <;> infer_instance
instance {t : TypeId} {a : AV} : Decidable (sLoad P s t a).pre := by delta sLoad; split <;> (try split) <;> infer_instance
instance {t : TypeId} {a x : AV} : Decidable (sStore P s t a x).pre := by delta sStore; split <;> (try split) <;> infer_instance
instance {d : Nat} {x : AV} : Decidable (sBox s d x).pre := by delta sBox; split <;> infer_instance
instance {d : Nat} {t : TypeId} : Decidable (sAlloc P s d t).pre := by delta sAlloc; split <;> infer_instance
instance {t : TypeId} {a : AV} {f : Nat} : Decidable (sField P s t a f).pre := by delta sField; split <;> (try split) <;> (try split) <;> infer_instance
instance {cs : AV} {o sz : Nat} {agg : Bool} {c : Prop} [Decidable c] : Decidable (sPart cs o sz agg c).pre := by delta sPart; split <;> infer_instance
instance {t : TypeId} {x : AV} {f : Nat} : Decidable (sFieldV P t x f).pre := by delta sFieldV; split <;> (try split) <;> infer_instance
instance {t : TypeId} {x i : AV} : Decidable (sIndexV P t x i).pre := by delta sIndexV; split <;> infer_instance
instance {t : TypeId} {x i : AV} : Decidable (sIndex P s t x i).pre := by delta sIndex; split <;> (try split) <;> infer_instance
instance {x mx : AV} {lo hi : Option AV} : Decidable (sSlice3 s x lo hi mx).pre := by
 delta sSlice3
 split
 · have := decLen ‹lenA _ _ = some (_, _)›
   infer_instance
 · infer_instance
instance {n esz : Nat} {x : AV} {lo hi mx : Option AV} : Decidable (sSliceA n esz x lo hi mx).pre := by delta sSliceA; split <;> infer_instance
instance {t : TypeId} {x : AV} {lo hi mx : Option AV} : Decidable (sSlice P s t x lo hi mx).pre := by delta sSlice; split <;> (try split) <;> (try split) <;> infer_instance
instance {t : TypeId} {ps : List (Nat × AV)} : Decidable (sBuild P s t ps).pre := by delta sBuild; split <;> (try split) <;> infer_instance
instance {t : TypeId} {n : Nat} {ps : List (Nat × AV)} : Decidable (sBuildSlice P s t n ps).pre := by delta sBuildSlice; split <;> (try split) <;> (try split) <;> infer_instance
instance {d : Nat} {t : TypeId} {l c : AV} : Decidable (sMakeSlice P s d t l c).pre := by delta sMakeSlice; split <;> infer_instance
instance {d : Nat} {t t' : TypeId} {x y : AV} : Decidable (sAppend P s d t t' x y).pre := by
 delta sAppend
 split
 · rename_i h
   have := decNews h
   infer_instance
 · rename_i h
   have := decNews h
   infer_instance
 · rename_i h
   have := decNews h
   split
   · infer_instance
   · split <;> infer_instance
   · infer_instance
 · infer_instance
instance {d : Nat} {t t' : TypeId} {x y : AV} : Decidable (sAppendZ P s d t t' x y).pre := by delta sAppendZ; split <;> infer_instance
instance {t : TypeId} {x : AV} : Decidable (sCap P t x).pre := by delta sCap; split <;> infer_instance
instance {t : TypeId} {x : AV} : Decidable (sClear P s t x).pre := by delta sClear; split <;> (try split) <;> infer_instance
instance {t : TypeId} {x : AV} : Decidable (sLen P s t x).pre := by delta sLen; split <;> (try split) <;> infer_instance
instance {r : Option RV} : Decidable (sMinMax r).pre := by delta sMinMax; split <;> infer_instance
instance {x : AV} {i : Nat} : Decidable (sExtract x i).pre := by delta sExtract; split <;> (try split) <;> infer_instance
instance {x : AV} : Decidable (sNil s x).pre := by delta sNil; split <;> infer_instance
instance {d : Nat} {t : TypeId} : Decidable (sMakeMap P s d t).pre := by delta sMakeMap; split <;> infer_instance
instance {t : TypeId} {x key : AV} {ok : Bool} : Decidable (sLookup P s t x key ok).pre := by delta sLookup; split <;> (try split) <;> (try split) <;> infer_instance
instance {t : TypeId} {x key : AV} : Decidable (sMapEntry P s t x key).pre := by delta sMapEntry; split <;> (try split) <;> (try split) <;> infer_instance
instance {x st v : AV} : Decidable (sEntryStore s x st v).pre := by delta sEntryStore; split <;> (try split) <;> (try split) <;> infer_instance
instance {t : TypeId} {x key v : AV} : Decidable (sMapUpdate P s t x key v).pre := by delta sMapUpdate; split <;> (try split) <;> (try split) <;> infer_instance
instance {d : Nat} {t : TypeId} {x : AV} : Decidable (sRange P s d t x).pre := by delta sRange; split <;> (try split) <;> infer_instance
instance {x : AV} : Decidable (sEntry s x).pre := by delta sEntry; split <;> (try split) <;> infer_instance
instance {d : Nat} {b : Builtin} {ts : List TypeId} {xs : List AV} : Decidable (sBuiltin P s d b ts xs).pre := by delta sBuiltin; split <;> (try split) <;> infer_instance
instance decStep {o : Oper} : Decidable (step P o s).pre := by delta step; split <;> (try split) <;> infer_instance
end
def nth : List AV → Nat → AV
 | [], _ => .r .un
 | x :: _, 0 => x
 | _ :: l, t + 1 => nth l t
def setAt : List AV → Nat → AV → List AV
 | [], 0, v => [v]
 | [], d + 1, v => .r .un :: setAt [] d v
 | _ :: l, 0, v => v :: l
 | x :: l, d + 1, v => x :: setAt l d v
theorem nth_setAt : ∀ (l : List AV) (d : Nat) (v : AV) (t : Nat), nth (setAt l d v) t = if t = d then v else nth l t
 | [], 0, v, 0 => by simp [setAt, nth]
 | [], 0, v, t + 1 => by simp [setAt, nth]
 | [], d + 1, v, 0 => by simp [setAt, nth]
 | [], d + 1, v, t + 1 => by simp only [setAt, nth, nth_setAt [] d v t, Nat.add_right_cancel_iff]
 | x :: l, 0, v, 0 => by simp [setAt, nth]
 | x :: l, 0, v, t + 1 => by simp [setAt, nth]
 | x :: l, d + 1, v, 0 => by simp [setAt, nth]
 | x :: l, d + 1, v, t + 1 => by simp only [setAt, nth, nth_setAt l d v t, Nat.add_right_cancel_iff]
def rowAt : List (Nat × Row) → Nat → Row
 | [], _ => ⟨0, .dead⟩
 | (j, r) :: l, k => if k = j then r else rowAt l k
def setRow : List (Nat × Row) → Nat → Row → List (Nat × Row)
 | [], k, r => [(k, r)]
 | (j, q) :: l, k, r => if k = j then (j, r) :: l else (j, q) :: setRow l k r
theorem rowAt_setRow : ∀ (l : List (Nat × Row)) (k : Nat) (r : Row) (j : Nat), rowAt (setRow l k r) j = if j = k then r else rowAt l j
 | [], k, r, j => rfl
 | (i, q) :: l, k, r, j => by
   unfold setRow
   split
   · rename_i e; subst e
     simp only [rowAt]
     split <;> rfl
   · rename_i e
     simp only [rowAt, rowAt_setRow l k r j]
     by_cases e1 : j = i
     · have : ¬ j = k := by omega
       simp [e1]; omega
     · simp [e1]
structure CS where
 n : Nat
 tm : List AV
 rows : List (Nat × Row)
def CS.as (s : CS) : AS := ⟨s.n, nth s.tm, rowAt s.rows⟩
def CS.put (s : CS) (d : Option Nat) (v : AV) : CS := match d with | some d => ⟨s.n, setAt s.tm d v, s.rows⟩ | none => s
def CS.row (s : CS) (k : Nat) (r : Row) : CS := ⟨s.n, s.tm, setRow s.rows k r⟩
def CS.effs (s : CS) : List (Nat × Row) → CS
 | [] => s
 | (k, r) :: l => (s.row k r).effs l
def CS.app (s : CS) (d : Option Nat) (y : Yi) : CS := (s.effs y.eff).put d y.av
theorem as_put (s : CS) (d : Option Nat) (v : AV) : (s.put d v).as = s.as.put d v := by
 cases d with
 | none => rfl
 | some d =>
   simp only [CS.put, CS.as, AS.put, AS.mk.injEq, true_and, and_true]
   funext t
   rw [nth_setAt]; rfl
theorem as_row (s : CS) (k : Nat) (r : Row) : (s.row k r).as = s.as.row k r := by
 simp only [CS.row, CS.as, AS.row, AS.mk.injEq, true_and]
 funext j
 rw [rowAt_setRow]; rfl
theorem as_effs : ∀ (l : List (Nat × Row)) (s : CS), (s.effs l).as = { s.as with rows := l.foldl (fun f p => upd f p.1 p.2) s.as.rows }
 | [], s => rfl
 | (k, r) :: l, s => by
   simp only [CS.effs, as_effs l, as_row, List.foldl_cons]
   rfl
theorem as_app (s : CS) (d : Option Nat) (y : Yi) : (s.app d y).as = s.as.app d y := by
 unfold CS.app AS.app
 rw [as_put, as_effs]
 rfl
theorem put_num (s : CS) (d : Option Nat) (v : AV) : (s.put d v).n = s.n := by cases d <;> rfl
theorem effs_num : ∀ (l : List (Nat × Row)) (s : CS), (s.effs l).n = s.n
 | [], s => rfl
 | (k, r) :: l, s => by simp only [CS.effs, effs_num l]; rfl
theorem app_num (s : CS) (d : Option Nat) (y : Yi) : (s.app d y).n = s.n := by simp only [CS.app, put_num, effs_num]
def bindL {α β : Type} (x : Option (List α)) (f : α → Option (List β)) : Option (List β) :=
 match x with
 | none => none
 | some l => go l
 where go : List α → Option (List β)
 | [] => some []
 | a :: l => match f a with
   | none => none
   | some ys => match go l with
     | none => none
     | some zs => some (ys ++ zs)
theorem bindL_go {α β : Type} {f : α → Option (List β)} : ∀ {l : List α} {zs : List β}, bindL.go f l = some zs → ∀ a ∈ l, ∃ ys, f a = some ys ∧ ∀ y ∈ ys, y ∈ zs
 | [], _, _, a, ha => by simp at ha
 | b :: l, zs, h, a, ha => by
   unfold bindL.go at h
   split at h
   · cases h
   · rename_i ys hys
     split at h
     · cases h
     · rename_i ws hws
       injection h with h; subst h
       rcases List.mem_cons.1 ha with rfl | ha
       · exact ⟨ys, hys, fun y hy => by simp [hy]⟩
       · obtain ⟨y2, h1, h2⟩ := bindL_go hws a ha
         exact ⟨y2, h1, fun y hy => by simp [h2 y hy]⟩
theorem bindL_spec {α β : Type} {x : Option (List α)} {f : α → Option (List β)} {zs : List β} (h : bindL x f = some zs) : ∃ l, x = some l ∧ ∀ a ∈ l, ∃ ys, f a = some ys ∧ ∀ y ∈ ys, y ∈ zs := by
 unfold bindL at h
 split at h
 · cases h
 · exact ⟨_, rfl, bindL_go h⟩
abbrev Caller := Bool → CS → Option Nat → AV → List AV → Option CS
def Caller.ok (P : Program) (call : Caller) : Prop :=
 ∀ D s d f xs t, call D s d f xs = some t → t.n = s.n ∧ ∀ K : AS → Prop, K t.as → acall P s.as f xs (fun r => K (s.as.put d (.r r))) ∨ (D = false ∧ (mcall P s.as d f xs K ∨ ocall P s.as d f xs K))
def each {α : Type} (f : Nat → α → CS) : List α → Nat → List CS
 | [], _ => []
 | e :: l, i => f i e :: each f l (i + 1)
theorem each_mem {α : Type} {f : Nat → α → CS} : ∀ {l : List α} {i j : Nat} {e : α}, l[j]? = some e → f (i + j) e ∈ each f l i
 | [], _, _, _, h => by simp at h
 | x :: l, i, 0, e, h => by simp at h; subst h; simp [each]
 | x :: l, i, j + 1, e, h => by
   simp at h
   have := each_mem (f := f) (i := i + 1) h
   rw [show i + 1 + j = i + (j + 1) from by omega] at this
   simp [each, this]
theorem each_num {α : Type} {f : Nat → α → CS} {n : Nat} (h : ∀ i e, (f i e).n = n) : ∀ {l : List α} {i : Nat}, ∀ t ∈ each f l i, t.n = n
 | [], _, t, ht => by simp [each] at ht
 | x :: l, i, t, ht => by
   simp only [each, List.mem_cons] at ht
   rcases ht with rfl | ht
   · exact h _ _
   · exact each_num h t ht
def nextC (s : CS) (d : Option Nat) (x : AV) : Option (List CS) :=
 match x with
 | .mi k n =>
   match rowAt s.rows k with
   | ⟨n', .mi km nm left _⟩ =>
     if n = n' ∧ nm = (rowAt s.rows km).ver ∧ k ≠ km then
      match left with
      | [] => some [s.put d (.r (.tu [.bo false]))]
      | e :: l => some (each (fun i e' => CS.put (s.row k ⟨n', .mi km nm ((e :: l).eraseIdx i) (some e')⟩) d (.r (.tu [.bo true, e'.1, e'.2]))) (e :: l) 0)
     else none
   | _ => none
 | _ => none
theorem nextC_ok {s : CS} {d : Option Nat} {x : AV} {L : List CS} (h : nextC s d x = some L) {K : AS → Prop} (hK : ∀ t ∈ L, K t.as) : sNext s.as d x K ∧ ∀ t ∈ L, t.n = s.n := by
 unfold nextC at h
 split at h
 · rename_i k n
   split at h
   · rename_i n' km nm left cur hr
     split at h
     · rename_i hc
       have hr' : s.as.rows k = ⟨n', .mi km nm left cur⟩ := hr
       unfold sNext
       simp only [hr']
       split at h
       · injection h with h; subst h
         refine ⟨⟨hc.1, hc.2.1, hc.2.2, fun _ => ?_, fun i e he => by simp at he⟩, fun t ht => ?_⟩
         · rw [← as_put]; exact hK _ (by simp)
         · simp only [List.mem_singleton] at ht; rw [ht, put_num]
       · rename_i e l
         injection h with h; subst h
         refine ⟨⟨hc.1, hc.2.1, hc.2.2, fun h => by simp at h, fun i e' he => ?_⟩, fun t ht => ?_⟩
         · rw [← as_row, ← as_put]
           have := each_mem (f := fun i e' => CS.put (s.row k ⟨n', .mi km nm ((e :: l).eraseIdx i) (some e')⟩) d (.r (.tu [.bo true, e'.1, e'.2]))) (i := 0) he
           rw [Nat.zero_add] at this
           exact hK _ this
         · exact each_num (fun i e => by rw [put_num]; rfl) t ht
     · cases h
   · cases h
 · cases h
def opC (P : Program) (call : Caller) (D : Bool) (o : Oper) (s : CS) : Option (List CS) :=
 match o.op with
 | .call ⟨.value f, args, _⟩ =>
   match call D s o.dst (s.as.ev f) (args.toList.map s.as.ev) with
   | some t => some [t]
   | none => none
 | .next x false => if D then none else nextC s o.dst (s.as.ev x)
 | _ =>
   if (step P o s.as).pre then
    if D && cls o == 2 && !((rowAt s.rows (o.dst.getD 0)).c.isDead && o.dst.isSome) then none
    else some [s.app o.dst (step P o s.as).y]
   else none
theorem opC_ok {P : Program} {call : Caller} (hcall : call.ok P) {D : Bool} {o : Oper} {s : CS} {L : List CS} (h : opC P call D o s = some L) {K : AS → Prop} (hK : ∀ t ∈ L, K t.as) : xop P D o K s.as ∧ ∀ t ∈ L, t.n = s.n := by
 unfold opC at h
 split at h
 · rename_i f args ts ho
   split at h
   · rename_i t ht
     injection h with h; subst h
     obtain ⟨hn, hc⟩ := hcall _ _ _ _ _ _ ht
     have hc := hc K (hK t (by simp))
     refine ⟨?_, fun t' ht' => by simp only [List.mem_singleton] at ht'; rw [ht']; exact hn⟩
     unfold xop
     split
     · rename_i hD
       unfold aop
       rw [ho]
       rcases hc with hc | ⟨hc, _⟩
       · exact .inl hc
       · rw [hD] at hc; cases hc
     · rw [ho]
       rcases hc with hc | ⟨_, hc⟩
       · exact .inl hc
       · exact .inr (hc.imp id .inl)
   · cases h
 · rename_i x ho
   split at h
   · cases h
   · rename_i hD
     have := nextC_ok h hK
     refine ⟨?_, this.2⟩
     unfold xop
     rw [if_neg hD, ho]
     exact this.1
 · rename_i h1 h2
   split at h
   · rename_i hp
     split at h
     · cases h
     · rename_i hdead
       injection h with h; subst h
       refine ⟨?_, fun t ht => by simp only [List.mem_singleton] at ht; rw [ht, app_num]⟩
       have key : ∀ D', (D' = true → D = true) → aop P D' o K s.as := fun D' hD' => by
        unfold aop
        split
        · rename_i f args ts ho; exact (h1 f args ts ho).elim
        · rename_i x ho; exact (h2 x ho).elim
        · refine ⟨hp, fun hD hc => ?_, fun _ => ?_⟩
          · have hD := hD' hD
            cases e : ((rowAt s.rows (o.dst.getD 0)).c.isDead && o.dst.isSome) with
            | false => exact (hdead (by simp only [hD, hc, e]; rfl)).elim
            | true =>
              simp only [Bool.and_eq_true] at e
              exact ⟨isDead_iff.2 e.1, e.2⟩
          · rw [← as_app]; exact hK _ (by simp)
       unfold xop
       split
       · rename_i hD; exact key true fun _ => hD
       · split
         · rename_i f args ts ho; exact (h1 f args ts ho).elim
         · rename_i x ho; exact (h2 x ho).elim
         · exact key false fun h => by cases h
   · cases h
def runOps (P : Program) (call : Caller) (D : Bool) (ops : Array Oper) : List Oper → CS → Option (List CS)
 | [], s => some [s]
 | o :: rest, s =>
   match o.guard with
   | none => bindL (opC P call D o s) (runOps P call D ops rest)
   | some (g, want) =>
     match ((ops[g]?).bind (·.dst) : Option Nat) with
     | none => runOps P call D ops rest (s.put o.dst (.r .ud))
     | some t =>
       match nth s.tm t with
       | .r (.bo b) => if b == want then bindL (opC P call D o s) (runOps P call D ops rest) else runOps P call D ops rest (s.put o.dst (.r .ud))
       | .r .ud => runOps P call D ops rest (s.put o.dst (.r .ud))
       | _ => none
theorem runOps_ok {P : Program} {call : Caller} (hcall : call.ok P) {D : Bool} {ops : Array Oper} {K : AS → Prop} : ∀ (l : List Oper) {s : CS} {L : List CS}, runOps P call D ops l s = some L → (∀ t ∈ L, t.n = s.n → K t.as) → aops P D ops l K s.as
 | [], s, L, h, hK => by
   unfold runOps at h
   injection h with h; subst h
   exact hK s (by simp) rfl
 | o :: l, s, L, h, hK => by
   have go : ∀ {s1 : CS}, s1.n = s.n → bindL (opC P call D o s1) (runOps P call D ops l) = some L → xop P D o (aops P D ops l K) s1.as := fun hn h => by
    obtain ⟨l1, h1, h2⟩ := bindL_spec h
    have hnum := (opC_ok hcall h1 (K := fun _ => True) fun _ _ => trivial).2
    refine (opC_ok hcall h1 fun t ht => ?_).1
    obtain ⟨ys, hys, hsub⟩ := h2 t ht
    exact runOps_ok hcall l hys fun t' ht' hn' => hK t' (hsub t' ht') (by rw [hn', hnum t ht, hn])
   have sk : runOps P call D ops l (s.put o.dst (.r .ud)) = some L → aops P D ops l K (s.as.put o.dst (.r .ud)) := fun h => by
    rw [← as_put]
    exact runOps_ok hcall l h fun t ht hn => hK t ht (by rw [hn, put_num])
   unfold runOps at h
   unfold aops
   split at h
   · rename_i hg
     rw [hg]
     exact go rfl h
   · rename_i g want hg
     rw [hg]
     dsimp only
     split at h
     · rename_i ht; rw [ht]; exact sk h
     · rename_i t ht
       rw [ht]
       dsimp only
       split at h
       · rename_i b hb
         have hb' : s.as.tm t = .r (.bo b) := hb
         rw [hb']
         dsimp only
         split at h
         · rename_i e
           have e : b = want := by simpa using e
           subst e
           refine ⟨fun _ => ?_, fun e => (by cases b <;> cases e)⟩
           rw [put_self hb']
           exact go rfl h
         · rename_i e
           have e : b = !want := by cases b <;> cases want <;> simp_all
           subst e
           refine ⟨fun e => (by cases want <;> cases e), fun _ => ?_⟩
           rw [put_self hb']
           exact sk h
       · rename_i hb
         have hb' : s.as.tm t = .r .ud := hb
         rw [hb']
         exact sk h
       · cases h
def codeOk (n : Nat) : Code → Bool
 | .region _ ops _ => dstOk ops n
 | .seq a b => codeOk n a && codeOk n b
 | .cond _ a b => codeOk n a && codeOk n b
 | .block _ c => codeOk n c
 | .loop c => codeOk n c
 | _ => true
structure Modes where
 fs : List (FuncId × Nat)
def modeOf : List (FuncId × Nat) → FuncId → Option Nat
 | [], _ => none
 | (g, m) :: l, f => if f = g then some m else modeOf l f
def fnOk (P : Program) (f : FuncId) : Bool :=
 match P.funcs[f]? with
 | some fn => match fn.body with
   | some c => codeOk fn.ntmps c && callable P f
   | none => false
 | none => false
def allOk (P : Program) : List (FuncId × Nat) → Bool
 | [] => true
 | (f, _) :: l => fnOk P f && allOk P l
theorem allOk_get {P : Program} : ∀ {l : List (FuncId × Nat)} {f : FuncId} {m : Nat}, allOk P l = true → modeOf l f = some m → fnOk P f = true
 | [], _, _, _, h => by simp [modeOf] at h
 | (g, k) :: l, f, m, ha, h => by
   simp only [allOk, Bool.and_eq_true] at ha
   unfold modeOf at h
   split at h
   · rename_i e; subst e; exact ha.1
   · exact allOk_get ha.2 h
mutual
def snapB (rows : Nat → Row) : AV → Bool
 | .r _ => true
 | .os k n sz off m => n == (rows k).ver && match (rows k).c with | .arr _ sz' es => sz == sz' && decide (off + m ≤ es.length) | _ => false
 | .pt k n off => n == (rows k).ver && match (rows k).c with | .box cs => snap1B rows (cs.drop off) | _ => false
 | .pe k n sz idx _ => n == (rows k).ver && match (rows k).c with | .arr _ sz' es => sz == sz' && decide (idx < es.length) | _ => false
 | .fn _ cs => snapBL rows cs
 | .ag cs => snapBL rows cs
 | .tu cs => snapBL rows cs
 | .mp _ _ => false
 | .mi _ _ => false
 | .pu _ _ _ => false
def snapBL (rows : Nat → Row) : List AV → Bool
 | [] => true
 | x :: xs => snapB rows x && snapBL rows xs
def snap1B (rows : Nat → Row) : List AV → Bool
 | [] => true
 | .os k n sz off m :: xs => (n == (rows k).ver && match (rows k).c with | .arr _ sz' es => sz == sz' && decide (off + m ≤ es.length) | _ => false) && snap1B rows xs
 | _ :: xs => snap1B rows xs
end
end Go.Oc

namespace Go.Oc
open Go Go.RowKit
section
variable {rows : Nat → Row}
theorem osB {k n sz off m : Nat} (h : (n == (rows k).ver && match (rows k).c with | .arr _ sz' es => sz == sz' && decide (off + m ≤ es.length) | _ => false) = true) :
 n = (rows k).ver ∧ match (rows k).c with | .arr _ sz' es => sz = sz' ∧ off + m ≤ es.length | .arc _ sz' es _ => sz = sz' ∧ off + m ≤ es.length | _ => False := by
 simp only [Bool.and_eq_true, beq_iff_eq] at h
 refine ⟨h.1, ?_⟩
 have h := h.2
 split at h
 · rename_i e; simp only [e]; simpa using h
 · cases h
theorem snap1B_ok : ∀ (xs : List AV), snap1B rows xs = true → snap1PL rows xs
 | [], _ => trivial
 | x :: xs, h => by
   cases x with
   | os k n sz off m =>
     simp only [snap1B, Bool.and_eq_true (_ && _)] at h
     exact ⟨osB h.1, snap1B_ok xs h.2⟩
   | _ => simp only [snap1B] at h; exact ⟨trivial, snap1B_ok xs h⟩
mutual
theorem snapB_ok : ∀ (x : AV), snapB rows x = true → snapP rows x
 | .r _, _ => by simp only [snapP]
 | .os k n sz off m, h => by simp only [snapB] at h; simp only [snapP]; exact osB h
 | .pt k n off, h => by
   simp only [snapB, Bool.and_eq_true, beq_iff_eq] at h
   simp only [snapP]
   refine ⟨h.1, ?_⟩
   have h := h.2
   generalize (rows k).c = c at h ⊢
   cases c <;> first | exact snap1B_ok _ h | cases h
 | .pe k n sz idx _, h => by
   simp only [snapB, Bool.and_eq_true, beq_iff_eq] at h
   simp only [snapP]
   refine ⟨h.1, ?_⟩
   have h := h.2
   generalize (rows k).c = c at h ⊢
   cases c <;> first | (simp only [Bool.and_eq_true, beq_iff_eq, decide_eq_true_eq] at h; exact h) | cases h
 | .fn _ cs, h => by simp only [snapB] at h; simp only [snapP]; exact snapBL_ok cs h
 | .ag cs, h => by simp only [snapB] at h; simp only [snapP]; exact snapBL_ok cs h
 | .tu cs, h => by simp only [snapB] at h; simp only [snapP]; exact snapBL_ok cs h
 | .mp _ _, h => by simp [snapB] at h
 | .mi _ _, h => by simp [snapB] at h
 | .pu _ _ _, h => by simp [snapB] at h
theorem snapBL_ok : ∀ (xs : List AV), snapBL rows xs = true → snapPL rows xs
 | [], _ => trivial
 | x :: xs, h => by
   simp only [snapBL, Bool.and_eq_true] at h
   exact ⟨snapB_ok x h.1, snapBL_ok xs h.2⟩
end
end
instance {P : Program} {s : AS} {v : ResultVar} : Decidable (resA P s v).pre := match v with
 | .tmp _ => .isTrue trivial
 | .cell a t => inferInstanceAs (Decidable (sLoad P s t (s.tm a)).pre)
def resList (P : Program) (s : AS) : List ResultVar → Option (List RV)
 | [] => some []
 | v :: vs =>
   if (resA P s v).pre then
    if snapB s.rows (resA P s v).y.av then
     match resList P s vs with
     | some rs => some (snapV s.rows (resA P s v).y.av :: rs)
     | none => none
    else none
   else none
theorem resList_ok {P : Program} {s : AS} : ∀ {vs : List ResultVar} {rs : List RV}, resList P s vs = some rs → resOk P s vs rs
 | [], rs, h => by injection h with h; exact h.symm
 | v :: vs, rs, h => by
   unfold resList at h
   split at h
   · rename_i hp
     split at h
     · rename_i hs
       split at h
       · rename_i rs' hr
         injection h with h; subst h
         exact ⟨hp, snapB_ok _ hs, _, rs', rfl, leL_refl.le_refl _, resList_ok hr⟩
       · cases h
     · cases h
   · cases h
abbrev Outs := List (Exit × CS)
def endRs (P : Program) (res : List ResultVar) (x : Exit × CS) : Option (List RV) :=
 match x.1 with
 | .normal => resList P x.2.as res
 | .ret => resList P x.2.as res
 | _ => none
theorem endRs_ok {P : Program} {res : List ResultVar} {x : Exit × CS} {rs : List RV} (h : endRs P res x = some rs) : fpostL P res rs x.1 x.2.as := by
 obtain ⟨e, t⟩ := x
 unfold endRs at h
 cases e <;> first | exact resList_ok h | cases h
def sameRs : List RV → List RV → Bool
 | [], [] => true
 | .bo a :: l, .bo b :: l' => (a == b) && sameRs l l'
 | .it .i64 a :: l, .it .i64 b :: l' => (a == b) && sameRs l l'
 | _, _ => false
theorem sameRs_ok : ∀ {l l' : List RV}, sameRs l l' = true → l = l' := fun {l l'} h => by
 fun_induction sameRs l l' with
 | case1 => rfl
 | case2 a l b l' ih => simp only [Bool.and_eq_true, beq_iff_eq] at h; rw [h.1, ih h.2]
 | case3 a l b l' ih => simp only [Bool.and_eq_true, beq_iff_eq] at h; rw [h.1, ih h.2]
 | case4 => cases h
def agree (P : Program) (res : List ResultVar) : Outs → Option (List RV)
 | [] => none
 | [x] => endRs P res x
 | x :: l => match endRs P res x, agree P res l with
   | some r, some r' => if sameRs r r' then some r else none
   | _, _ => none
theorem agree_ok {P : Program} {res : List ResultVar} : ∀ {L : Outs} {rs : List RV}, agree P res L = some rs → ∀ x ∈ L, fpostL P res rs x.1 x.2.as
 | [], _, h => by simp [agree] at h
 | [x], rs, h => fun y hy => by
   simp only [List.mem_singleton] at hy
   subst hy
   exact endRs_ok (by simpa only [agree] using h)
 | x :: y :: l, rs, h => fun z hz => by
   simp only [agree] at h
   split at h
   · rename_i r r' h1 h2
     split at h
     · rename_i e
       injection h with h; subst h
       have e := sameRs_ok e
       subst e
       rcases List.mem_cons.1 hz with rfl | hz
       · exact endRs_ok h1
       · exact agree_ok (L := y :: l) h2 z hz
     · cases h
   · cases h
def isEnd : Exit → Bool
 | .normal => true
 | .ret => true
 | _ => false
def callA (P : Program) (ex : Code → CS → Option Outs) (fn : Func) (c : Code) (args : List RV) : Option RV :=
 if args.length ≤ fn.ntmps then
  match ex c ⟨fn.ntmps, args.map .r, []⟩ with
  | some L => match agree P fn.results.toList L with
    | some rs => some (resV rs)
    | none => none
  | none => none
 else none
def callO (P : Program) (ex : Code → CS → Option Outs) (fn : Func) (c : Code) (args : List RV) : Option (Nat × Nat × List (List RV) × Nat) :=
 if args.length ≤ fn.ntmps then
  match fn.results.toList, ex c ⟨fn.ntmps, args.map .r, []⟩ with
  | [rv], some [(e, t)] =>
    if isEnd e then
    if (resA P t.as rv).pre then
     match (resA P t.as rv).y.av with
     | .os j n sz off m =>
       match rowAt t.rows j with
       | ⟨n', .arr ty sz' es⟩ => if n == n' && sz == sz' && off == 0 && es.all RV.flatL then some (ty, sz, es, m) else none
       | _ => none
     | _ => none
    else none
    else none
  | _, _ => none
 else none
mutual
def keysA : AV → List Nat
 | .pt k _ _ => [k]
 | .pe k _ _ _ _ => [k]
 | .os k _ _ _ _ => [k]
 | .mp k _ => [k]
 | .fn _ cs => keysL cs
 | .ag cs => keysL cs
 | .tu cs => keysL cs
 | _ => []
def keysL : List AV → List Nat
 | [] => []
 | x :: xs => keysA x ++ keysL xs
end
def keysB (rows : Nat → Row) : List Nat → List Nat
 | [] => []
 | k :: ks => k :: ((match (rows k).c with | .box cs => keysL cs | _ => []) ++ keysB rows ks)
def mkRho : List Nat → Nat → List (Nat × Nat)
 | [], _ => []
 | k :: ks, i => if (k :: ks).length > 1 && ks.contains k then mkRho ks i else (i, k) :: mkRho ks (i + 1)
def lendRows (ρ : List (Nat × Nat)) (s : AS) : List (Nat × Nat) → Option (List (Nat × RowC))
 | [] => some []
 | (pk, ck) :: l => match lendC ρ s.ver (s.rows ck).c, lendRows ρ s l with
   | some c, some L => some ((pk, c) :: L)
   | _, _ => none
theorem lendRows_ok {ρ : List (Nat × Nat)} {s : AS} : ∀ {l : List (Nat × Nat)} {L : List (Nat × RowC)}, lendRows ρ s l = some L → lendOk ρ s l L
 | [], L, h => by injection h with h; subst h; trivial
 | (pk, ck) :: l, L, h => by
   unfold lendRows at h
   split at h
   · rename_i c L' h1 h2
     injection h with h; subst h
     exact ⟨rfl, h1, lendRows_ok h2⟩
   · cases h
def frzB (ks : List (Nat × RowC)) (rows : Nat → Row) : AV → Bool
 | .os j n sz off m => if keyIn ks j then true else (decide (j < 1000) && snapB rows (.os j n sz off m))
 | _ => true
theorem frzB_ok {ks : List (Nat × RowC)} {rows : Nat → Row} {x : AV} (h : frzB ks rows x = true) : frzP1 ks rows x := by
 cases x with
 | os j n sz off m =>
   simp only [frzB] at h
   simp only [frzP1]
   split at h
   · rename_i e; rw [if_pos e]; trivial
   · rename_i e
     rw [if_neg e]
     simp only [Bool.and_eq_true, decide_eq_true_eq] at h
     refine ⟨h.1, ?_⟩
     have := snapB_ok _ h.2
     simpa only [snapP, snap1P] using this
 | _ => simp only [frzP1]
def frzBL (ks : List (Nat × RowC)) (rows : Nat → Row) : List AV → Bool
 | [] => true
 | x :: xs => frzB ks rows x && frzBL ks rows xs
theorem frzBL_ok {ks : List (Nat × RowC)} {rows : Nat → Row} : ∀ {xs : List AV}, frzBL ks rows xs = true → frzPL ks rows xs
 | [], _ => trivial
 | x :: xs, h => by
   simp only [frzBL, Bool.and_eq_true] at h
   exact ⟨frzB_ok h.1, frzBL_ok h.2⟩
def frzBC (ks : List (Nat × RowC)) (rows : Nat → Row) : RowC → Bool
 | .box cs => frzBL ks rows cs
 | _ => true
theorem frzBC_ok {ks : List (Nat × RowC)} {rows : Nat → Row} {c : RowC} (h : frzBC ks rows c = true) : frzPC ks rows c := by
 cases c <;> first | exact frzBL_ok h | trivial
def finM (ks : List (Nat × RowC)) (rows : Nat → Row) : List (Nat × RowC) → Option (List (Nat × RowC))
 | [] => some []
 | (k, _) :: L => if okC (rows k).c && frzBC ks rows (rows k).c then match finM ks rows L with | some L' => some ((k, frzC ks rows (rows k).c) :: L') | none => none else none
theorem finM_ok {ks : List (Nat × RowC)} {rows : Nat → Row} : ∀ {L L' : List (Nat × RowC)}, finM ks rows L = some L' → mfin ks rows L L'
 | [], L', h => by injection h with h; subst h; trivial
 | (k, c) :: L, L', h => by
   unfold finM at h
   split at h
   · rename_i hc
     simp only [Bool.and_eq_true] at hc
     split at h
     · rename_i L'' h2
       injection h with h; subst h
       exact ⟨rfl, hc.1, frzBC_ok hc.2, rfl, finM_ok h2⟩
     · cases h
   · cases h
def resListM (P : Program) (ks : List (Nat × RowC)) (s : AS) : List ResultVar → Option (List AV)
 | [] => some []
 | v :: vs =>
   if (resA P s v).pre then
    if frzB ks s.rows (resA P s v).y.av then
     match resListM P ks s vs with
     | some rs => some (frz1 ks s.rows (resA P s v).y.av :: rs)
     | none => none
    else none
   else none
theorem resListM_ok {P : Program} {ks : List (Nat × RowC)} {s : AS} : ∀ {vs : List ResultVar} {rs : List AV}, resListM P ks s vs = some rs → resM P ks s vs rs
 | [], rs, h => by injection h with h; exact h.symm
 | v :: vs, rs, h => by
   unfold resListM at h
   split at h
   · rename_i hp
     split at h
     · rename_i hs
       split at h
       · rename_i rs' hr
         injection h with h; subst h
         exact ⟨hp, frzB_ok hs, rs', rfl, resListM_ok hr⟩
       · cases h
     · cases h
   · cases h
def rowsOf : List (Nat × RowC) → List (Nat × Row)
 | [] => []
 | (k, c) :: L => (k, ⟨0, c⟩) :: rowsOf L
def callM (P : Program) (ex : Code → CS → Option Outs) (fn : Func) (c : Code) (L : List (Nat × RowC)) (args : List AV) : Option (List (Nat × RowC) × AV) :=
 if args.length ≤ fn.ntmps && pinned L then
  match ex c ⟨fn.ntmps, args, rowsOf L⟩ with
  | some [(e, t)] =>
    if isEnd e then
     match finM L t.as.rows L, resListM P L t.as fn.results.toList with
     | some L', some rs => some (L', resMV rs)
     | _, _ => none
    else none
  | _ => none
 else none
def putRows (s : CS) (L' : List (Nat × RowC)) (ver : Nat → Nat) (ρ : List (Nat × Nat)) : List (Nat × Nat) → CS
 | [] => s
 | (pk, ck) :: l => putRows (s.row ck ⟨ver ck, backC ρ ver (lookc L' pk)⟩) L' ver ρ l
def callC (P : Program) (fs : List (FuncId × Nat)) (ex : Code → CS → Option Outs) : Caller := fun D s d f xs =>
 match callee? f with
 | none => none
 | some (F, cs) =>
   match modeOf fs F, P.funcs[F]? with
   | some m, some fn =>
     match fn.body with
     | none => none
     | some c =>
       if m == 1 && !D then
        match d with
        | some dd =>
          if snapBL s.as.rows (xs ++ cs) && decide (dd < 1000) then
           match callO P ex fn c (snapVL s.as.rows (xs ++ cs)) with
           | some (t, sz, es, m) => some ((s.row dd ⟨(s.as.rows dd).ver + 1, .arr t sz es⟩).put d (.os dd ((s.as.rows dd).ver + 1) sz 0 m))
           | none => none
          else none
        | none => none
       else if m == 2 && !D then
        let ρ := mkRho (keysB s.as.rows (keysL (xs ++ cs))) 1000
        match lendL ρ s.as.ver (xs ++ cs), lendRows ρ s.as ρ with
        | some args, some L =>
          match callM P ex fn c L args with
          | some (L', r) => if apart ρ && sameKeys ρ L' then some ((putRows s L' s.as.ver ρ ρ).put d (backA ρ s.as.ver r)) else none
          | none => none
        | _, _ => none
       else if snapBL s.as.rows (xs ++ cs) then
        match callA P ex fn c (snapVL s.as.rows (xs ++ cs)) with
        | some r => if r.flatB || AV.pureL (xs ++ cs) then some (s.put d (.r r)) else none
        | none => none
       else none
   | _, _ => none
mutual
def RV.dl : RV → RV → Bool
 | .ns, .sl _ [] => true
 | .sl s es, .sl t fs => s == t && RV.dlE es fs
 | .ag xs, .ag ys => RV.dlL xs ys
 | .rp xs, .rp ys => RV.dlL xs ys
 | .fn f xs, .fn g ys => f == g && RV.dlL xs ys
 | .it .i64 n, .it .i64 m => n == m
 | .bo a, .bo b => a == b
 | .ns, .ns => true
 | .np, .np => true
 | .nf, .nf => true
 | _, _ => false
def RV.dlL : List RV → List RV → Bool
 | [], [] => true
 | x :: xs, y :: ys => RV.dl x y && RV.dlL xs ys
 | _, _ => false
def RV.dlE : List (List RV) → List (List RV) → Bool
 | [], [] => true
 | x :: xs, y :: ys => RV.dlL x y && RV.dlE xs ys
 | _, _ => false
end
theorem dlL_len : ∀ {xs ys : List RV}, RV.dlL xs ys = true → xs.length = ys.length
 | [], [], _ => rfl
 | x :: xs, y :: ys, h => by
   simp only [RV.dlL, Bool.and_eq_true] at h
   simp [dlL_len h.2]
 | [], _ :: _, h => by simp [RV.dlL] at h
 | _ :: _, [], h => by simp [RV.dlL] at h
theorem dlE_len : ∀ {xs ys : List (List RV)}, RV.dlE xs ys = true → xs.length = ys.length
 | [], [], _ => rfl
 | x :: xs, y :: ys, h => by
   simp only [RV.dlE, Bool.and_eq_true] at h
   simp [dlE_len h.2]
 | [], _ :: _, h => by simp [RV.dlE] at h
 | _ :: _, [], h => by simp [RV.dlE] at h
section
variable {w : World} {R : Nat → Prop}
mutual
theorem dl_rel : ∀ (x y : RV) (v : Value), RV.dl x y = true → x.rel w R v → y.rel w R v
 | .ns, .sl sz [], v, _, h => by
   simp only [RV.rel] at h ⊢
   obtain ⟨A, rfl⟩ := h
   exact ⟨A, 0, rfl, Nat.le_refl _, Nat.zero_le _, fun h => absurd rfl h⟩
 | .sl s es, .sl t fs, v, hd, h => by
   simp only [RV.dl, Bool.and_eq_true, beq_iff_eq] at hd
   obtain ⟨rfl, hd⟩ := hd
   have hl := dlE_len hd
   simp only [RV.rel] at h ⊢
   obtain ⟨A, c, hv, h1, h2, h3⟩ := h
   refine ⟨A, c, by rw [← hl]; exact hv, by rw [← hl]; exact h1, h2, fun hne => ?_⟩
   obtain ⟨ad, e, hr, hc⟩ := h3 (fun e => hne (by rw [e] at hl; exact List.eq_nil_of_length_eq_zero hl.symm))
   exact ⟨ad, e, hr, dl_relE s es fs ad 0 hd hc⟩
 | .ag xs, .ag ys, v, hd, h => by
   simp only [RV.dl] at hd
   simp only [RV.rel] at h ⊢
   obtain ⟨vs, e, h1, hV⟩ := h
   exact ⟨vs, e, h1, dl_relV xs ys _ hd hV⟩
 | .rp xs, .rp ys, v, hd, h => by
   simp only [RV.dl] at hd
   simp only [RV.rel] at h ⊢
   obtain ⟨ad, e, hR, hC⟩ := h
   exact ⟨ad, e, hR, dl_relC xs ys _ _ hd hC⟩
 | .fn f xs, .fn g ys, v, hd, h => by
   simp only [RV.dl, Bool.and_eq_true, beq_iff_eq] at hd
   simp only [RV.rel] at h ⊢
   obtain ⟨vs, e, hV⟩ := h
   exact ⟨vs, by rw [← hd.1]; exact e, dl_relV xs ys _ hd.2 hV⟩
 | .it .i64 n, .it .i64 m, v, hd, h => by
   simp only [RV.dl, beq_iff_eq] at hd
   subst hd; exact h
 | .bo a, .bo b, v, hd, h => by
   simp only [RV.dl, beq_iff_eq] at hd
   subst hd; exact h
 | .ns, .ns, _, _, h => h
 | .np, .np, _, _, h => h
 | .nf, .nf, _, _, h => h
theorem dl_relV : ∀ (xs ys : List RV) (vs : List Value), RV.dlL xs ys = true → RV.relV w R xs vs → RV.relV w R ys vs
 | [], [], _, _, h => h
 | x :: xs, y :: ys, vs, hle, h => by
   simp only [RV.dlL, Bool.and_eq_true] at hle
   simp only [RV.relV] at h ⊢
   obtain ⟨u, us, e, h1, h2⟩ := h
   exact ⟨u, us, e, dl_rel x y u hle.1 h1, dl_relV xs ys us hle.2 h2⟩
 | [], _ :: _, _, hle, _ => by simp [RV.dlL] at hle
 | _ :: _, [], _, hle, _ => by simp [RV.dlL] at hle
theorem dl_relC : ∀ (xs ys : List RV) (ad : Addr) (j : Nat), RV.dlL xs ys = true → RV.relC w R xs ad j → RV.relC w R ys ad j
 | [], [], _, _, _, h => h
 | x :: xs, y :: ys, ad, j, hle, h => by
   simp only [RV.dlL, Bool.and_eq_true] at hle
   simp only [RV.relC] at h ⊢
   obtain ⟨⟨u, hu, ho, h1⟩, h2⟩ := h
   exact ⟨⟨u, hu, ho, dl_rel x y u hle.1 h1⟩, dl_relC xs ys ad (j + 1) hle.2 h2⟩
 | [], _ :: _, _, _, hle, _ => by simp [RV.dlL] at hle
 | _ :: _, [], _, _, hle, _ => by simp [RV.dlL] at hle
theorem dl_relE : ∀ (sz : Nat) (xs ys : List (List RV)) (ad : Addr) (j : Nat), RV.dlE xs ys = true → RV.relE w R sz xs ad j → RV.relE w R sz ys ad j
 | _, [], [], _, _, _, h => h
 | sz, x :: xs, y :: ys, ad, j, hle, h => by
   simp only [RV.dlE, Bool.and_eq_true] at hle
   simp only [RV.relE] at h ⊢
   exact ⟨by rw [← dlL_len hle.1]; exact h.1, dl_relC x y ad j hle.1 h.2.1, dl_relE sz xs ys ad (j + sz) hle.2 h.2.2⟩
 | _, [], _ :: _, _, _, hle, _ => by simp [RV.dlE] at hle
 | _, _ :: _, [], _, _, hle, _ => by simp [RV.dlE] at hle
end
end
theorem acalls_dl {P : Program} {f : FuncId} {xs ys : List RV} {r : RV} (h : ACalls P f ys r) (hd : RV.dlL xs ys = true) : ACalls P f xs r :=
 ⟨h.1, fun w R vs hR hv => h.2 w R vs hR (dl_relV xs ys _ hd hv)⟩
abbrev Orc := List (FuncId × List RV × RV)
def orcGet : Orc → FuncId → List RV → Option RV
 | [], _, _ => none
 | (g, ys, r) :: l, f, xs => if f == g && RV.dlL xs ys then some r else orcGet l f xs
def orcOk (P : Program) : Orc → Prop
 | [] => True
 | (g, ys, r) :: l => ACalls P g ys r ∧ orcOk P l
theorem orcGet_ok {P : Program} : ∀ {l : Orc} {f : FuncId} {xs : List RV} {r : RV}, orcOk P l → orcGet l f xs = some r → ACalls P f xs r
 | [], _, _, _, _, h => by simp [orcGet] at h
 | (g, ys, r') :: l, f, xs, r, ho, h => by
   unfold orcGet at h
   split at h
   · rename_i hc
     simp only [Bool.and_eq_true, beq_iff_eq] at hc
     injection h with h; subst h
     rw [hc.1]
     exact acalls_dl ho.1 hc.2
   · exact orcGet_ok ho.2 h
def callR (orc : Orc) : Caller := fun _ s d f xs =>
 match callee? f with
 | none => none
 | some (F, cs) =>
   if snapBL s.as.rows (xs ++ cs) then
    match orcGet orc F (snapVL s.as.rows (xs ++ cs)) with
    | some r => if r.flatB || AV.pureL (xs ++ cs) then some (s.put d (.r r)) else none
    | none => none
   else none
def callX (P : Program) (fs : List (FuncId × Nat)) (orc : Orc) (ex : Code → CS → Option Outs) : Caller := fun D s d f xs =>
 match callC P fs ex D s d f xs with
 | some t => some t
 | none => callR orc D s d f xs
def norm : List CS → Outs
 | [] => []
 | t :: l => (.normal, t) :: norm l
def leave (id : Nat) : Exit → Exit
 | .exit id' => if id' = id then .normal else .exit id'
 | e => e
def blk (id : Nat) : Outs → Outs
 | [] => []
 | (e, t) :: l => (leave id e, t) :: blk id l
def killOps : List Oper → CS → CS
 | [], s => s
 | o :: l, s => if cls o == 2 && decide (o.dst.getD 0 < 1000) then killOps l (s.row (o.dst.getD 0) ⟨(rowAt s.rows (o.dst.getD 0)).ver + 1, .dead⟩) else killOps l s
def killD (D : Bool) (l : List Oper) (s : CS) : CS := match D with | true => killOps l s | false => s
def slots : List Operand → List Nat
 | [] => []
 | .tmp t :: l => t :: slots l
 | _ :: l => slots l
def kappa (ops : Array Oper) (s : CS) : List Oper → List (Nat × Option Nat)
 | [] => []
 | o :: l => (slots o.op.operands.toList).map (fun t => (t, keyOf (nth s.tm t))) ++ kappa ops s l
def drawOk (D : Bool) (ops : Array Oper) (s : CS) : Bool := !D || lexOk ops || lexOk2 ops (kappa ops s ops.toList)
def exec (P : Program) (fs : List (FuncId × Nat)) (orc : Orc) : Nat → Code → CS → Option Outs
 | 0, _, _ => none
 | k + 1, .region _ ops D, s => if drawOk D ops (killD D ops.toList s) then match runOps P (callX P fs orc (exec P fs orc k)) D ops ops.toList (killD D ops.toList s) with | some L => some (norm L) | none => none else none
 | k + 1, .seq a b, s => bindL (exec P fs orc k a s) fun x => match x.1 with | .normal => exec P fs orc k b x.2 | e => some [(e, x.2)]
 | k + 1, .loop c, s => bindL (exec P fs orc k c s) fun x => match x.1 with | .normal => exec P fs orc k (.loop c) x.2 | e => some [(e, x.2)]
 | k + 1, .cond c a b, s => match s.as.ev c with | .r (.bo t) => bif t then exec P fs orc k a s else exec P fs orc k b s | _ => none
 | k + 1, .block id c, s => match exec P fs orc k c s with | some L => some (blk id L) | none => none
 | _ + 1, .skip, s => some [(.normal, s)]
 | _ + 1, .label _, s => some [(.normal, s)]
 | _ + 1, .exit id, s => some [(.exit id, s)]
 | _ + 1, .ret, s => some [(.ret, s)]
 | _ + 1, _, _ => none
def evalX (P : Program) (fs : List (FuncId × Nat)) (orc : Orc) (k : Nat) (F : FuncId) (args : List RV) : Option RV :=
 match P.funcs[F]? with
 | some fn => match fn.body with
   | some c => callA P (exec P fs orc k) fn c args
   | none => none
 | none => none
def evalA (P : Program) (fs : List (FuncId × Nat)) (k : Nat) (F : FuncId) (args : List RV) : Option RV := evalX P fs [] k F args
end Go.Oc

namespace Go.Oc
open Go Go.RowKit
section
variable {P : Program}
theorem norm_mem : ∀ {L : List CS} {t : CS}, t ∈ L → (Exit.normal, t) ∈ norm L
 | [], _, h => by simp at h
 | x :: l, t, h => by
   rcases List.mem_cons.1 h with rfl | h
   · simp [norm]
   · simp [norm, norm_mem h]
theorem blk_mem {id : Nat} : ∀ {L : Outs} {e : Exit} {t : CS}, (e, t) ∈ L → (leave id e, t) ∈ blk id L
 | [], _, _, h => by simp at h
 | (e', t') :: l, e, t, h => by
   rcases List.mem_cons.1 h with h | h
   · injection h with h1 h2; subst h1 h2; simp [blk]
   · simp [blk, blk_mem h]
theorem nth_look : ∀ (xs : List AV) (k t : Nat), look (argA k xs) (k + t) = nth xs t
 | [], _, _ => by simp [argA, look_nil, nth]
 | x :: xs, k, 0 => by simp [argA, look_cons, nth]
 | x :: xs, k, t + 1 => by
   have := nth_look xs (k + 1) t
   rw [show k + 1 + t = k + (t + 1) from by omega] at this
   simp only [argA, look_cons, nth, this]
   rw [if_neg (by omega)]
theorem argL_A : ∀ (xs : List RV) (k : Nat), argL k xs = argA k (xs.map .r)
 | [], _ => rfl
 | x :: xs, k => by simp only [argL, argA, List.map_cons, argL_A xs]
theorem rowsOf_at : ∀ (L : List (Nat × RowC)) (k : Nat), rowAt (rowsOf L) k = ⟨0, lookc L k⟩
 | [], _ => rfl
 | (j, c) :: L, k => by
   simp only [rowsOf, rowAt, lookc_cons, rowsOf_at L k]
   split <;> rfl
theorem start_as {n : Nat} {xs : List AV} {L : List (Nat × RowC)} : (CS.mk n xs (rowsOf L)).as = st n (argA 0 xs) (fun _ => 0) L := by
 simp only [CS.as, st, AS.mk.injEq, true_and]
 refine ⟨?_, funext fun k => rowsOf_at L k⟩
 funext t
 have := nth_look xs 0 t
 rw [Nat.zero_add] at this
 exact this.symm
theorem start_as0 {n : Nat} {xs : List RV} : (CS.mk n (xs.map .r) []).as = st n (argL 0 xs) (fun _ => 0) [] := by
 rw [argL_A]
 exact start_as (L := [])
theorem as_putRows {L' : List (Nat × RowC)} {ver : Nat → Nat} {ρ : List (Nat × Nat)} : ∀ (l : List (Nat × Nat)) (s : CS), (putRows s L' ver ρ l).as = { s.as with rows := backRows ρ ver L' l s.as.rows }
 | [], s => rfl
 | (pk, ck) :: l, s => by
   simp only [putRows, as_putRows l, as_row, backRows]
   rfl
theorem putRows_num {L' : List (Nat × RowC)} {ver : Nat → Nat} {ρ : List (Nat × Nat)} : ∀ (l : List (Nat × Nat)) (s : CS), (putRows s L' ver ρ l).n = s.n
 | [], s => rfl
 | (pk, ck) :: l, s => by simp only [putRows, putRows_num l]; rfl
theorem killOps_sub : ∀ (l : List Oper) (s : CS), Sub s.as (killOps l s).as ∧ (killOps l s).n = s.n
 | [], s => ⟨Sub.refl _, rfl⟩
 | o :: l, s => by
   unfold killOps
   split
   · rename_i h
     simp only [Bool.and_eq_true, decide_eq_true_eq] at h
     obtain ⟨h1, h2⟩ := killOps_sub l (s.row (o.dst.getD 0) ⟨(rowAt s.rows (o.dst.getD 0)).ver + 1, .dead⟩)
     refine ⟨Sub.trans ?_ h1, h2⟩
     rw [as_row]
     exact sub_kill s.as (o.dst.getD 0) h.2
   · exact killOps_sub l s
theorem killD_sub (D : Bool) (l : List Oper) (s : CS) : Sub s.as (killD D l s).as ∧ (killD D l s).n = s.n := by
 cases D with
 | true => exact killOps_sub l s
 | false => exact ⟨Sub.refl _, rfl⟩
def Good (P : Program) (ex : Code → CS → Option Outs) : Prop := ∀ c t L, codeOk t.n c = true → ex c t = some L → (∀ x ∈ L, x.2.n = t.n) ∧ ∀ C Q, (∀ x ∈ L, Q x.1 x.2.as) → awp P C c Q t.as
theorem callA_ok {ex : Code → CS → Option Outs} (hex : Good P ex) {F : FuncId} {fn : Func} {c : Code} {args : List RV} {r : RV} (hF : P.funcs[F]? = some fn) (hb : fn.body = some c) (hok : fnOk P F = true) (h : callA P ex fn c args = some r) : ACalls P F args r := by
 unfold fnOk at hok
 simp only [hF, hb, Bool.and_eq_true] at hok
 unfold callA at h
 split at h
 · rename_i hlen
   split at h
   · rename_i L hL
     split at h
     · rename_i rs hrs
       injection h with h
       have hag := agree_ok hrs
       refine acalls_of hF hb hok.2 rfl hlen h fun C => awp_sub (sub_look (argL 0 args) fun p hp => ?_) ?_
       · obtain ⟨i, x, rfl, e⟩ := argL_mem p hp
         simp only [argTm, Nat.zero_add, e]
       · have := ((hex c _ L hok.1 hL).2 C (fpost P fn rs) fun x hx => ?_)
         · rw [start_as0] at this
           exact this
         · have := hag x hx
           obtain ⟨e, t⟩ := x
           cases e <;> exact this
     · cases h
   · cases h
 · cases h
theorem callO_ok {ex : Code → CS → Option Outs} (hex : Good P ex) {F : FuncId} {fn : Func} {c : Code} {args : List RV} {ty sz m : Nat} {es : List (List RV)} (hF : P.funcs[F]? = some fn) (hb : fn.body = some c) (hok : fnOk P F = true)
 (h : callO P ex fn c args = some (ty, sz, es, m)) : OCalls P F args ty sz es m := by
 unfold fnOk at hok
 simp only [hF, hb, Bool.and_eq_true] at hok
 unfold callO at h
 split at h
 · rename_i hlen
   split at h
   · rename_i rv e t hres hL
     split at h
     · rename_i he
       split at h
       · rename_i hp
         split at h
         · rename_i j n sz1 off m1 hav
           split at h
           · rename_i n' ty1 sz' es1 hrow
             split at h
             · rename_i hc
               simp only [Bool.and_eq_true, beq_iff_eq, List.all_eq_true] at hc
               obtain ⟨⟨⟨h1, h2⟩, h3⟩, h4⟩ := hc
               subst h1 h2 h3
               injection h with h
               simp only [Prod.mk.injEq] at h
               obtain ⟨rfl, rfl, rfl, rfl⟩ := h
               refine ocalls_0 rv hF hb hok.2 rfl hres hlen h4 fun C => ?_
               have := ((hex c _ _ hok.1 hL).2 C (opostL P rv ty1 sz1 es1 m1) fun x hx => ?_)
               · rw [start_as0] at this
                 exact this
               · simp only [List.mem_singleton] at hx
                 subst hx
                 have key : resC (resA P t.as rv) fun v => ∃ j n, v = .os j n sz1 0 m1 ∧ t.as.rows j = ⟨n, .arr ty1 sz1 es1⟩ := ⟨hp, j, n, hav, hrow⟩
                 cases e <;> first | exact key | cases he
             · cases h
           · cases h
         · cases h
       · cases h
     · cases h
   · cases h
 · cases h
theorem callM_ok {ex : Code → CS → Option Outs} (hex : Good P ex) {F : FuncId} {fn : Func} {c : Code} {L L' : List (Nat × RowC)} {args : List AV} {r : AV} (hF : P.funcs[F]? = some fn) (hb : fn.body = some c) (hok : fnOk P F = true)
 (h : callM P ex fn c L args = some (L', r)) : MCalls P F L L' args r := by
 unfold fnOk at hok
 simp only [hF, hb, Bool.and_eq_true] at hok
 unfold callM at h
 split at h
 · rename_i hlen
   simp only [Bool.and_eq_true, decide_eq_true_eq] at hlen
   split at h
   · rename_i e t hL
     split at h
     · rename_i he
       split at h
       · rename_i L1 rs hfin hres
         injection h with h
         simp only [Prod.mk.injEq] at h
         obtain ⟨rfl, rfl⟩ := h
         refine mcalls_st (rs := rs) L L1 fn.results.toList hF hb hok.2 rfl rfl hlen.1 rfl hlen.2 fun C => ?_
         have := ((hex c _ _ hok.1 hL).2 C (mpostL P fn.results.toList rs L L1) fun x hx => ?_)
         · rw [start_as] at this
           exact this
         · simp only [List.mem_singleton] at hx
           subst hx
           have key : resM P L t.as fn.results.toList rs ∧ mfin L t.as.rows L L1 := ⟨resListM_ok hres, finM_ok hfin⟩
           cases e <;> first | exact key | cases he
       · cases h
     · cases h
   · cases h
 · cases h
theorem callC_ok {fs : List (FuncId × Nat)} (hfs : allOk P fs = true) {ex : Code → CS → Option Outs} (hex : Good P ex) : (callC P fs ex).ok P := fun D s d f xs t h => by
 unfold callC at h
 split at h
 · cases h
 · rename_i F cs hcal
   split at h
   · rename_i m fn hm hF
     have hok := allOk_get hfs hm
     split at h
     · cases h
     · rename_i c hb
       split at h
       · rename_i hmode
         simp only [Bool.and_eq_true, beq_iff_eq, Bool.not_eq_true'] at hmode
         split at h
         · rename_i dd
           split at h
           · rename_i hsn
             simp only [Bool.and_eq_true, decide_eq_true_eq] at hsn
             split at h
             · rename_i ty sz es m' hO
               injection h with h; subst h
               refine ⟨put_num _ _ _, fun K hK => .inr ⟨hmode.2, .inr ⟨F, cs, _, ty, sz, es, m', dd, hcal, snapBL_ok _ hsn.1, leL_refl _, callO_ok hex hF hb hok hO, rfl, hsn.2, ?_⟩⟩⟩
               rw [as_put, as_row] at hK
               exact hK
             · cases h
           · cases h
         · cases h
       · split at h
         · rename_i hmode
           simp only [Bool.and_eq_true, beq_iff_eq, Bool.not_eq_true'] at hmode
           dsimp only at h
           split at h
           · rename_i args L hargs hL
             split at h
             · rename_i L' r hM
               split at h
               · rename_i hap
                 simp only [Bool.and_eq_true] at hap
                 injection h with h; subst h
                 refine ⟨(put_num _ _ _).trans (putRows_num _ _), fun K hK => .inr ⟨hmode.2, .inl ⟨F, cs, _, L, L', args, r, hcal, hargs, lendRows_ok hL, hap.1, hap.2, callM_ok hex hF hb hok hM, ?_⟩⟩⟩
                 rw [as_put, as_putRows] at hK
                 exact hK
               · cases h
             · cases h
           · cases h
         · split at h
           · rename_i hsn
             split at h
             · rename_i r hA
               split at h
               · rename_i hfl
                 simp only [Bool.or_eq_true] at hfl
                 injection h with h; subst h
                 refine ⟨put_num _ _ _, fun K hK => .inl ⟨r, ⟨F, cs, _, hcal, snapBL_ok _ hsn, leL_refl _, callA_ok hex hF hb hok hA, hfl⟩, ?_⟩⟩
                 rw [as_put] at hK
                 exact hK
               · cases h
             · cases h
           · cases h
   · cases h
theorem callR_ok {orc : Orc} (ho : orcOk P orc) : (callR orc).ok P := fun D s d f xs t h => by
 unfold callR at h
 split at h
 · cases h
 · rename_i F cs hcal
   split at h
   · rename_i hsn
     split at h
     · rename_i r hA
       split at h
       · rename_i hfl
         simp only [Bool.or_eq_true] at hfl
         injection h with h; subst h
         refine ⟨put_num _ _ _, fun K hK => .inl ⟨r, ⟨F, cs, _, hcal, snapBL_ok _ hsn, leL_refl _, orcGet_ok ho hA, hfl⟩, ?_⟩⟩
         rw [as_put] at hK
         exact hK
       · cases h
     · cases h
   · cases h
theorem callX_ok {fs : List (FuncId × Nat)} (hfs : allOk P fs = true) {orc : Orc} (ho : orcOk P orc) {ex : Code → CS → Option Outs} (hex : Good P ex) : (callX P fs orc ex).ok P := fun D s d f xs t h => by
 unfold callX at h
 split at h
 · rename_i t' e
   injection h with h; subst h
   exact callC_ok hfs hex D s d f xs _ e
 · exact callR_ok ho D s d f xs t h
theorem bindL_mem {α β : Type} {x : Option (List α)} {f : α → Option (List β)} {zs : List β} (h : bindL x f = some zs) {z : β} (hz : z ∈ zs) : ∃ l, x = some l ∧ ∃ a ∈ l, ∃ ys, f a = some ys ∧ z ∈ ys := by
 unfold bindL at h
 split at h
 · cases h
 · rename_i l
   refine ⟨l, rfl, ?_⟩
   induction l generalizing zs with
   | nil => injection h with h; subst h; simp at hz
   | cons b l ih =>
     unfold bindL.go at h
     split at h
     · cases h
     · rename_i ys hys
       split at h
       · cases h
       · rename_i ws hws
         injection h with h; subst h
         rcases List.mem_append.1 hz with hz | hz
         · exact ⟨b, by simp, ys, hys, hz⟩
         · obtain ⟨a, ha, y2, h1, h2⟩ := ih hz hws
           exact ⟨a, by simp [ha], y2, h1, h2⟩
theorem runOps_num {call : Caller} (hcall : call.ok P) {D : Bool} {ops : Array Oper} : ∀ (l : List Oper) {s : CS} {L : List CS}, runOps P call D ops l s = some L → ∀ t ∈ L, t.n = s.n
 | [], s, L, h => by
   unfold runOps at h
   injection h with h; subst h
   intro t ht
   simp only [List.mem_singleton] at ht; rw [ht]
 | o :: l, s, L, h => by
   have go : bindL (opC P call D o s) (runOps P call D ops l) = some L → ∀ t ∈ L, t.n = s.n := fun h t ht => by
    obtain ⟨l1, h1, a, ha, ys, h2, h3⟩ := bindL_mem h ht
    rw [runOps_num hcall l h2 t h3, (opC_ok hcall h1 (K := fun _ => True) fun _ _ => trivial).2 a ha]
   have sk : runOps P call D ops l (s.put o.dst (.r .ud)) = some L → ∀ t ∈ L, t.n = s.n := fun h t ht => by
    rw [runOps_num hcall l h t ht, put_num]
   unfold runOps at h
   split at h
   · exact go h
   · split at h
     · exact sk h
     · split at h
       · split at h
         · exact go h
         · exact sk h
       · exact sk h
       · cases h
theorem norm_mem' : ∀ {L : List CS} {x : Exit × CS}, x ∈ norm L → x.1 = .normal ∧ x.2 ∈ L
 | [], _, h => by simp [norm] at h
 | t :: l, x, h => by
   simp only [norm, List.mem_cons] at h
   rcases h with rfl | h
   · exact ⟨rfl, by simp⟩
   · have := norm_mem' h
     exact ⟨this.1, by simp [this.2]⟩
theorem blk_mem' {id : Nat} : ∀ {L : Outs} {x : Exit × CS}, x ∈ blk id L → ∃ e, (e, x.2) ∈ L
 | [], _, h => by simp [blk] at h
 | (e', t') :: l, x, h => by
   simp only [blk, List.mem_cons] at h
   rcases h with rfl | h
   · exact ⟨e', by simp⟩
   · obtain ⟨e, he⟩ := blk_mem' h
     exact ⟨e, by simp [he]⟩
theorem kappa_ok {ops : Array Oper} {s : CS} : ∀ l : List Oper, keysOk (kappa ops s l) s.as
 | [] => fun p hp => by simp [kappa] at hp
 | o :: l => fun p hp => by
   simp only [kappa, List.mem_append, List.mem_map] at hp
   rcases hp with ⟨t, _, rfl⟩ | hp
   · rfl
   · exact kappa_ok l p hp
theorem exec_ok (hm : P.follows .mixedOrders = true) {fs : List (FuncId × Nat)} (hfs : allOk P fs = true) {orc : Orc} (ho : orcOk P orc) : ∀ k, Good P (exec P fs orc k) := by
 intro k
 induction k using Nat.strongRecOn with
 | _ k ih =>
   cases k with
   | zero => intro c t L _ h; cases c <;> simp [exec] at h
   | succ k =>
     intro c t L hok h
     cases c with
     | skip => simp only [exec, Option.some.injEq] at h; subst h; exact ⟨by simp, fun C Q hQ => awp_skip (hQ _ (List.mem_singleton.2 rfl))⟩
     | label l => simp only [exec, Option.some.injEq] at h; subst h; exact ⟨by simp, fun C Q hQ => awp_label (hQ _ (List.mem_singleton.2 rfl))⟩
     | exit id => simp only [exec, Option.some.injEq] at h; subst h; exact ⟨by simp, fun C Q hQ => awp_exit (hQ _ (List.mem_singleton.2 rfl))⟩
     | ret => simp only [exec, Option.some.injEq] at h; subst h; exact ⟨by simp, fun C Q hQ => awp_ret (hQ _ (List.mem_singleton.2 rfl))⟩
     | region id ops D =>
       simp only [codeOk] at hok
       simp only [exec] at h
       split at h
       · rename_i hdr
         split at h
         · rename_i L' hL
           injection h with h; subst h
           have hcall := callX_ok hfs ho (ih k (Nat.lt_succ_self k))
           have hk := killD_sub D ops.toList t
           refine ⟨fun x hx => (runOps_num hcall _ hL _ (norm_mem' hx).2).trans hk.2, fun C Q hQ => awp_sub hk.1 ?_⟩
           have := runOps_ok hcall (K := Q .normal) _ hL fun t ht _ => hQ _ (norm_mem ht)
           have hd : dstOk ops.toList.toArray (killD D ops.toList t).as.n = true := by rw [show (killD D ops.toList t).as.n = t.n from hk.2]; exact hok
           cases D with
           | false => exact awp_region (l := ops.toList) hd this
           | true =>
             simp only [drawOk, Bool.not_true, Bool.false_or, Bool.or_eq_true] at hdr
             rcases hdr with hlex | hlex
             · exact awp_draw (l := ops.toList) hm hlex hd this
             · exact awp_draw2 (l := ops.toList) hm hlex hd (kappa_ok _) this
         · cases h
       · cases h
     | seq a b =>
       simp only [codeOk, Bool.and_eq_true] at hok
       simp only [exec] at h
       obtain ⟨l1, h1, h2⟩ := bindL_spec h
       have ga := ih k (Nat.lt_succ_self k) a t l1 hok.1 h1
       refine ⟨fun x hx => ?_, fun C Q hQ => ?_⟩
       · obtain ⟨l1', h1', y, hy, ys, h3, h4⟩ := bindL_mem h hx
         rw [h1] at h1'; injection h1' with h1'; subst h1'
         have hn := ga.1 y hy
         obtain ⟨e, u⟩ := y
         cases e <;> first
          | (have := (ih k (Nat.lt_succ_self k) b u ys (by rw [hn]; exact hok.2) h3).1 x h4; rw [this]; exact hn)
          | (simp only [Option.some.injEq] at h3; subst h3; simp only [List.mem_singleton] at h4; rw [h4]; exact hn)
       · refine awp_seq (ga.2 C _ fun x hx => ?_)
         obtain ⟨ys, h3, h4⟩ := h2 x hx
         have hn := ga.1 x hx
         obtain ⟨e, u⟩ := x
         cases e <;> first
          | exact (ih k (Nat.lt_succ_self k) b u ys (by rw [hn]; exact hok.2) h3).2 C Q fun x hx => hQ x (h4 x hx)
          | (simp only [Option.some.injEq] at h3; subst h3; exact hQ _ (h4 _ (by simp)))
     | cond c a b =>
       simp only [codeOk, Bool.and_eq_true] at hok
       simp only [exec] at h
       split at h
       · rename_i tt hc
         cases tt with
         | true =>
           have g := ih k (Nat.lt_succ_self k) a t L hok.1 h
           exact ⟨g.1, fun C Q hQ => awp_cond hc (fun _ => g.2 C Q hQ) (fun e => by cases e)⟩
         | false =>
           have g := ih k (Nat.lt_succ_self k) b t L hok.2 h
           exact ⟨g.1, fun C Q hQ => awp_cond hc (fun e => by cases e) (fun _ => g.2 C Q hQ)⟩
       · cases h
     | block id c =>
       simp only [codeOk] at hok
       simp only [exec] at h
       split at h
       · rename_i L' hL
         injection h with h; subst h
         have g := ih k (Nat.lt_succ_self k) c t L' hok hL
         refine ⟨fun x hx => ?_, fun C Q hQ => ?_⟩
         · obtain ⟨e, he⟩ := blk_mem' hx
           exact g.1 (e, x.2) he
         · refine awp_block (g.2 C _ fun x hx => ?_)
           obtain ⟨e, u⟩ := x
           have := hQ _ (blk_mem hx)
           cases e with
           | exit id' =>
             simp only [leave] at this
             simp only [inBlk]
             split <;> rename_i e <;> simp only [e, if_true, if_false] at this <;> exact this
           | _ => exact this
       · cases h
     | loop c =>
       simp only [codeOk] at hok
       have num : ∀ j, j ≤ k + 1 → ∀ (u : CS) (L' : Outs), u.n = t.n → exec P fs orc j (.loop c) u = some L' → ∀ x ∈ L', x.2.n = t.n := by
        intro j
        induction j with
        | zero => intro _ u L' _ hL; simp [exec] at hL
        | succ j ihj =>
          intro hj u L' hu hL x hx
          simp only [exec] at hL
          obtain ⟨l1, h1, y, hy, ys, h3, h4⟩ := bindL_mem hL hx
          have hn := (ih j (by omega) c u l1 (by rw [hu]; exact hok) h1).1 y hy
          obtain ⟨e, v⟩ := y
          cases e <;> first
           | exact ihj (by omega) v ys (by rw [← hu]; exact hn) h3 x h4
           | (simp only [Option.some.injEq] at h3; subst h3; simp only [List.mem_singleton] at h4; rw [h4, ← hu]; exact hn)
       refine ⟨num (k + 1) (Nat.le_refl _) t L rfl h, fun C Q hQ => ?_⟩
       refine awp_loop (fun j s => j ≤ k + 1 ∧ ∃ u L', s = u.as ∧ u.n = t.n ∧ exec P fs orc j (.loop c) u = some L' ∧ ∀ x ∈ L', Q x.1 x.2.as) (k + 1) ⟨Nat.le_refl _, t, L, rfl, rfl, h, hQ⟩ ?_
       rintro j s ⟨hj, u, L', rfl, hu, hL, hQ'⟩
       cases j with
       | zero => simp [exec] at hL
       | succ j =>
         simp only [exec] at hL
         obtain ⟨l1, h1, h2⟩ := bindL_spec hL
         have g := ih j (by omega) c u l1 (by rw [hu]; exact hok) h1
         refine g.2 C _ fun x hx => ?_
         obtain ⟨ys, h3, h4⟩ := h2 x hx
         have hn := g.1 x hx
         obtain ⟨e, v⟩ := x
         cases e <;> first
          | exact ⟨j, Nat.lt_succ_self j, by omega, v, ys, rfl, by rw [← hu]; exact hn, h3, fun x hx => hQ' x (h4 x hx)⟩
          | (simp only [Option.some.injEq] at h3; subst h3; exact hQ' _ (h4 _ (by simp)))
     | _ => simp [exec] at h
theorem evalX_ok (hm : P.follows .mixedOrders = true) {fs : List (FuncId × Nat)} (hfs : allOk P fs = true) {orc : Orc} (ho : orcOk P orc) {k : Nat} {F : FuncId} {args : List RV} {r : RV} (hF : fnOk P F = true) (h : evalX P fs orc k F args = some r) : ACalls P F args r := by
 unfold evalX at h
 split at h
 · rename_i fn hf
   split at h
   · rename_i c hb
     exact callA_ok (exec_ok hm hfs ho k) hf hb hF h
   · cases h
 · cases h
theorem evalA_ok (hm : P.follows .mixedOrders = true) {fs : List (FuncId × Nat)} (hfs : allOk P fs = true) {k : Nat} {F : FuncId} {args : List RV} {r : RV} (hF : fnOk P F = true) (h : evalA P fs k F args = some r) : ACalls P F args r :=
 evalX_ok hm hfs (orc := []) trivial hF h
end
end Go.Oc

namespace Go.Proofs.Ytgkejinoaommeaa
open Go Go.Oc
set_option linter.unusedSimpArgs false
set_option linter.unusedVariables false
set_option maxRecDepth 8000
def lawL : List Am := [⟨320, [⟨120, 4, 6⟩, ⟨205, 0, 1⟩, ⟨301, 1, 2⟩, ⟨320, 2, 4⟩]⟩, ⟨225, [⟨125, 6, 8⟩, ⟨225, 0, 9⟩]⟩]
def lawT : List Am := [⟨320, [⟨120, 4, 6⟩, ⟨205, 0, 1⟩, ⟨301, 1, 2⟩, ⟨320, 2, 4⟩]⟩, ⟨225, [⟨125, 6, 8⟩, ⟨225, 2, 4⟩]⟩]
theorem lawL_wf : WfL 10 lawL := by
 simp [WfL, WfA, Wf, lawL, I64]
theorem lawT_eq : lawL.map (tightA 10) = lawT := by kernel_rfl
theorem lawL_chk : checkV 10 lawL = 0 := by kernel_rfl
theorem lawL_spans : spansV 10 lawL = [(236, 343), (300, 350)] := by kernel_rfl
theorem lawL_pick : pickE 10 lawL 0 [20, 10, 3, 60] = 0 := by kernel_rfl
theorem lawL_truth : truthV 10 lawL 0 [20, 10, 3, 60] true = [5, 0, 1, 4] := by kernel_rfl
theorem lawL_is : bestL isP (spansV 10 lawL) = [] := by rw [lawL_spans]; kernel_rfl
theorem lawL_may : bestL mayP (spansV 10 lawL) = [0, 1] := by rw [lawL_spans]; kernel_rfl
def fitA : Am := ⟨320, [⟨0, 0, 0⟩, ⟨101, 0, 0⟩, ⟨105, 0, 0⟩, ⟨120, 0, 0⟩, ⟨320, 0, 0⟩]⟩
def fitB : Am := ⟨320, [⟨0, 0, 2⟩, ⟨101, 1, 1⟩, ⟨105, 0, 0⟩, ⟨120, 3, 6⟩, ⟨320, 2, 3⟩]⟩
def fitL : List Vi := [⟨[320, 120, 101], 0⟩, ⟨[], 100⟩, ⟨[], 60⟩]
theorem fitA_wf : WfA fitA := by simp [WfA, Wf, fitA, I64]
theorem fit_eq : fitV fitA fitL = (fitB, 9, 0, 0) := by kernel_rfl
theorem kTight : ACalls Try.prog 16 [lawV 10 lawL] (.tu [lawV 10 lawT, i64 0]) := by
 have := Tight_ok 10 lawL lawL_wf
 rw [lawL_chk, lawT_eq, if_pos rfl] at this
 exact this
theorem kScore : ACalls Try.prog 21 [lawV 10 lawL] (.tu [spansR [(236, 343), (300, 350)], i64 0]) := by
 have := Score_ok 10 lawL lawL_wf
 rw [lawL_chk, lawL_spans] at this
 exact this
theorem kTruth : ACalls Try.prog 40 [lawV 10 lawL, i64 0, ints [20, 10, 3, 60], .bo true] (.tu [ints [5, 0, 1, 4], i64 0]) := by
 have := Truth_ok 10 lawL 0 [20, 10, 3, 60] true lawL_wf
 rw [lawL_truth, lawL_pick] at this
 exact this
theorem kBest : ACalls Try.prog 22 [lawV 10 lawL] (.tu [ints [], ints [0, 1], i64 0]) := by
 have := Best_ok 10 lawL lawL_wf
 rw [lawL_chk, lawL_is, lawL_may] at this
 exact this
theorem kFit : ACalls Try.prog 28 [aimV fitA, visR fitL] (.tu [aimV fitB, i64 9, i64 0, i64 0]) := by
 have := fit_ok fitA fitL fitA_wf
 rw [fit_eq] at this
 exact this
def kOrc : Orc := [(16, [lawV 10 lawL], .tu [lawV 10 lawT, i64 0]), (21, [lawV 10 lawL], .tu [spansR [(236, 343), (300, 350)], i64 0]), (40, [lawV 10 lawL, i64 0, ints [20, 10, 3, 60], .bo true], .tu [ints [5, 0, 1, 4], i64 0]),
 (22, [lawV 10 lawL], .tu [ints [], ints [0, 1], i64 0]), (28, [aimV fitA, visR fitL], .tu [aimV fitB, i64 9, i64 0, i64 0])]
theorem kOrc_ok : orcOk Try.prog kOrc := ⟨kTight, kScore, kTruth, kBest, kFit, trivial⟩
def fsK : List (FuncId × Nat) := [(47, 0), (38, 0), (24, 0)]
theorem fsK_ok : allOk Try.prog fsK = true := by kernel_rfl
theorem known14_ok : ACalls Try.prog 14 [] (.bo true) := evalX_ok follows fsK_ok kOrc_ok (k := 200) (by kernel_rfl) (by kernel_rfl)
end Go.Proofs.Ytgkejinoaommeaa

namespace Go.Proofs.Ytgkejinoaommeaa
open Go Go.Oc
set_option linter.unusedSimpArgs false
set_option linter.unusedVariables false
set_option maxRecDepth 8000
instance : DecidableEq Bd := fun a b => decidable_of_iff (a.b = b.b ∧ a.lo = b.lo ∧ a.hi = b.hi) (by cases a; cases b; simp)
instance : DecidableEq Am := fun a b => decidable_of_iff (a.at_ = b.at_ ∧ a.beds = b.beds) (by cases a; cases b; simp)
theorem any_step {α : Type} {p : α → Bool} {l : List α} {k : Nat} {y : α} (hy : l[k]? = some y) : (l.take (k + 1)).any p = ((l.take k).any p || p y) := by rw [take_of_opt hy]; simp
theorem any_of {α : Type} {p : α → Bool} {l : List α} {k : Nat} {y : α} (hy : l[k]? = some y) (h : p y = true) : l.any p = true := List.any_eq_true.2 ⟨y, mem_of_opt hy, h⟩
def greatL (l : List Am) : Bool := decide (22 < l.length) || l.any fun a => decide (12 < a.beds.length)
theorem great_ok (d : Int) (l : List Am) : ACalls Try.prog 13 [lawV d l] (.bo (greatL l)) := by
 refine acalls_st (rs := [.bo (greatL l)]) [.tmp 2] Try.func13 rfl (by kernel_rfl) Try.ntmps13 rfl (by simp) rfl fun C vs => ?_
 repeat refine awp_seq ?_
 refine awp_reg (by kernel_rfl) fun K hK => ?_
 simp only [go_sem]
 (try simp (disch := omega) only [wrapI])
 repeat first | intro _ | refine ⟨(by omega), ?_⟩ | refine ⟨⟨by omega, by omega⟩, ?_⟩
 refine hK _ ?_
 clear hK K
 refine awp_sub (sub_frzP 1 1 [i64 d, aimsR l] (by omega) rfl rfl) ?_
 refine awp_sub (sub_keep [1]) ?_
 simp only [go_sem]
 repeat refine awp_seq ?_
 refine awp_reg (by kernel_rfl) fun K hK => ?_
 simp only [go_sem]
 (try simp (disch := omega) only [wrapI])
 intro hl0
 repeat first | intro _ | refine ⟨(by omega), ?_⟩ | refine ⟨⟨by omega, by omega⟩, ?_⟩
 refine hK _ ?_
 clear hK K
 refine awp_sub (sub_keep [1, 7]) ?_
 simp only [go_sem]
 repeat refine awp_seq ?_
 refine awp_cond rfl (fun hc => ?_) (fun hc => ?_) <;> (try simp only [go_sem] at hc)
 · skip
   repeat refine awp_seq ?_
   refine awp_reg (by kernel_rfl) fun K hK => ?_
   simp only [go_sem]
   (try simp (disch := omega) only [wrapI])
   repeat first | intro _ | refine ⟨(by omega), ?_⟩ | refine ⟨⟨by omega, by omega⟩, ?_⟩
   refine hK _ ?_
   clear hK K
   refine awp_sub (sub_keep [2]) ?_
   simp only [go_sem]
   refine awp_ret ?_
   simp only [go_sem]
   have : 22 < l.length := by omega
   simp [greatL, this]
 · skip
   have hl : l.length ≤ 22 := by omega
   refine awp_skip ?_
   try simp only [go_sem]
   repeat refine awp_seq ?_
   refine awp_reg (by kernel_rfl) fun K hK => ?_
   simp only [go_sem]
   (try simp (disch := omega) only [wrapI])
   repeat first | intro _ | refine ⟨(by omega), ?_⟩ | refine ⟨⟨by omega, by omega⟩, ?_⟩
   refine hK _ ?_
   clear hK K
   refine awp_sub (sub_keep [1, 3]) ?_
   simp only [go_sem]
   repeat refine awp_seq ?_
   refine awp_block ?_
   refine awp_upto (n := 23) l.length (fun i vs => [(1, .r (.rp [i64 d, aimsR l])), (3, .r (i64 i))])
    (fun i => []) (fun i => (l.take i).any (fun a => decide (12 < a.beds.length)) = false) 0 (fit_of [] ?_ ?_) (Nat.zero_le _) rfl ?_
   · try simp only [go_sem]
   · try simp only [go_sem]
   · intro i vs hi hI
     repeat refine awp_seq ?_
     refine awp_reg (by kernel_rfl) fun K hK => ?_
     simp only [go_sem]
     (try simp (disch := omega) only [wrapI])
     repeat first | intro _ | refine ⟨(by omega), ?_⟩ | refine ⟨⟨by omega, by omega⟩, ?_⟩
     refine hK _ ?_
     clear hK K
     refine awp_sub (sub_keep [1, 3, 12]) ?_
     simp only [go_sem]
     repeat refine awp_seq ?_
     refine awp_cond rfl (fun hc => ?_) (fun hc => ?_) <;> (try simp only [go_sem] at hc)
     · skip
       have hci := hc
       obtain ⟨x, hx⟩ := opt_of_lt hc
       refine awp_skip ?_
       try simp only [go_sem]
       repeat refine awp_seq ?_
       refine awp_block ?_
       repeat refine awp_seq ?_
       refine awp_reg (by kernel_rfl) fun K hK => ?_
       simp only [go_sem, hx, hci, aimR]
       (try simp (disch := omega) only [wrapI])
       intro hl1
       repeat first | intro _ | refine ⟨(by omega), ?_⟩ | refine ⟨⟨by omega, by omega⟩, ?_⟩
       refine hK _ ?_
       clear hK K
       refine awp_sub (sub_keep [1, 3, 22]) ?_
       simp only [go_sem]
       repeat refine awp_seq ?_
       refine awp_cond rfl (fun hc => ?_) (fun hc => ?_) <;> (try simp only [go_sem] at hc)
       · skip
         repeat refine awp_seq ?_
         refine awp_reg (by kernel_rfl) fun K hK => ?_
         simp only [go_sem]
         (try simp (disch := omega) only [wrapI])
         repeat first | intro _ | refine ⟨(by omega), ?_⟩ | refine ⟨⟨by omega, by omega⟩, ?_⟩
         refine hK _ ?_
         clear hK K
         refine awp_sub (sub_keep [2]) ?_
         simp only [go_sem]
         refine awp_ret ?_
         simp only [go_sem]
         have : 12 < x.beds.length := by omega
         simp [greatL, any_of hx (p := fun a => decide (12 < a.beds.length)) (by simpa using this)]
       · skip
         refine awp_skip ?_
         try simp only [go_sem]
         repeat refine awp_seq ?_
         refine awp_reg (by kernel_rfl) fun K hK => ?_
         simp only [go_sem]
         (try simp (disch := omega) only [wrapI])
         repeat first | intro _ | refine ⟨(by omega), ?_⟩ | refine ⟨⟨by omega, by omega⟩, ?_⟩
         refine hK _ ?_
         clear hK K
         try simp only [go_sem]
         refine ⟨hci, ?_, fit_of [] ?_ ?_⟩
         · rw [any_step hx, hI]
           simp
           omega
         · try simp only [go_sem]
         · try simp only [go_sem]
     · skip
       refine awp_exit ?_
       simp only [go_sem]
       repeat refine awp_seq ?_
       refine awp_reg (by kernel_rfl) fun K hK => ?_
       simp only [go_sem]
       (try simp (disch := omega) only [wrapI])
       repeat first | intro _ | refine ⟨(by omega), ?_⟩ | refine ⟨⟨by omega, by omega⟩, ?_⟩
       refine hK _ ?_
       clear hK K
       refine awp_sub (sub_keep [2]) ?_
       simp only [go_sem]
       refine awp_ret ?_
       simp only [go_sem]
       have : i = l.length := by omega
       rw [this, List.take_length] at hI
       have h2 : ¬ 22 < l.length := by omega
       simp [greatL, hI, h2]
theorem alike_ok (a b : List Int) : ACalls Try.prog 24 [ints a, ints b] (.bo (decide (a = b))) := by
 refine acalls_st (rs := [.bo (decide (a = b))]) [.tmp 4] Try.func24 rfl (by kernel_rfl) Try.ntmps24 rfl (by simp) rfl fun C vs => ?_
 repeat refine awp_seq ?_
 refine awp_reg (by kernel_rfl) fun K hK => ?_
 simp only [go_sem]
 (try simp (disch := omega) only [wrapI])
 repeat first | intro _ | refine ⟨(by omega), ?_⟩ | refine ⟨⟨by omega, by omega⟩, ?_⟩
 refine hK _ ?_
 clear hK K
 refine awp_sub (sub_keep [0, 1]) ?_
 simp only [go_sem]
 repeat refine awp_seq ?_
 refine awp_reg (by kernel_rfl) fun K hK => ?_
 simp only [go_sem]
 (try simp (disch := omega) only [wrapI])
 intro hla hlb
 by_cases h1 : a.length = b.length
 case neg =>
  have e4 : ((a.length : Int) != b.length) = true := by simp; omega
  rw [e4]
  repeat first | intro _ | refine ⟨(by omega), ?_⟩ | refine ⟨⟨by omega, by omega⟩, ?_⟩
  refine hK _ ?_
  clear hK K
  repeat refine awp_seq ?_
  refine awp_cond rfl (fun hc => ?_) (fun hc => ?_) <;> (try simp only [go_sem] at hc)
  repeat refine awp_seq ?_
  refine awp_reg (by kernel_rfl) fun K hK => ?_
  simp only [go_sem]
  (try simp (disch := omega) only [wrapI])
  repeat first | intro _ | refine ⟨(by omega), ?_⟩ | refine ⟨⟨by omega, by omega⟩, ?_⟩
  refine hK _ ?_
  clear hK K
  refine awp_ret ?_
  simp only [go_sem]
  simp
  exact fun h => h1 (by rw [h])
 have e4 : ((a.length : Int) != b.length) = false := by simp [h1]
 rw [e4]
 repeat first | intro _ | refine ⟨(by omega), ?_⟩ | refine ⟨⟨by omega, by omega⟩, ?_⟩
 refine hK _ ?_
 clear hK K
 refine awp_sub (sub_keep [0, 1, 10]) ?_
 simp only [go_sem]
 repeat refine awp_seq ?_
 refine awp_cond rfl (fun hc => ?_) (fun hc => ?_) <;> (try simp only [go_sem] at hc)
 refine awp_skip ?_
 try simp only [go_sem]
 repeat refine awp_seq ?_
 refine awp_reg (by kernel_rfl) fun K hK => ?_
 simp only [go_sem]
 (try simp (disch := omega) only [wrapI])
 repeat first | intro _ | refine ⟨(by omega), ?_⟩ | refine ⟨⟨by omega, by omega⟩, ?_⟩
 refine hK _ ?_
 clear hK K
 refine awp_sub (sub_keep [0, 1, 5]) ?_
 simp only [go_sem]
 repeat refine awp_seq ?_
 refine awp_block ?_
 refine awp_upto (n := 26) a.length (fun i vs => [(0, .r (ints a)), (1, .r (ints b)), (5, .r (i64 i))])
  (fun i => []) (fun i => a.take i = b.take i) 0 (fit_of [] ?_ ?_) (Nat.zero_le _) (by simp) ?_
 · try simp only [go_sem]
 · try simp only [go_sem]
 · intro i vs hi hI
   repeat refine awp_seq ?_
   refine awp_reg (by kernel_rfl) fun K hK => ?_
   simp only [go_sem]
   (try simp (disch := omega) only [wrapI])
   repeat first | intro _ | refine ⟨(by omega), ?_⟩ | refine ⟨⟨by omega, by omega⟩, ?_⟩
   refine hK _ ?_
   clear hK K
   refine awp_sub (sub_keep [0, 1, 5, 14]) ?_
   simp only [go_sem]
   repeat refine awp_seq ?_
   refine awp_cond rfl (fun hc => ?_) (fun hc => ?_) <;> (try simp only [go_sem] at hc)
   · skip
     have hci : i < a.length := by omega
     have hc2 : i < b.length := by omega
     obtain ⟨u, hu⟩ := opt_of_lt hci
     obtain ⟨v, hv⟩ := opt_of_lt hc2
     refine awp_skip ?_
     try simp only [go_sem]
     repeat refine awp_seq ?_
     refine awp_block ?_
     repeat refine awp_seq ?_
     refine awp_dreg follows (by decide +kernel) (by kernel_rfl) fun K hK => ?_
     simp only [go_sem, hu, hv, hci, hc2]
     (try simp (disch := omega) only [wrapI])
     repeat first | intro _ | refine ⟨(by omega), ?_⟩ | refine ⟨⟨by omega, by omega⟩, ?_⟩
     refine hK _ ?_
     clear hK K
     by_cases huv : u = v
     · have e6 : (u != v) = false := by simp [huv]
       rw [e6]
       repeat refine awp_seq ?_
       refine awp_cond rfl (fun hc => ?_) (fun hc => ?_) <;> (try simp only [go_sem] at hc)
       refine awp_skip ?_
       try simp only [go_sem]
       repeat refine awp_seq ?_
       refine awp_reg (by kernel_rfl) fun K hK => ?_
       simp only [go_sem]
       (try simp (disch := omega) only [wrapI])
       repeat first | intro _ | refine ⟨(by omega), ?_⟩ | refine ⟨⟨by omega, by omega⟩, ?_⟩
       refine hK _ ?_
       clear hK K
       try simp only [go_sem]
       refine ⟨hci, ?_, fit_of [] ?_ ?_⟩
       · rw [take_of_opt hu, take_of_opt hv, hI, huv]
       · try simp only [go_sem]
       · try simp only [go_sem]
     · have e6 : (u != v) = true := by simp [huv]
       rw [e6]
       repeat refine awp_seq ?_
       refine awp_cond rfl (fun hc => ?_) (fun hc => ?_) <;> (try simp only [go_sem] at hc)
       repeat refine awp_seq ?_
       refine awp_reg (by kernel_rfl) fun K hK => ?_
       simp only [go_sem]
       (try simp (disch := omega) only [wrapI])
       repeat first | intro _ | refine ⟨(by omega), ?_⟩ | refine ⟨⟨by omega, by omega⟩, ?_⟩
       refine hK _ ?_
       clear hK K
       refine awp_ret ?_
       simp only [go_sem]
       simp
       rintro rfl
       rw [hu] at hv
       injection hv with hv
       exact huv hv
   · skip
     refine awp_exit ?_
     simp only [go_sem]
     repeat refine awp_seq ?_
     refine awp_reg (by kernel_rfl) fun K hK => ?_
     simp only [go_sem]
     (try simp (disch := omega) only [wrapI])
     repeat first | intro _ | refine ⟨(by omega), ?_⟩ | refine ⟨⟨by omega, by omega⟩, ?_⟩
     refine hK _ ?_
     clear hK K
     refine awp_sub (sub_keep [4]) ?_
     simp only [go_sem]
     refine awp_ret ?_
     simp only [go_sem]
     have : i = a.length := by omega
     subst this
     have hab : a = b := by rwa [List.take_length, h1, List.take_length] at hI
     simp [hab]
theorem eqT67 : eqN Try.prog 67 = some 3 := by kernel_rfl
theorem same_ok (a b : Am) : ACalls Try.prog 30 [aimV a, aimV b] (.bo (decide (a = b))) := by
 refine acalls_st (rs := [.bo (decide (a = b))]) [.tmp 4] Try.func30 rfl (by kernel_rfl) Try.ntmps30 rfl (by simp) rfl fun C vs => ?_
 repeat refine awp_seq ?_
 refine awp_reg (by kernel_rfl) fun K hK => ?_
 simp only [go_sem]
 (try simp (disch := omega) only [wrapI])
 repeat first | intro _ | refine ⟨(by omega), ?_⟩ | refine ⟨⟨by omega, by omega⟩, ?_⟩
 refine hK _ ?_
 clear hK K
 refine awp_sub (sub_frzP 2 2 (aimR a) (by omega) rfl rfl) ?_
 refine awp_sub (sub_frzP 3 3 (aimR b) (by omega) rfl rfl) ?_
 refine awp_sub (sub_keep [2, 3]) ?_
 simp only [go_sem]
 by_cases h0 : a.at_ = b.at_
 case neg =>
  have e0 : (a.at_ != b.at_) = true := by simpa using h0
  repeat refine awp_seq ?_
  refine awp_reg (by kernel_rfl) fun K hK => ?_
  simp only [go_sem, e0, aimR]
  (try simp (disch := omega) only [wrapI])
  repeat first | intro _ | refine ⟨(by omega), ?_⟩ | refine ⟨⟨by omega, by omega⟩, ?_⟩
  refine hK _ ?_
  clear hK K
  repeat refine awp_seq ?_
  refine awp_cond rfl (fun hc => ?_) (fun hc => ?_) <;> (try simp only [go_sem] at hc)
  repeat refine awp_seq ?_
  refine awp_reg (by kernel_rfl) fun K hK => ?_
  simp only [go_sem]
  (try simp (disch := omega) only [wrapI])
  repeat first | intro _ | refine ⟨(by omega), ?_⟩ | refine ⟨⟨by omega, by omega⟩, ?_⟩
  refine hK _ ?_
  clear hK K
  refine awp_ret ?_
  simp only [go_sem]
  simp
  exact fun h => h0 (by rw [h])
 have e0 : (a.at_ != b.at_) = false := by simpa using h0
 by_cases h1 : a.beds.length = b.beds.length
 case neg =>
  have e4 : ((a.beds.length : Int) != b.beds.length) = true := by simp; omega
  repeat refine awp_seq ?_
  refine awp_reg (by kernel_rfl) fun K hK => ?_
  simp only [go_sem, e0, e4, aimR]
  (try simp (disch := omega) only [wrapI])
  repeat first | intro _ | refine ⟨(by omega), ?_⟩ | refine ⟨⟨by omega, by omega⟩, ?_⟩
  refine hK _ ?_
  clear hK K
  repeat refine awp_seq ?_
  refine awp_cond rfl (fun hc => ?_) (fun hc => ?_) <;> (try simp only [go_sem] at hc)
  repeat refine awp_seq ?_
  refine awp_reg (by kernel_rfl) fun K hK => ?_
  simp only [go_sem]
  (try simp (disch := omega) only [wrapI])
  repeat first | intro _ | refine ⟨(by omega), ?_⟩ | refine ⟨⟨by omega, by omega⟩, ?_⟩
  refine hK _ ?_
  clear hK K
  refine awp_ret ?_
  simp only [go_sem]
  simp
  exact fun h => h1 (by rw [h])
 have e4 : ((a.beds.length : Int) != b.beds.length) = false := by simp [h1]
 repeat refine awp_seq ?_
 refine awp_reg (by kernel_rfl) fun K hK => ?_
 simp only [go_sem, e0, e4, aimR]
 (try simp (disch := omega) only [wrapI])
 intro hla hlb
 repeat first | intro _ | refine ⟨(by omega), ?_⟩ | refine ⟨⟨by omega, by omega⟩, ?_⟩
 refine hK _ ?_
 clear hK K
 refine awp_sub (sub_keep [2, 3, 19]) ?_
 simp only [go_sem]
 repeat refine awp_seq ?_
 refine awp_cond rfl (fun hc => ?_) (fun hc => ?_) <;> (try simp only [go_sem] at hc)
 refine awp_skip ?_
 try simp only [go_sem]
 repeat refine awp_seq ?_
 refine awp_reg (by kernel_rfl) fun K hK => ?_
 simp only [go_sem]
 (try simp (disch := omega) only [wrapI])
 repeat first | intro _ | refine ⟨(by omega), ?_⟩ | refine ⟨⟨by omega, by omega⟩, ?_⟩
 refine hK _ ?_
 clear hK K
 refine awp_sub (sub_keep [2, 3, 5]) ?_
 simp only [go_sem]
 repeat refine awp_seq ?_
 refine awp_block ?_
 refine awp_upto (n := 38) a.beds.length (fun i vs => [(2, .r (.rp [i64 a.at_, bedsR a.beds])), (3, .r (.rp [i64 b.at_, bedsR b.beds])), (5, .r (i64 i))])
  (fun i => []) (fun i => a.beds.take i = b.beds.take i) 0 (fit_of [] ?_ ?_) (Nat.zero_le _) (by simp) ?_
 · try simp only [go_sem]
 · try simp only [go_sem]
 · intro i vs hi hI
   repeat refine awp_seq ?_
   refine awp_reg (by kernel_rfl) fun K hK => ?_
   simp only [go_sem, aimR]
   (try simp (disch := omega) only [wrapI])
   repeat first | intro _ | refine ⟨(by omega), ?_⟩ | refine ⟨⟨by omega, by omega⟩, ?_⟩
   refine hK _ ?_
   clear hK K
   refine awp_sub (sub_keep [2, 3, 5, 24]) ?_
   simp only [go_sem]
   repeat refine awp_seq ?_
   refine awp_cond rfl (fun hc => ?_) (fun hc => ?_) <;> (try simp only [go_sem] at hc)
   · skip
     have hci : i < a.beds.length := by omega
     have hc2 : i < b.beds.length := by omega
     obtain ⟨u, hu⟩ := opt_of_lt hci
     obtain ⟨v, hv⟩ := opt_of_lt hc2
     refine awp_skip ?_
     try simp only [go_sem]
     repeat refine awp_seq ?_
     refine awp_block ?_
     have hT := eqT67
     repeat refine awp_seq ?_
     refine awp_dreg follows (by decide +kernel) (by kernel_rfl) fun K hK => ?_
     simp only [go_sem, hu, hv, hci, hc2, aimR, bedR, hT, cmpL, eq_self, if_true, List.length_cons, List.length_nil]
     (try simp (disch := omega) only [wrapI])
     repeat first | intro _ | refine ⟨(by omega), ?_⟩ | refine ⟨⟨by omega, by omega⟩, ?_⟩
     refine hK _ ?_
     clear hK K
     refine awp_sub (sub_keep [2, 3, 5, 37]) ?_
     simp only [go_sem]
     repeat refine awp_seq ?_
     refine awp_cond rfl (fun hc => ?_) (fun hc => ?_) <;> (try simp only [go_sem] at hc)
     · skip
       repeat refine awp_seq ?_
       refine awp_reg (by kernel_rfl) fun K hK => ?_
       simp only [go_sem]
       (try simp (disch := omega) only [wrapI])
       repeat first | intro _ | refine ⟨(by omega), ?_⟩ | refine ⟨⟨by omega, by omega⟩, ?_⟩
       refine hK _ ?_
       clear hK K
       refine awp_sub (sub_keep [4]) ?_
       simp only [go_sem]
       refine awp_ret ?_
       simp only [go_sem]
       simp
       intro hab
       subst hab
       rw [hu] at hv
       injection hv with hv
       subst hv
       simp at hc
     · skip
       have huv : u = v := by
        obtain ⟨u1, u2, u3⟩ := u
        obtain ⟨v1, v2, v3⟩ := v
        simp at hc
        simp [hc]
       refine awp_skip ?_
       try simp only [go_sem]
       repeat refine awp_seq ?_
       refine awp_reg (by kernel_rfl) fun K hK => ?_
       simp only [go_sem]
       (try simp (disch := omega) only [wrapI])
       repeat first | intro _ | refine ⟨(by omega), ?_⟩ | refine ⟨⟨by omega, by omega⟩, ?_⟩
       refine hK _ ?_
       clear hK K
       try simp only [go_sem]
       refine ⟨hci, ?_, fit_of [] ?_ ?_⟩
       · rw [take_of_opt hu, take_of_opt hv, hI, huv]
       · try simp only [go_sem]
       · try simp only [go_sem]
   · skip
     refine awp_exit ?_
     simp only [go_sem]
     repeat refine awp_seq ?_
     refine awp_reg (by kernel_rfl) fun K hK => ?_
     simp only [go_sem]
     (try simp (disch := omega) only [wrapI])
     repeat first | intro _ | refine ⟨(by omega), ?_⟩ | refine ⟨⟨by omega, by omega⟩, ?_⟩
     refine hK _ ?_
     clear hK K
     refine awp_sub (sub_keep [4]) ?_
     simp only [go_sem]
     refine awp_ret ?_
     simp only [go_sem]
     have : i = a.beds.length := by omega
     subst this
     have hab : a.beds = b.beds := by rwa [List.take_length, h1, List.take_length] at hI
     have : a = b := by cases a; cases b; simp at h0 hab; simp [h0, hab]
     simp [this]
theorem equal_ok (d e : Int) (l m : List Am) : ACalls Try.prog 18 [lawV d l, lawV e m] (.bo (decide (d = e ∧ l = m))) := by
 refine acalls_st (rs := [.bo (decide (d = e ∧ l = m))]) [.tmp 4] Try.func18 rfl (by kernel_rfl) Try.ntmps18 rfl (by simp) rfl fun C vs => ?_
 repeat refine awp_seq ?_
 refine awp_reg (by kernel_rfl) fun K hK => ?_
 simp only [go_sem]
 (try simp (disch := omega) only [wrapI])
 repeat first | intro _ | refine ⟨(by omega), ?_⟩ | refine ⟨⟨by omega, by omega⟩, ?_⟩
 refine hK _ ?_
 clear hK K
 refine awp_sub (sub_frzP 2 2 [i64 d, aimsR l] (by omega) rfl rfl) ?_
 refine awp_sub (sub_frzP 3 3 [i64 e, aimsR m] (by omega) rfl rfl) ?_
 refine awp_sub (sub_keep [2, 3]) ?_
 simp only [go_sem]
 by_cases h0 : d = e
 case neg =>
  have e0 : (d != e) = true := by simpa using h0
  repeat refine awp_seq ?_
  refine awp_reg (by kernel_rfl) fun K hK => ?_
  simp only [go_sem, e0]
  (try simp (disch := omega) only [wrapI])
  repeat first | intro _ | refine ⟨(by omega), ?_⟩ | refine ⟨⟨by omega, by omega⟩, ?_⟩
  refine hK _ ?_
  clear hK K
  repeat refine awp_seq ?_
  refine awp_cond rfl (fun hc => ?_) (fun hc => ?_) <;> (try simp only [go_sem] at hc)
  repeat refine awp_seq ?_
  refine awp_reg (by kernel_rfl) fun K hK => ?_
  simp only [go_sem]
  (try simp (disch := omega) only [wrapI])
  repeat first | intro _ | refine ⟨(by omega), ?_⟩ | refine ⟨⟨by omega, by omega⟩, ?_⟩
  refine hK _ ?_
  clear hK K
  refine awp_ret ?_
  simp only [go_sem]
  simp
  exact fun h _ => h0 h
 have e0 : (d != e) = false := by simpa using h0
 by_cases h1 : l.length = m.length
 case neg =>
  have e4 : ((l.length : Int) != m.length) = true := by simp; omega
  repeat refine awp_seq ?_
  refine awp_reg (by kernel_rfl) fun K hK => ?_
  simp only [go_sem, e0, e4]
  (try simp (disch := omega) only [wrapI])
  repeat first | intro _ | refine ⟨(by omega), ?_⟩ | refine ⟨⟨by omega, by omega⟩, ?_⟩
  refine hK _ ?_
  clear hK K
  repeat refine awp_seq ?_
  refine awp_cond rfl (fun hc => ?_) (fun hc => ?_) <;> (try simp only [go_sem] at hc)
  repeat refine awp_seq ?_
  refine awp_reg (by kernel_rfl) fun K hK => ?_
  simp only [go_sem]
  (try simp (disch := omega) only [wrapI])
  repeat first | intro _ | refine ⟨(by omega), ?_⟩ | refine ⟨⟨by omega, by omega⟩, ?_⟩
  refine hK _ ?_
  clear hK K
  refine awp_ret ?_
  simp only [go_sem]
  simp
  exact fun _ h => h1 (by rw [h])
 have e4 : ((l.length : Int) != m.length) = false := by simp [h1]
 repeat refine awp_seq ?_
 refine awp_reg (by kernel_rfl) fun K hK => ?_
 simp only [go_sem, e0, e4]
 (try simp (disch := omega) only [wrapI])
 intro hla hlb
 repeat first | intro _ | refine ⟨(by omega), ?_⟩ | refine ⟨⟨by omega, by omega⟩, ?_⟩
 refine hK _ ?_
 clear hK K
 refine awp_sub (sub_keep [2, 3, 19]) ?_
 simp only [go_sem]
 repeat refine awp_seq ?_
 refine awp_cond rfl (fun hc => ?_) (fun hc => ?_) <;> (try simp only [go_sem] at hc)
 refine awp_skip ?_
 try simp only [go_sem]
 repeat refine awp_seq ?_
 refine awp_reg (by kernel_rfl) fun K hK => ?_
 simp only [go_sem]
 (try simp (disch := omega) only [wrapI])
 repeat first | intro _ | refine ⟨(by omega), ?_⟩ | refine ⟨⟨by omega, by omega⟩, ?_⟩
 refine hK _ ?_
 clear hK K
 refine awp_sub (sub_keep [2, 3, 5]) ?_
 simp only [go_sem]
 repeat refine awp_seq ?_
 refine awp_block ?_
 refine awp_upto (n := 39) l.length (fun i vs => [(2, .r (.rp [i64 d, aimsR l])), (3, .r (.rp [i64 e, aimsR m])), (5, .r (i64 i))])
  (fun i => []) (fun i => l.take i = m.take i) 0 (fit_of [] ?_ ?_) (Nat.zero_le _) (by simp) ?_
 · try simp only [go_sem]
 · try simp only [go_sem]
 · intro i vs hi hI
   repeat refine awp_seq ?_
   refine awp_reg (by kernel_rfl) fun K hK => ?_
   simp only [go_sem]
   (try simp (disch := omega) only [wrapI])
   repeat first | intro _ | refine ⟨(by omega), ?_⟩ | refine ⟨⟨by omega, by omega⟩, ?_⟩
   refine hK _ ?_
   clear hK K
   refine awp_sub (sub_keep [2, 3, 5, 24]) ?_
   simp only [go_sem]
   repeat refine awp_seq ?_
   refine awp_cond rfl (fun hc => ?_) (fun hc => ?_) <;> (try simp only [go_sem] at hc)
   · skip
     have hci : i < l.length := by omega
     have hc2 : i < m.length := by omega
     obtain ⟨u, hu⟩ := opt_of_lt hci
     obtain ⟨v, hv⟩ := opt_of_lt hc2
     refine awp_skip ?_
     try simp only [go_sem]
     repeat refine awp_seq ?_
     refine awp_block ?_
     repeat refine awp_seq ?_
     refine awp_dreg follows (by decide +kernel) (by kernel_rfl) fun K hK => ?_
     simp only [go_sem, hu, hv, hci, hc2, aimR]
     (try simp (disch := omega) only [wrapI])
     refine xcall_eq (same_ok u v) rfl (by simp only [go_sem, i64, ints]) (by simp only [go_sem, i64, ints]) (by first | exact .inl rfl | exact .inr rfl) ?_
     (try simp only [go_sem])
     (try simp (disch := omega) only [wrapI])
     by_cases huv : u = v
     · have e6 : decide (u = v) = true := by simp [huv]
       rw [e6]
       repeat first | intro _ | refine ⟨(by omega), ?_⟩ | refine ⟨⟨by omega, by omega⟩, ?_⟩
       refine hK _ ?_
       clear hK K
       refine awp_sub (sub_keep [2, 3, 5, 38]) ?_
       simp only [go_sem]
       repeat refine awp_seq ?_
       refine awp_cond rfl (fun hc => ?_) (fun hc => ?_) <;> (try simp only [go_sem] at hc)
       refine awp_skip ?_
       try simp only [go_sem]
       repeat refine awp_seq ?_
       refine awp_reg (by kernel_rfl) fun K hK => ?_
       simp only [go_sem]
       (try simp (disch := omega) only [wrapI])
       repeat first | intro _ | refine ⟨(by omega), ?_⟩ | refine ⟨⟨by omega, by omega⟩, ?_⟩
       refine hK _ ?_
       clear hK K
       try simp only [go_sem]
       refine ⟨hci, ?_, fit_of [] ?_ ?_⟩
       · rw [take_of_opt hu, take_of_opt hv, hI, huv]
       · try simp only [go_sem]
       · try simp only [go_sem]
     · have e6 : decide (u = v) = false := by simp [huv]
       rw [e6]
       repeat first | intro _ | refine ⟨(by omega), ?_⟩ | refine ⟨⟨by omega, by omega⟩, ?_⟩
       refine hK _ ?_
       clear hK K
       refine awp_sub (sub_keep [2, 3, 5, 38]) ?_
       simp only [go_sem]
       repeat refine awp_seq ?_
       refine awp_cond rfl (fun hc => ?_) (fun hc => ?_) <;> (try simp only [go_sem] at hc)
       repeat refine awp_seq ?_
       refine awp_reg (by kernel_rfl) fun K hK => ?_
       simp only [go_sem]
       (try simp (disch := omega) only [wrapI])
       repeat first | intro _ | refine ⟨(by omega), ?_⟩ | refine ⟨⟨by omega, by omega⟩, ?_⟩
       refine hK _ ?_
       clear hK K
       refine awp_ret ?_
       simp only [go_sem]
       simp
       rintro rfl rfl
       rw [hu] at hv
       injection hv with hv
       exact huv hv
   · skip
     refine awp_exit ?_
     simp only [go_sem]
     repeat refine awp_seq ?_
     refine awp_reg (by kernel_rfl) fun K hK => ?_
     simp only [go_sem]
     (try simp (disch := omega) only [wrapI])
     repeat first | intro _ | refine ⟨(by omega), ?_⟩ | refine ⟨⟨by omega, by omega⟩, ?_⟩
     refine hK _ ?_
     clear hK K
     refine awp_sub (sub_keep [4]) ?_
     simp only [go_sem]
     refine awp_ret ?_
     simp only [go_sem]
     have : i = l.length := by omega
     subst this
     have hab : l = m := by rwa [List.take_length, h1, List.take_length] at hI
     simp [h0, hab]
end Go.Proofs.Ytgkejinoaommeaa

namespace Go.Proofs.Ytgkejinoaommeaa
open Go Go.Oc
set_option linter.unusedSimpArgs false
set_option linter.unusedVariables false
set_option maxRecDepth 8000
def goodV (a : Am) : Bool := bedOk a.at_ && !a.beds.isEmpty && decide (a.beds.length ≤ 10) && seqOk none a.beds
theorem good_ok (x0 : Am) (hw0 : WfA x0) : ACalls Try.prog 61 [aimV x0] (.bo (goodV x0)) := by
 obtain ⟨a, l⟩ := x0
 obtain ⟨ha, hw⟩ := hw0
 simp only at ha hw
 refine acalls_st (rs := [.bo (goodV ⟨a, l⟩)]) [.tmp 2] Try.func61 rfl (by kernel_rfl) Try.ntmps61 rfl (by simp) rfl fun C vs => ?_
 repeat refine awp_seq ?_
 refine awp_reg (by kernel_rfl) fun K hK => ?_
 simp only [go_sem]
 (try simp (disch := omega) only [wrapI])
 repeat first | intro _ | refine ⟨(by omega), ?_⟩ | refine ⟨⟨by omega, by omega⟩, ?_⟩
 refine hK _ ?_
 clear hK K
 refine awp_sub (sub_frzP 1 1 [i64 a, bedsR l] (by omega) rfl rfl) ?_
 refine awp_sub (sub_keep [1]) ?_
 simp only [go_sem]
 repeat refine awp_seq ?_
 refine awp_reg (by kernel_rfl) fun K hK => ?_
 simp only [go_sem]
 (try simp (disch := omega) only [wrapI])
 refine xcall_eq (refBed_ok a ha) rfl (by simp only [go_sem, i64, ints]) (by simp only [go_sem, i64, ints]) (by first | exact .inl rfl | exact .inr rfl) ?_
 (try simp only [go_sem])
 (try simp (disch := omega) only [wrapI])
 cases hA : bedOk a
 · try simp only [go_sem]
   repeat first | intro _ | refine ⟨(by omega), ?_⟩ | refine ⟨⟨by omega, by omega⟩, ?_⟩
   refine hK _ ?_
   clear hK K
   refine awp_sub (sub_keep [1, 19]) ?_
   simp only [go_sem]
   repeat refine awp_seq ?_
   refine awp_cond rfl (fun hc => ?_) (fun hc => ?_) <;> (try simp only [go_sem] at hc)
   repeat refine awp_seq ?_
   refine awp_reg (by kernel_rfl) fun K hK => ?_
   simp only [go_sem]
   (try simp (disch := omega) only [wrapI])
   repeat first | intro _ | refine ⟨(by omega), ?_⟩ | refine ⟨⟨by omega, by omega⟩, ?_⟩
   refine hK _ ?_
   clear hK K
   refine awp_ret ?_
   simp only [go_sem]
   simp [goodV, hA]
 try simp only [go_sem]
 intro hl0
 refine ⟨fun h10 => ?_, fun h10 => ?_⟩
 rotate_left
 · repeat first | intro _ | refine ⟨(by omega), ?_⟩ | refine ⟨⟨by omega, by omega⟩, ?_⟩
   refine hK _ ?_
   clear hK K
   refine awp_sub (sub_keep [1, 19]) ?_
   simp only [go_sem]
   repeat refine awp_seq ?_
   refine awp_cond rfl (fun hc => ?_) (fun hc => ?_) <;> (try simp only [go_sem] at hc)
   repeat refine awp_seq ?_
   refine awp_reg (by kernel_rfl) fun K hK => ?_
   simp only [go_sem]
   (try simp (disch := omega) only [wrapI])
   repeat first | intro _ | refine ⟨(by omega), ?_⟩ | refine ⟨⟨by omega, by omega⟩, ?_⟩
   refine hK _ ?_
   clear hK K
   refine awp_ret ?_
   simp only [go_sem]
   have : l = [] := List.eq_nil_of_length_eq_zero (by omega)
   simp [goodV, this]
 repeat first | intro _ | refine ⟨(by omega), ?_⟩ | refine ⟨⟨by omega, by omega⟩, ?_⟩
 refine hK _ ?_
 clear hK K
 refine awp_sub (sub_keep [1, 19]) ?_
 simp only [go_sem]
 have hne : l ≠ [] := fun h => by subst h; simp at h10
 repeat refine awp_seq ?_
 refine awp_cond rfl (fun hc => ?_) (fun hc => ?_) <;> (try simp only [go_sem] at hc)
 · repeat refine awp_seq ?_
   refine awp_reg (by kernel_rfl) fun K hK => ?_
   simp only [go_sem]
   (try simp (disch := omega) only [wrapI])
   repeat first | intro _ | refine ⟨(by omega), ?_⟩ | refine ⟨⟨by omega, by omega⟩, ?_⟩
   refine hK _ ?_
   clear hK K
   refine awp_sub (sub_keep [2]) ?_
   simp only [go_sem]
   refine awp_ret ?_
   simp only [go_sem]
   have : ¬ l.length ≤ 10 := by omega
   simp [goodV, this]
 have hl10 : l.length ≤ 10 := by omega
 refine awp_skip ?_
 try simp only [go_sem]
 repeat refine awp_seq ?_
 refine awp_reg (by kernel_rfl) fun K hK => ?_
 simp only [go_sem]
 (try simp (disch := omega) only [wrapI])
 repeat first | intro _ | refine ⟨(by omega), ?_⟩ | refine ⟨⟨by omega, by omega⟩, ?_⟩
 refine hK _ ?_
 clear hK K
 refine awp_sub (sub_keep [1, 3]) ?_
 simp only [go_sem]
 repeat refine awp_seq ?_
 refine awp_block ?_
 refine awp_upto (n := 64) l.length (fun i vs => [(1, .r (.rp [i64 a, bedsR l])), (3, .r (i64 i))])
  (fun i => []) (fun i => seqOk none l = seqOk (prevB l i) (l.drop i)) 0 (fit_of [] ?_ ?_) (Nat.zero_le _) rfl ?_
 · try simp only [go_sem]
 · try simp only [go_sem]
 · intro i vs hi hI
   repeat refine awp_seq ?_
   refine awp_reg (by kernel_rfl) fun K hK => ?_
   simp only [go_sem]
   (try simp (disch := omega) only [wrapI])
   repeat first | intro _ | refine ⟨(by omega), ?_⟩ | refine ⟨⟨by omega, by omega⟩, ?_⟩
   refine hK _ ?_
   clear hK K
   refine awp_sub (sub_keep [1, 3, 24]) ?_
   simp only [go_sem]
   repeat refine awp_seq ?_
   refine awp_cond rfl (fun hc => ?_) (fun hc => ?_) <;> (try simp only [go_sem] at hc)
   · have hci := hc
     obtain ⟨x, hx⟩ := opt_of_lt hc
     rw [drop_of_opt hx] at hI
     obtain ⟨hxb, _, _⟩ := hw x (mem_of_opt hx)
     have hB : ACalls Try.prog 85 [i64 x.b] (.bo (bedOk x.b)) := refBed_ok x.b hxb
     refine awp_skip ?_
     repeat refine awp_seq ?_
     refine awp_block ?_
     have hp : ∀ q, prevB l i = some q → ∃ y j, i = j + 1 ∧ l[j]? = some y ∧ q = y.b := fun q hq => by
      cases i with
      | zero => cases hq
      | succ j =>
        obtain ⟨y, hy⟩ := opt_of_lt (l := l) (i := j) (by omega)
        simp only [prevB, hy, Option.map_some, Option.some.injEq] at hq
        exact ⟨y, j, rfl, hy, hq.symm⟩
     cases hb0 : decide (x.b = 0) || bedOk x.b
     · have h0 : (x.b != 0) = true := by simp_all
       have h1 : bedOk x.b = false := by simp_all
       rw [h1] at hB
       repeat refine awp_seq ?_
       refine awp_dreg follows (by decide +kernel) (by kernel_rfl) fun K hK => ?_
       simp only [go_sem, hx, hci, bedR, h0]
       (try simp (disch := omega) only [wrapI])
       refine xcall_eq (hB) rfl (by simp only [go_sem, i64, ints]) (by simp only [go_sem, i64, ints]) (by first | exact .inl rfl | exact .inr rfl) ?_
       (try simp only [go_sem])
       (try simp (disch := omega) only [wrapI])
       repeat first | intro _ | refine ⟨(by omega), ?_⟩ | refine ⟨⟨by omega, by omega⟩, ?_⟩
       refine hK _ ?_
       clear hK K
       refine awp_sub (sub_keep [1, 3, 63]) ?_
       simp only [go_sem]
       repeat refine awp_seq ?_
       refine awp_cond rfl (fun hc => ?_) (fun hc => ?_) <;> (try simp only [go_sem] at hc)
       repeat refine awp_seq ?_
       refine awp_reg (by kernel_rfl) fun K hK => ?_
       simp only [go_sem]
       (try simp (disch := omega) only [wrapI])
       repeat first | intro _ | refine ⟨(by omega), ?_⟩ | refine ⟨⟨by omega, by omega⟩, ?_⟩
       refine hK _ ?_
       clear hK K
       refine awp_ret ?_
       simp only [go_sem]
       simp [hI, seqOk, hb0, goodV]
     have hnx : prevB l (i + 1) = some x.b := by simp [prevB, hx]
     have hstep : seqOk none l = ((match prevB l i with | none => true | some q => decide (q < x.b)) && seqOk (prevB l (i + 1)) (l.drop (i + 1))) := by
      rw [hI, hnx]
      simp only [seqOk, hb0, Bool.true_and]
      cases prevB l i <;> rfl
     cases i with
     | zero =>
       have hp0 : seqOk none l = seqOk (prevB l 1) (l.drop 1) := by simpa [prevB] using hstep
       by_cases h0 : x.b = 0
       · have e0 : (x.b != 0) = false := by simp [h0]
         repeat refine awp_seq ?_
         refine awp_dreg follows (by decide +kernel) (by kernel_rfl) fun K hK => ?_
         simp only [go_sem, hx, hci, bedR, e0]
         (try simp (disch := omega) only [wrapI])
         repeat first | intro _ | refine ⟨(by omega), ?_⟩ | refine ⟨⟨by omega, by omega⟩, ?_⟩
         refine hK _ ?_
         clear hK K
         refine awp_sub (sub_keep [1, 3, 63]) ?_
         simp only [go_sem]
         repeat refine awp_seq ?_
         refine awp_cond rfl (fun hc => ?_) (fun hc => ?_) <;> (try simp only [go_sem] at hc)
         refine awp_skip ?_
         try simp only [go_sem]
         repeat refine awp_seq ?_
         refine awp_reg (by kernel_rfl) fun K hK => ?_
         simp only [go_sem]
         (try simp (disch := omega) only [wrapI])
         repeat first | intro _ | refine ⟨(by omega), ?_⟩ | refine ⟨⟨by omega, by omega⟩, ?_⟩
         refine hK _ ?_
         clear hK K
         try simp only [go_sem]
         exact ⟨by omega, hp0, fit_of [] (by try simp only [go_sem]) (by try simp only [go_sem])⟩
       · have e0 : (x.b != 0) = true := by simp [h0]
         have e1 : bedOk x.b = true := by simpa [h0] using hb0
         rw [e1] at hB
         repeat refine awp_seq ?_
         refine awp_dreg follows (by decide +kernel) (by kernel_rfl) fun K hK => ?_
         simp only [go_sem, hx, hci, bedR, e0]
         (try simp (disch := omega) only [wrapI])
         repeat first | intro _ | refine ⟨(by omega), ?_⟩ | refine ⟨⟨by omega, by omega⟩, ?_⟩
         refine xcall_eq (hB) rfl (by simp only [go_sem, i64, ints]) (by simp only [go_sem, i64, ints]) (by first | exact .inl rfl | exact .inr rfl) ?_
         (try simp only [go_sem])
         (try simp (disch := omega) only [wrapI])
         repeat first | intro _ | refine ⟨(by omega), ?_⟩ | refine ⟨⟨by omega, by omega⟩, ?_⟩
         refine hK _ ?_
         clear hK K
         refine awp_sub (sub_keep [1, 3, 63]) ?_
         simp only [go_sem]
         repeat refine awp_seq ?_
         refine awp_cond rfl (fun hc => ?_) (fun hc => ?_) <;> (try simp only [go_sem] at hc)
         refine awp_skip ?_
         try simp only [go_sem]
         repeat refine awp_seq ?_
         refine awp_reg (by kernel_rfl) fun K hK => ?_
         simp only [go_sem]
         (try simp (disch := omega) only [wrapI])
         repeat first | intro _ | refine ⟨(by omega), ?_⟩ | refine ⟨⟨by omega, by omega⟩, ?_⟩
         refine hK _ ?_
         clear hK K
         try simp only [go_sem]
         exact ⟨by omega, hp0, fit_of [] (by try simp only [go_sem]) (by try simp only [go_sem])⟩
     | succ j =>
       obtain ⟨y, hy⟩ := opt_of_lt (l := l) (i := j) (by omega)
       have hpy : prevB l (j + 1) = some y.b := by simp [prevB, hy]
       rw [hpy] at hstep
       have hj1 : IntKind.i64.wrap ((j : Int) + 1 - 1) = (j : Int) := by rw [wrapI] <;> omega
       have hj2 : j < l.length := by omega
       have hj0 : (0 < (j : Int) + 1) = True := by simp
       have go : ∀ (e : Bool), decide (x.b ≤ y.b) = e → (e = true → seqOk none l = false) ∧ (e = false → seqOk none l = seqOk (prevB l (j + 1 + 1)) (l.drop (j + 1 + 1))) := fun e he => by
        refine ⟨fun h => ?_, fun h => ?_⟩
        · have : decide (y.b < x.b) = false := by simp_all
          rw [hstep]; simp [this]
        · have : decide (y.b < x.b) = true := by simp_all
          rw [hstep]; simp [this]
       obtain ⟨go1, go2⟩ := go _ rfl
       by_cases h0 : x.b = 0
       · have e0 : (x.b != 0) = false := by simp [h0]
         repeat refine awp_seq ?_
         refine awp_dreg follows (by decide +kernel) (by kernel_rfl) fun K hK => ?_
         simp only [go_sem, hx, hci, e0, hj1, hj0, hy, bedR]
         (try simp (disch := omega) only [wrapI])
         repeat first | intro _ | refine ⟨(by omega), ?_⟩ | refine ⟨⟨by omega, by omega⟩, ?_⟩
         refine hK _ ?_
         clear hK K
         refine awp_sub (sub_keep [1, 3, 63]) ?_
         simp only [go_sem]
         cases hle : decide (x.b ≤ y.b)
         · repeat refine awp_seq ?_
           refine awp_cond rfl (fun hc => ?_) (fun hc => ?_) <;> (try simp only [go_sem] at hc)
           refine awp_skip ?_
           try simp only [go_sem]
           repeat refine awp_seq ?_
           refine awp_reg (by kernel_rfl) fun K hK => ?_
           simp only [go_sem]
           (try simp (disch := omega) only [wrapI])
           repeat first | intro _ | refine ⟨(by omega), ?_⟩ | refine ⟨⟨by omega, by omega⟩, ?_⟩
           refine hK _ ?_
           clear hK K
           try simp only [go_sem]
           exact ⟨by omega, go2 hle, fit_of [] (by try simp only [go_sem]) (by try simp only [go_sem])⟩
         · repeat refine awp_seq ?_
           refine awp_cond rfl (fun hc => ?_) (fun hc => ?_) <;> (try simp only [go_sem] at hc)
           repeat refine awp_seq ?_
           refine awp_reg (by kernel_rfl) fun K hK => ?_
           simp only [go_sem]
           (try simp (disch := omega) only [wrapI])
           repeat first | intro _ | refine ⟨(by omega), ?_⟩ | refine ⟨⟨by omega, by omega⟩, ?_⟩
           refine hK _ ?_
           clear hK K
           refine awp_ret ?_
           simp only [go_sem]
           simp [go1 hle, goodV]
       · have e0 : (x.b != 0) = true := by simp [h0]
         have e1 : bedOk x.b = true := by simpa [h0] using hb0
         rw [e1] at hB
         repeat refine awp_seq ?_
         refine awp_dreg follows (by decide +kernel) (by kernel_rfl) fun K hK => ?_
         simp only [go_sem, hx, hci, e0, hj1, hj0, hy, bedR]
         (try simp (disch := omega) only [wrapI])
         repeat first | intro _ | refine ⟨(by omega), ?_⟩ | refine ⟨⟨by omega, by omega⟩, ?_⟩
         refine xcall_eq (hB) rfl (by simp only [go_sem, i64, ints, hj1, hj0, hx, hci, hy, bedR]) (by simp only [go_sem, i64, ints, hj1, hj0, hx, hci, hy, bedR]) (by first | exact .inl rfl | exact .inr rfl) ?_
         (try simp only [go_sem, hj1, hj0, hx, hci, hy, bedR])
         (try simp (disch := omega) only [wrapI])
         try simp only [decide_eq_true_eq]
         repeat first | intro _ | refine ⟨(by omega), ?_⟩ | refine ⟨⟨by omega, by omega⟩, ?_⟩
         refine hK _ ?_
         clear hK K
         refine awp_sub (sub_keep [1, 3, 63]) ?_
         simp only [go_sem]
         cases hle : decide (x.b ≤ y.b)
         · repeat refine awp_seq ?_
           refine awp_cond rfl (fun hc => ?_) (fun hc => ?_) <;> (try simp only [go_sem] at hc)
           refine awp_skip ?_
           try simp only [go_sem]
           repeat refine awp_seq ?_
           refine awp_reg (by kernel_rfl) fun K hK => ?_
           simp only [go_sem]
           (try simp (disch := omega) only [wrapI])
           repeat first | intro _ | refine ⟨(by omega), ?_⟩ | refine ⟨⟨by omega, by omega⟩, ?_⟩
           refine hK _ ?_
           clear hK K
           try simp only [go_sem]
           exact ⟨by omega, go2 hle, fit_of [] (by try simp only [go_sem]) (by try simp only [go_sem])⟩
         · repeat refine awp_seq ?_
           refine awp_cond rfl (fun hc => ?_) (fun hc => ?_) <;> (try simp only [go_sem] at hc)
           repeat refine awp_seq ?_
           refine awp_reg (by kernel_rfl) fun K hK => ?_
           simp only [go_sem]
           (try simp (disch := omega) only [wrapI])
           repeat first | intro _ | refine ⟨(by omega), ?_⟩ | refine ⟨⟨by omega, by omega⟩, ?_⟩
           refine hK _ ?_
           clear hK K
           refine awp_ret ?_
           simp only [go_sem]
           simp [go1 hle, goodV]
   · refine awp_exit ?_
     simp only [go_sem]
     repeat refine awp_seq ?_
     refine awp_reg (by kernel_rfl) fun K hK => ?_
     simp only [go_sem]
     (try simp (disch := omega) only [wrapI])
     repeat first | intro _ | refine ⟨(by omega), ?_⟩ | refine ⟨⟨by omega, by omega⟩, ?_⟩
     refine hK _ ?_
     clear hK K
     refine awp_sub (sub_keep [2]) ?_
     simp only [go_sem]
     refine awp_ret ?_
     simp only [go_sem]
     have : l.drop i = [] := List.drop_eq_nil_of_le (by omega)
     simp [goodV, hI, this, seqOk, hA, hne, hl10]
def aimOk10 (d : Int) (a : Am) : Bool := aimOk d a && decide (a.beds.length ≤ 10)
theorem refAim_ok (x0 : Am) (d : Int) (hw0 : WfA x0) (hd : d ≤ 6000) : ACalls Try.prog 50 [aimV x0, i64 d] (.bo (aimOk10 d x0)) := by
 obtain ⟨a, l⟩ := x0
 refine acalls_st (rs := [.bo (aimOk10 d ⟨a, l⟩)]) [.tmp 4] Try.func50 rfl (by kernel_rfl) Try.ntmps50 rfl (by simp) rfl fun C vs => ?_
 repeat refine awp_seq ?_
 refine awp_reg (by kernel_rfl) fun K hK => ?_
 simp only [go_sem]
 (try simp (disch := omega) only [wrapI])
 repeat first | intro _ | refine ⟨(by omega), ?_⟩ | refine ⟨⟨by omega, by omega⟩, ?_⟩
 refine hK _ ?_
 clear hK K
 refine awp_sub (sub_frzP 2 2 [i64 a, bedsR l] (by omega) rfl rfl) ?_
 refine awp_sub (sub_keep [1, 2]) ?_
 simp only [go_sem]
 repeat refine awp_seq ?_
 refine awp_reg (by kernel_rfl) fun K hK => ?_
 simp only [go_sem]
 (try simp (disch := omega) only [wrapI])
 refine xcall_eq (good_ok ⟨a, l⟩ hw0) rfl (by simp only [go_sem, i64, ints]) (by simp only [go_sem, i64, ints]) (by first | exact .inl rfl | exact .inr rfl) ?_
 (try simp only [go_sem])
 (try simp (disch := omega) only [wrapI])
 cases hG : goodV ⟨a, l⟩
 · repeat first | intro _ | refine ⟨(by omega), ?_⟩ | refine ⟨⟨by omega, by omega⟩, ?_⟩
   refine hK _ ?_
   clear hK K
   refine awp_sub (sub_keep [1, 2, 11]) ?_
   simp only [go_sem]
   repeat refine awp_seq ?_
   refine awp_cond rfl (fun hc => ?_) (fun hc => ?_) <;> (try simp only [go_sem] at hc)
   repeat refine awp_seq ?_
   refine awp_reg (by kernel_rfl) fun K hK => ?_
   simp only [go_sem]
   (try simp (disch := omega) only [wrapI])
   repeat first | intro _ | refine ⟨(by omega), ?_⟩ | refine ⟨⟨by omega, by omega⟩, ?_⟩
   refine hK _ ?_
   clear hK K
   refine awp_ret ?_
   simp only [go_sem]
   have : aimOk10 d ⟨a, l⟩ = false := by
    unfold goodV at hG
    unfold aimOk10 aimOk
    cases h1 : bedOk a <;> cases h2 : l.isEmpty <;> cases h3 : decide (l.length ≤ 10) <;> cases h4 : seqOk none l <;> simp_all
   simp [this]
 have hl10 : l.length ≤ 10 := by simp [goodV] at hG; exact hG.1.2
 have hG' : bedOk a = true ∧ l.isEmpty = false ∧ seqOk none l = true := by
  simp [goodV] at hG; simp [hG]
 repeat first | intro _ | refine ⟨(by omega), ?_⟩ | refine ⟨⟨by omega, by omega⟩, ?_⟩
 refine hK _ ?_
 clear hK K
 refine awp_sub (sub_keep [1, 2, 11]) ?_
 simp only [go_sem]
 repeat refine awp_seq ?_
 refine awp_cond rfl (fun hc => ?_) (fun hc => ?_) <;> (try simp only [go_sem] at hc)
 refine awp_skip ?_
 try simp only [go_sem]
 repeat refine awp_seq ?_
 refine awp_reg (by kernel_rfl) fun K hK => ?_
 simp only [go_sem]
 (try simp (disch := omega) only [wrapI])
 repeat first | intro _ | refine ⟨(by omega), ?_⟩ | refine ⟨⟨by omega, by omega⟩, ?_⟩
 refine hK _ ?_
 clear hK K
 refine awp_sub (sub_keep [1, 2, 5, 6]) ?_
 simp only [go_sem]
 repeat refine awp_seq ?_
 refine awp_reg (by kernel_rfl) fun K hK => ?_
 simp only [go_sem]
 (try simp (disch := omega) only [wrapI])
 repeat first | intro _ | refine ⟨(by omega), ?_⟩ | refine ⟨⟨by omega, by omega⟩, ?_⟩
 refine hK _ ?_
 clear hK K
 refine awp_sub (sub_keep [1, 2, 5, 6, 7]) ?_
 simp only [go_sem]
 repeat refine awp_seq ?_
 refine awp_block ?_
 refine awp_upto (n := 57) l.length (fun i vs => [(1, .r (i64 d)), (2, .r (.rp [i64 a, bedsR l])), (5, .r (i64 (loS (l.take i)))), (6, .r (i64 (hiS (l.take i)))), (7, .r (i64 i))])
  (fun i => []) (fun i => chOk d (l.take i) = true) 0 (fit_of [] ?_ ?_) (Nat.zero_le _) rfl ?_
 · try simp only [go_sem]
   simp [loS, hiS]
 · try simp only [go_sem]
 · intro i vs hi hI
   have hb := sums_le (chOk_small hI hd)
   have hli : (l.take i).length ≤ 10 := by rw [List.length_take]; omega
   repeat refine awp_seq ?_
   refine awp_reg (by kernel_rfl) fun K hK => ?_
   simp only [go_sem]
   (try simp (disch := omega) only [wrapI])
   repeat first | intro _ | refine ⟨(by omega), ?_⟩ | refine ⟨⟨by omega, by omega⟩, ?_⟩
   refine hK _ ?_
   clear hK K
   refine awp_sub (sub_keep [1, 2, 5, 6, 7, 16]) ?_
   simp only [go_sem]
   repeat refine awp_seq ?_
   refine awp_cond rfl (fun hc => ?_) (fun hc => ?_) <;> (try simp only [go_sem] at hc)
   · skip
     have hci := hc
     obtain ⟨x, hx⟩ := opt_of_lt hc
     have htk := take_of_opt hx
     have hch : chOk d (l.take (i + 1)) = (chOk d (l.take i) && (decide (0 ≤ x.lo) && decide (x.lo ≤ x.hi) && decide (x.hi ≤ d))) := by
      rw [htk]; simp [chOk]
     have bad : (decide (0 ≤ x.lo) && decide (x.lo ≤ x.hi) && decide (x.hi ≤ d)) = false → aimOk10 d ⟨a, l⟩ = false := fun h => by
      have : chOk d l = false := by
       show (l.all fun x => decide (0 ≤ x.lo) && decide (x.lo ≤ x.hi) && decide (x.hi ≤ d)) = false
       exact List.all_eq_false.2 ⟨x, mem_of_opt hx, by simp only [h]; simp⟩
      simp [aimOk10, aimOk, this]
     refine awp_skip ?_
     try simp only [go_sem]
     repeat refine awp_seq ?_
     refine awp_block ?_
     repeat refine awp_seq ?_
     refine awp_reg (by kernel_rfl) fun K hK => ?_
     simp only [go_sem, hx, hci, bedR]
     (try simp (disch := omega) only [wrapI])
     repeat first | intro _ | refine ⟨(by omega), ?_⟩ | refine ⟨⟨by omega, by omega⟩, ?_⟩
     refine hK _ ?_
     clear hK K
     refine awp_sub (sub_frzP 8 8 [i64 x.lo, i64 x.hi] (by omega) rfl rfl) ?_
     refine awp_sub (sub_keep [1, 2, 5, 6, 7, 8]) ?_
     simp only [go_sem]
     by_cases h1 : x.lo < 0
     · have e1 : decide (x.lo < 0) = true := by simpa using h1
       repeat refine awp_seq ?_
       refine awp_reg (by kernel_rfl) fun K hK => ?_
       simp only [go_sem, e1]
       (try simp (disch := omega) only [wrapI])
       repeat first | intro _ | refine ⟨(by omega), ?_⟩ | refine ⟨⟨by omega, by omega⟩, ?_⟩
       refine hK _ ?_
       clear hK K
       refine awp_sub (sub_keep [1, 2, 5, 6, 7, 8, 40]) ?_
       simp only [go_sem]
       repeat refine awp_seq ?_
       refine awp_cond rfl (fun hc => ?_) (fun hc => ?_) <;> (try simp only [go_sem] at hc)
       repeat refine awp_seq ?_
       refine awp_reg (by kernel_rfl) fun K hK => ?_
       simp only [go_sem]
       (try simp (disch := omega) only [wrapI])
       repeat first | intro _ | refine ⟨(by omega), ?_⟩ | refine ⟨⟨by omega, by omega⟩, ?_⟩
       refine hK _ ?_
       clear hK K
       refine awp_ret ?_
       simp only [go_sem]
       simp [bad (by simp; omega)]
     have e1 : decide (x.lo < 0) = false := by simpa using h1
     by_cases h2 : x.hi < x.lo
     · have e2 : decide (x.hi < x.lo) = true := by simpa using h2
       repeat refine awp_seq ?_
       refine awp_reg (by kernel_rfl) fun K hK => ?_
       simp only [go_sem, e1, e2]
       (try simp (disch := omega) only [wrapI])
       repeat first | intro _ | refine ⟨(by omega), ?_⟩ | refine ⟨⟨by omega, by omega⟩, ?_⟩
       refine hK _ ?_
       clear hK K
       refine awp_sub (sub_keep [1, 2, 5, 6, 7, 8, 40]) ?_
       simp only [go_sem]
       repeat refine awp_seq ?_
       refine awp_cond rfl (fun hc => ?_) (fun hc => ?_) <;> (try simp only [go_sem] at hc)
       repeat refine awp_seq ?_
       refine awp_reg (by kernel_rfl) fun K hK => ?_
       simp only [go_sem]
       (try simp (disch := omega) only [wrapI])
       repeat first | intro _ | refine ⟨(by omega), ?_⟩ | refine ⟨⟨by omega, by omega⟩, ?_⟩
       refine hK _ ?_
       clear hK K
       refine awp_ret ?_
       simp only [go_sem]
       simp [bad (by simp; omega)]
     have e2 : decide (x.hi < x.lo) = false := by simpa using h2
     repeat refine awp_seq ?_
     refine awp_reg (by kernel_rfl) fun K hK => ?_
     simp only [go_sem, e1, e2]
     (try simp (disch := omega) only [wrapI])
     repeat first | intro _ | refine ⟨(by omega), ?_⟩ | refine ⟨⟨by omega, by omega⟩, ?_⟩
     refine hK _ ?_
     clear hK K
     refine awp_sub (sub_keep [1, 2, 5, 6, 7, 8, 40]) ?_
     simp only [go_sem]
     repeat refine awp_seq ?_
     refine awp_cond rfl (fun hc => ?_) (fun hc => ?_) <;> (try simp only [go_sem] at hc)
     · skip
       repeat refine awp_seq ?_
       refine awp_reg (by kernel_rfl) fun K hK => ?_
       simp only [go_sem]
       (try simp (disch := omega) only [wrapI])
       repeat first | intro _ | refine ⟨(by omega), ?_⟩ | refine ⟨⟨by omega, by omega⟩, ?_⟩
       refine hK _ ?_
       clear hK K
       refine awp_sub (sub_keep [4]) ?_
       simp only [go_sem]
       refine awp_ret ?_
       simp only [go_sem]
       simp [bad (by simp; omega)]
     · skip
       refine awp_skip ?_
       try simp only [go_sem]
       repeat refine awp_seq ?_
       refine awp_dreg follows (by decide +kernel) (by kernel_rfl) fun K hK => ?_
       simp only [go_sem]
       (try simp (disch := omega) only [wrapI])
       repeat first | intro _ | refine ⟨(by omega), ?_⟩ | refine ⟨⟨by omega, by omega⟩, ?_⟩
       refine hK _ ?_
       clear hK K
       refine awp_sub (sub_keep [1, 2, 5, 6, 7]) ?_
       simp only [go_sem]
       repeat refine awp_seq ?_
       refine awp_reg (by kernel_rfl) fun K hK => ?_
       simp only [go_sem]
       (try simp (disch := omega) only [wrapI])
       repeat first | intro _ | refine ⟨(by omega), ?_⟩ | refine ⟨⟨by omega, by omega⟩, ?_⟩
       refine hK _ ?_
       clear hK K
       try simp only [go_sem]
       refine ⟨hci, ?_, fit_of [] ?_ ?_⟩
       · rw [hch, hI]; simp; omega
       · rw [htk, loS_snoc, hiS_snoc]
         try simp only [go_sem]
       · try simp only [go_sem]
   · skip
     refine awp_exit ?_
     simp only [go_sem]
     have : i = l.length := by omega
     subst this
     rw [List.take_length] at hI hb hli ⊢
     have res : aimOk10 d ⟨a, l⟩ = (decide (loS l ≤ d) && decide (d ≤ hiS l)) := by
      simp [aimOk10, aimOk, hG', hI, hl10]
     repeat refine awp_seq ?_
     refine awp_reg (by kernel_rfl) fun K hK => ?_
     simp only [go_sem]
     (try simp (disch := omega) only [wrapI])
     repeat' first | intro _ | refine And.intro ?_ ?_
     all_goals first | omega | skip
     all_goals (refine hK _ ?_; clear hK K)
     all_goals (refine awp_ret ?_; simp only [go_sem])
     all_goals simp_all
theorem refCheck_ok (d : Int) (l : List Am) (hw : WfL d l) : ACalls Try.prog 17 [lawV d l] (i64 (checkV d l)) := by
 refine acalls_st (rs := [i64 (checkV d l)]) [.tmp 2] Try.func17 rfl (by kernel_rfl) Try.ntmps17 rfl (by simp) rfl fun C vs => ?_
 repeat refine awp_seq ?_
 refine awp_reg (by kernel_rfl) fun K hK => ?_
 simp only [go_sem]
 (try simp (disch := omega) only [wrapI])
 repeat first | intro _ | refine ⟨(by omega), ?_⟩ | refine ⟨⟨by omega, by omega⟩, ?_⟩
 refine hK _ ?_
 clear hK K
 refine awp_sub (sub_frzP 1 1 [i64 d, aimsR l] (by omega) rfl rfl) ?_
 refine awp_sub (sub_keep [1]) ?_
 simp only [go_sem]
 repeat refine awp_seq ?_
 refine awp_reg (by kernel_rfl) fun K hK => ?_
 simp only [go_sem]
 (try simp (disch := omega) only [wrapI])
 intro hl0
 repeat first | intro _ | refine ⟨(by omega), ?_⟩ | refine ⟨⟨by omega, by omega⟩, ?_⟩
 refine hK _ ?_
 clear hK K
 refine awp_sub (sub_keep [1, 8]) ?_
 simp only [go_sem]
 repeat refine awp_seq ?_
 refine awp_cond rfl (fun hc => ?_) (fun hc => ?_) <;> (try simp only [go_sem] at hc)
 · skip
   repeat refine awp_seq ?_
   refine awp_reg (by kernel_rfl) fun K hK => ?_
   simp only [go_sem]
   (try simp (disch := omega) only [wrapI])
   repeat first | intro _ | refine ⟨(by omega), ?_⟩ | refine ⟨⟨by omega, by omega⟩, ?_⟩
   refine hK _ ?_
   clear hK K
   refine awp_sub (sub_keep [2]) ?_
   simp only [go_sem]
   refine awp_ret ?_
   simp only [go_sem]
   have : 20 < l.length := by omega
   simp [checkV, this]
 · skip
   have hl : ¬ 20 < l.length := by omega
   refine awp_skip ?_
   try simp only [go_sem]
   repeat refine awp_seq ?_
   refine awp_reg (by kernel_rfl) fun K hK => ?_
   simp only [go_sem]
   (try simp (disch := omega) only [wrapI])
   repeat first | intro _ | refine ⟨(by omega), ?_⟩ | refine ⟨⟨by omega, by omega⟩, ?_⟩
   refine hK _ ?_
   clear hK K
   refine awp_sub (sub_keep [1, 3]) ?_
   simp only [go_sem]
   repeat refine awp_seq ?_
   refine awp_block ?_
   refine awp_upto (n := 54) l.length (fun i vs => [(1, .r (.rp [i64 d, aimsR l])), (3, .r (i64 i))])
    (fun i => []) (fun i => (l.take i).any (fun a => decide (10 < a.beds.length)) = false) 0 (fit_of [] ?_ ?_) (Nat.zero_le _) rfl ?_
   · try simp only [go_sem]
   · try simp only [go_sem]
   · intro i vs hi hI
     repeat refine awp_seq ?_
     refine awp_reg (by kernel_rfl) fun K hK => ?_
     simp only [go_sem]
     (try simp (disch := omega) only [wrapI])
     repeat first | intro _ | refine ⟨(by omega), ?_⟩ | refine ⟨⟨by omega, by omega⟩, ?_⟩
     refine hK _ ?_
     clear hK K
     refine awp_sub (sub_keep [1, 3, 13]) ?_
     simp only [go_sem]
     repeat refine awp_seq ?_
     refine awp_cond rfl (fun hc => ?_) (fun hc => ?_) <;> (try simp only [go_sem] at hc)
     · skip
       have hci := hc
       obtain ⟨x, hx⟩ := opt_of_lt hc
       refine awp_skip ?_
       try simp only [go_sem]
       repeat refine awp_seq ?_
       refine awp_block ?_
       repeat refine awp_seq ?_
       refine awp_reg (by kernel_rfl) fun K hK => ?_
       simp only [go_sem, hx, hci, aimR]
       (try simp (disch := omega) only [wrapI])
       intro _
       repeat first | intro _ | refine ⟨(by omega), ?_⟩ | refine ⟨⟨by omega, by omega⟩, ?_⟩
       refine hK _ ?_
       clear hK K
       refine awp_sub (sub_keep [1, 3, 23]) ?_
       simp only [go_sem]
       repeat refine awp_seq ?_
       refine awp_cond rfl (fun hc => ?_) (fun hc => ?_) <;> (try simp only [go_sem] at hc)
       · skip
         repeat refine awp_seq ?_
         refine awp_reg (by kernel_rfl) fun K hK => ?_
         simp only [go_sem]
         (try simp (disch := omega) only [wrapI])
         repeat first | intro _ | refine ⟨(by omega), ?_⟩ | refine ⟨⟨by omega, by omega⟩, ?_⟩
         refine hK _ ?_
         clear hK K
         refine awp_sub (sub_keep [2]) ?_
         simp only [go_sem]
         refine awp_ret ?_
         simp only [go_sem]
         have : 10 < x.beds.length := by omega
         simp [checkV, any_of hx (p := fun a => decide (10 < a.beds.length)) (by simpa using this)]
       · skip
         refine awp_skip ?_
         try simp only [go_sem]
         repeat refine awp_seq ?_
         refine awp_reg (by kernel_rfl) fun K hK => ?_
         simp only [go_sem]
         (try simp (disch := omega) only [wrapI])
         repeat first | intro _ | refine ⟨(by omega), ?_⟩ | refine ⟨⟨by omega, by omega⟩, ?_⟩
         refine hK _ ?_
         clear hK K
         try simp only [go_sem]
         refine ⟨hci, ?_, fit_of [] ?_ ?_⟩
         · rw [any_step hx, hI]
           simp
           omega
         · try simp only [go_sem]
         · try simp only [go_sem]
     · skip
       refine awp_exit ?_
       simp only [go_sem]
       have : i = l.length := by omega
       subst this
       rw [List.take_length] at hI
       have hlen : ∀ x ∈ l, x.beds.length ≤ 10 := fun x hx => by
        have := List.any_eq_false.1 hI x hx
        simp at this; omega
       by_cases hz : l = []
       · subst hz
         repeat refine awp_seq ?_
         refine awp_reg (by kernel_rfl) fun K hK => ?_
         simp only [go_sem]
         (try simp (disch := omega) only [wrapI])
         repeat first | intro _ | refine ⟨(by omega), ?_⟩ | refine ⟨⟨by omega, by omega⟩, ?_⟩
         refine hK _ ?_
         clear hK K
         refine awp_sub (sub_keep [1, 37]) ?_
         simp only [go_sem]
         repeat refine awp_seq ?_
         refine awp_cond rfl (fun hc => ?_) (fun hc => ?_) <;> (try simp only [go_sem] at hc)
         repeat refine awp_seq ?_
         refine awp_reg (by kernel_rfl) fun K hK => ?_
         simp only [go_sem]
         (try simp (disch := omega) only [wrapI])
         repeat first | intro _ | refine ⟨(by omega), ?_⟩ | refine ⟨⟨by omega, by omega⟩, ?_⟩
         refine hK _ ?_
         clear hK K
         refine awp_ret ?_
         simp only [go_sem]
         simp [checkV]
       have hz' : ((l.length : Int) == 0) = false := by
        cases l with
        | nil => simp at hz
        | cons => simp; omega
       have hze : l.isEmpty = false := by cases l <;> simp at hz ⊢
       by_cases h1 : d < 1
       · have e1 : decide (d < 1) = true := by simpa using h1
         repeat refine awp_seq ?_
         refine awp_reg (by kernel_rfl) fun K hK => ?_
         simp only [go_sem, hz', e1]
         (try simp (disch := omega) only [wrapI])
         repeat first | intro _ | refine ⟨(by omega), ?_⟩ | refine ⟨⟨by omega, by omega⟩, ?_⟩
         refine hK _ ?_
         clear hK K
         refine awp_sub (sub_keep [1, 37]) ?_
         simp only [go_sem]
         repeat refine awp_seq ?_
         refine awp_cond rfl (fun hc => ?_) (fun hc => ?_) <;> (try simp only [go_sem] at hc)
         repeat refine awp_seq ?_
         refine awp_reg (by kernel_rfl) fun K hK => ?_
         simp only [go_sem]
         (try simp (disch := omega) only [wrapI])
         repeat first | intro _ | refine ⟨(by omega), ?_⟩ | refine ⟨⟨by omega, by omega⟩, ?_⟩
         refine hK _ ?_
         clear hK K
         refine awp_ret ?_
         simp only [go_sem]
         have : ¬ 1 ≤ d := by omega
         simp [checkV, hl, hI, hze, this]
       have e1 : decide (d < 1) = false := by simpa using h1
       repeat refine awp_seq ?_
       refine awp_reg (by kernel_rfl) fun K hK => ?_
       simp only [go_sem, hz', e1]
       (try simp (disch := omega) only [wrapI])
       intro _
       repeat first | intro _ | refine ⟨(by omega), ?_⟩ | refine ⟨⟨by omega, by omega⟩, ?_⟩
       refine hK _ ?_
       clear hK K
       refine awp_sub (sub_keep [1, 37]) ?_
       simp only [go_sem]
       repeat refine awp_seq ?_
       refine awp_cond rfl (fun hc => ?_) (fun hc => ?_) <;> (try simp only [go_sem] at hc)
       · skip
         repeat refine awp_seq ?_
         refine awp_reg (by kernel_rfl) fun K hK => ?_
         simp only [go_sem]
         (try simp (disch := omega) only [wrapI])
         repeat first | intro _ | refine ⟨(by omega), ?_⟩ | refine ⟨⟨by omega, by omega⟩, ?_⟩
         refine hK _ ?_
         clear hK K
         refine awp_sub (sub_keep [2]) ?_
         simp only [go_sem]
         refine awp_ret ?_
         simp only [go_sem]
         have : ¬ d ≤ 3000 := by omega
         simp [checkV, hl, hI, hze, this]
       · skip
         have h2 : 1 ≤ d ∧ d ≤ 3000 := by omega
         have cv : checkV d l = if l.all (aimOk d) = true then 0 else 2 := by simp [checkV, hl, hI, hze, h2]
         refine awp_skip ?_
         try simp only [go_sem]
         repeat refine awp_seq ?_
         refine awp_reg (by kernel_rfl) fun K hK => ?_
         simp only [go_sem]
         (try simp (disch := omega) only [wrapI])
         repeat first | intro _ | refine ⟨(by omega), ?_⟩ | refine ⟨⟨by omega, by omega⟩, ?_⟩
         refine hK _ ?_
         clear hK K
         refine awp_sub (sub_keep [1, 4]) ?_
         simp only [go_sem]
         repeat refine awp_seq ?_
         refine awp_block ?_
         refine awp_upto (n := 54) l.length (fun i vs => [(1, .r (.rp [i64 d, aimsR l])), (4, .r (i64 i))])
          (fun i => []) (fun i => (l.take i).all (aimOk d) = true) 0 (fit_of [] ?_ ?_) (Nat.zero_le _) rfl ?_
         · try simp only [go_sem]
         · try simp only [go_sem]
         · intro i vs hi hI
           repeat refine awp_seq ?_
           refine awp_reg (by kernel_rfl) fun K hK => ?_
           simp only [go_sem]
           (try simp (disch := omega) only [wrapI])
           repeat first | intro _ | refine ⟨(by omega), ?_⟩ | refine ⟨⟨by omega, by omega⟩, ?_⟩
           refine hK _ ?_
           clear hK K
           refine awp_sub (sub_keep [1, 4, 42]) ?_
           simp only [go_sem]
           repeat refine awp_seq ?_
           refine awp_cond rfl (fun hc => ?_) (fun hc => ?_) <;> (try simp only [go_sem] at hc)
           · skip
             have hci := hc
             obtain ⟨x, hx⟩ := opt_of_lt hc
             have hx10 : aimOk10 d x = aimOk d x := by
              have := hlen x (mem_of_opt hx)
              simp [aimOk10, this]
             refine awp_skip ?_
             try simp only [go_sem]
             repeat refine awp_seq ?_
             refine awp_block ?_
             repeat refine awp_seq ?_
             refine awp_dreg follows (by decide +kernel) (by kernel_rfl) fun K hK => ?_
             simp only [go_sem, hx, hci, aimR]
             (try simp (disch := omega) only [wrapI])
             refine xcall_eq (refAim_ok x d (hw.2 x (mem_of_opt hx)) (by omega)) rfl (by simp only [go_sem, i64, ints]) (by simp only [go_sem, i64, ints]) (by first | exact .inl rfl | exact .inr rfl) ?_
             (try simp only [go_sem])
             (try simp (disch := omega) only [wrapI])
             rw [hx10]
             cases hv : aimOk d x
             · repeat first | intro _ | refine ⟨(by omega), ?_⟩ | refine ⟨⟨by omega, by omega⟩, ?_⟩
               refine hK _ ?_
               clear hK K
               refine awp_sub (sub_keep [1, 4, 53]) ?_
               simp only [go_sem]
               repeat refine awp_seq ?_
               refine awp_cond rfl (fun hc => ?_) (fun hc => ?_) <;> (try simp only [go_sem] at hc)
               repeat refine awp_seq ?_
               refine awp_reg (by kernel_rfl) fun K hK => ?_
               simp only [go_sem]
               (try simp (disch := omega) only [wrapI])
               repeat first | intro _ | refine ⟨(by omega), ?_⟩ | refine ⟨⟨by omega, by omega⟩, ?_⟩
               refine hK _ ?_
               clear hK K
               refine awp_ret ?_
               simp only [go_sem]
               have : l.all (aimOk d) = false := List.all_eq_false.2 ⟨x, mem_of_opt hx, by rw [hv]; simp⟩
               simp [cv, this]
             · repeat first | intro _ | refine ⟨(by omega), ?_⟩ | refine ⟨⟨by omega, by omega⟩, ?_⟩
               refine hK _ ?_
               clear hK K
               refine awp_sub (sub_keep [1, 4, 53]) ?_
               simp only [go_sem]
               repeat refine awp_seq ?_
               refine awp_cond rfl (fun hc => ?_) (fun hc => ?_) <;> (try simp only [go_sem] at hc)
               refine awp_skip ?_
               try simp only [go_sem]
               repeat refine awp_seq ?_
               refine awp_reg (by kernel_rfl) fun K hK => ?_
               simp only [go_sem]
               (try simp (disch := omega) only [wrapI])
               repeat first | intro _ | refine ⟨(by omega), ?_⟩ | refine ⟨⟨by omega, by omega⟩, ?_⟩
               refine hK _ ?_
               clear hK K
               try simp only [go_sem]
               refine ⟨hci, ?_, fit_of [] ?_ ?_⟩
               · rw [take_of_opt hx]; simp [hI, hv]
               · try simp only [go_sem]
               · try simp only [go_sem]
           · skip
             refine awp_exit ?_
             simp only [go_sem]
             repeat refine awp_seq ?_
             refine awp_reg (by kernel_rfl) fun K hK => ?_
             simp only [go_sem]
             (try simp (disch := omega) only [wrapI])
             repeat first | intro _ | refine ⟨(by omega), ?_⟩ | refine ⟨⟨by omega, by omega⟩, ?_⟩
             refine hK _ ?_
             clear hK K
             refine awp_sub (sub_keep [2]) ?_
             simp only [go_sem]
             refine awp_ret ?_
             simp only [go_sem]
             have : i = l.length := by omega
             rw [this, List.take_length] at hI
             simp [cv, hI]
end Go.Proofs.Ytgkejinoaommeaa

namespace Go.Proofs.Ytgkejinoaommeaa
open Go Go.Oc
set_option linter.unusedSimpArgs false
set_option linter.unusedVariables false
def Len10 (xs : List (List Int)) : Prop := ∀ t ∈ xs, SmallT 3 t
theorem getD_zipWith {f : Int → Int → Int} {a b : List Int} {k : Nat} (h1 : k < a.length) (h2 : k < b.length) : (List.zipWith f a b).getD k 0 = f (a.getD k 0) (b.getD k 0) := by
 simp [List.getD_eq_getElem?_getD, List.getElem?_zipWith, List.getElem?_eq_getElem h1, List.getElem?_eq_getElem h2]
theorem accL_len {xs : List (List Int)} (h : Len10 xs) : (accL xs).2.1.length = 10 ∧ (accL xs).2.2.length = 10 := by
 obtain ⟨h1, h2⟩ := accL_small (b := 3) (by omega) xs h
 exact ⟨h1.1, h2.1⟩
theorem accL_least {k : Nat} (hk : k < 10) : ∀ (n : Nat) (xs : List (List Int)), xs.length = n → xs ≠ [] → Len10 xs →
 (∃ t ∈ xs, t.getD k 0 = (accL xs).2.1.getD k 0) ∧ ∀ t ∈ xs, (accL xs).2.1.getD k 0 ≤ t.getD k 0 := by
 intro n
 induction n with
 | zero => intro xs h0 hne; exact absurd (List.length_eq_zero_iff.1 h0) hne
 | succ n ih =>
   intro xs hl hne hs
   rcases List.eq_nil_or_concat xs with rfl | ⟨ys, t, rfl⟩
   · exact absurd rfl hne
   rw [List.concat_eq_append] at *
   have ht := hs t (by simp)
   have hys : Len10 ys := fun x hx => hs x (by simp [hx])
   rw [accL_snoc]
   simp only [accT]
   cases ys with
   | nil => simp [accL, leastT]
   | cons y ys =>
     obtain ⟨⟨u, hu, e⟩, hle⟩ := ih (y :: ys) (by simpa using hl) (by simp) hys
     have hb : (accL (y :: ys)).1 = true := by rw [accL_some]; rfl
     have hlen := (accL_len hys).1
     simp only [hb, leastT, if_true]
     rw [getD_zipWith (by omega) (by rw [ht.1]; omega)]
     refine ⟨?_, fun x hx => ?_⟩
     · by_cases hc : (accL (y :: ys)).2.1.getD k 0 ≤ t.getD k 0
       · exact ⟨u, List.mem_append_left _ hu, by rw [e]; omega⟩
       · exact ⟨t, by simp, by omega⟩
     · rcases List.mem_append.1 hx with hx | hx
       · have := hle x hx; omega
       · have : x = t := by simpa using hx
         subst this; omega
theorem getD_nonneg {t : List Int} (h : SmallT 3 t) (k : Nat) : 0 ≤ t.getD k 0 := by
 by_cases hk : k < t.length
 · have := h.2 (t.getD k 0) (by rw [List.getD_eq_getElem?_getD, List.getElem?_eq_getElem hk]; simp)
   exact this.1
 · rw [List.getD_eq_getElem?_getD, List.getElem?_eq_none (by omega)]; simp
theorem accL_most {k : Nat} (hk : k < 10) : ∀ (n : Nat) (xs : List (List Int)), xs.length = n → xs ≠ [] → Len10 xs →
 (∃ t ∈ xs, t.getD k 0 = (accL xs).2.2.getD k 0) ∧ ∀ t ∈ xs, t.getD k 0 ≤ (accL xs).2.2.getD k 0 := by
 intro n
 induction n with
 | zero => intro xs h0 hne; exact absurd (List.length_eq_zero_iff.1 h0) hne
 | succ n ih =>
   intro xs hl hne hs
   rcases List.eq_nil_or_concat xs with rfl | ⟨ys, t, rfl⟩
   · exact absurd rfl hne
   rw [List.concat_eq_append] at *
   have ht := hs t (by simp)
   have hys : Len10 ys := fun x hx => hs x (by simp [hx])
   have hn := getD_nonneg ht k
   rw [accL_snoc]
   simp only [accT, mostT]
   cases ys with
   | nil =>
     rw [getD_zipWith (by rw [(accL_len (xs := []) (by simp [Len10])).2]; omega) (by rw [ht.1]; omega)]
     have hz : (accL []).2.2.getD k 0 = 0 := by
      simp only [accL, List.foldl_nil]
      rcases k with _ | _ | _ | _ | _ | _ | _ | _ | _ | _ | k <;> first | rfl | omega
     rw [hz]
     refine ⟨⟨t, by simp, by omega⟩, fun x hx => ?_⟩
     have : x = t := by simpa using hx
     subst this; omega
   | cons y ys =>
     obtain ⟨⟨u, hu, e⟩, hle⟩ := ih (y :: ys) (by simpa using hl) (by simp) hys
     have hlen := (accL_len hys).2
     rw [getD_zipWith (by omega) (by rw [ht.1]; omega)]
     refine ⟨?_, fun x hx => ?_⟩
     · by_cases hc : t.getD k 0 ≤ (accL (y :: ys)).2.2.getD k 0
       · exact ⟨u, List.mem_append_left _ hu, by rw [e]; omega⟩
       · exact ⟨t, by simp, by omega⟩
     · rcases List.mem_append.1 hx with hx | hx
       · have := hle x hx; omega
       · have : x = t := by simpa using hx
         subst this; omega
theorem ext_getD {a b : List Int} {n : Nat} (h1 : a.length = n) (h2 : b.length = n) (h : ∀ k, k < n → a.getD k 0 = b.getD k 0) : a = b := by
 apply List.ext_getElem?
 intro k
 by_cases hk : k < n
 · have := h k hk
   rw [List.getD_eq_getElem?_getD, List.getD_eq_getElem?_getD, List.getElem?_eq_getElem (by omega), List.getElem?_eq_getElem (by omega)] at this
   rw [List.getElem?_eq_getElem (by omega), List.getElem?_eq_getElem (by omega)]
   simpa using this
 · rw [List.getElem?_eq_none (by omega), List.getElem?_eq_none (by omega)]
theorem accL_congr {xs ys : List (List Int)} (hx : Len10 xs) (h : ∀ t, t ∈ xs ↔ t ∈ ys) : accL xs = accL ys := by
 have hy : Len10 ys := fun t ht => hx t ((h t).2 ht)
 by_cases he : xs = []
 · subst he
   have : ys = [] := List.eq_nil_iff_forall_not_mem.2 fun t ht => by simpa using (h t).2 ht
   rw [this]
 have he2 : ys ≠ [] := fun e => by
  subst e
  exact he (List.eq_nil_iff_forall_not_mem.2 fun t ht => by simpa using (h t).1 ht)
 have e1 : (accL xs).1 = (accL ys).1 := by
  rw [accL_some, accL_some]
  cases xs <;> cases ys <;> simp_all
 have e2 : (accL xs).2.1 = (accL ys).2.1 := by
  refine ext_getD (accL_len hx).1 (accL_len hy).1 fun k hk => ?_
  obtain ⟨⟨t, ht, a1⟩, a2⟩ := accL_least hk _ xs rfl he hx
  obtain ⟨⟨u, hu, b1⟩, b2⟩ := accL_least hk _ ys rfl he2 hy
  have := a2 u ((h u).2 hu)
  have := b2 t ((h t).1 ht)
  omega
 have e3 : (accL xs).2.2 = (accL ys).2.2 := by
  refine ext_getD (accL_len hx).2 (accL_len hy).2 fun k hk => ?_
  obtain ⟨⟨t, ht, a1⟩, a2⟩ := accL_most hk _ xs rfl he hx
  obtain ⟨⟨u, hu, b1⟩, b2⟩ := accL_most hk _ ys rfl he2 hy
  have := a2 u ((h u).2 hu)
  have := b2 t ((h t).1 ht)
  omega
 exact Prod.ext e1 (Prod.ext e2 e3)
theorem incT_comm (t : List Int) (i k : Nat) : incT (incT t i) k = incT (incT t k) i := by
 by_cases h : i = k
 · rw [h]
 · have hg : ∀ (t : List Int) (i k : Nat), i ≠ k → (t.set i (t.getD i 0 + 1)).getD k 0 = t.getD k 0 := by
    intro t i k h
    rw [List.getD_eq_getElem?_getD, List.getElem?_set_ne h, List.getD_eq_getElem?_getD]
   unfold incT
   rw [hg t i k h, hg t k i (Ne.symm h)]
   exact List.set_comm _ _ h
theorem tally3_12 (i k m : Nat) : tally3 i k m = tally3 k i m := by unfold tally3; rw [incT_comm zeroT]
theorem tally3_23 (i k m : Nat) : tally3 i k m = tally3 i m k := by unfold tally3; rw [incT_comm (incT zeroT i)]
theorem mem_rangeDrop {N m x : Nat} : x ∈ (List.range N).drop m ↔ m ≤ x ∧ x < N := by
 rw [List.mem_iff_getElem?]
 constructor
 · rintro ⟨i, hi⟩
   rw [List.getElem?_drop] at hi
   obtain ⟨h1, h2⟩ := List.getElem?_eq_some_iff.1 hi
   simp at h1 h2
   omega
 · rintro ⟨h1, h2⟩
   refine ⟨x - m, ?_⟩
   rw [List.getElem?_drop, show m + (x - m) = x by omega, List.getElem?_range h2]
def sum3 (beds : List Int) (x y z : Nat) : Int := scoreOf (beds.getD x 0) + scoreOf (beds.getD y 0) + scoreOf (beds.getD z 0)
theorem mem_three {beds : List Int} {n : Int} {t : List Int} : t ∈ threeT beds n ↔ ∃ i k m, i ≤ k ∧ k ≤ m ∧ m < beds.length ∧ sum3 beds i k m = n ∧ t = tally3 i k m := by
 simp only [threeT, rowI, rowK, rowM, List.mem_flatMap, mem_rangeDrop, cell3, sum3]
 constructor
 · rintro ⟨i, hi, k, hk, m, hm, ht⟩
   split at ht
   · exact ⟨i, k, m, hk.1, hm.1, hm.2, by assumption, by simpa using ht⟩
   · simp at ht
 · rintro ⟨i, k, m, h1, h2, h3, h4, rfl⟩
   refine ⟨i, ⟨by omega, by omega⟩, k, ⟨by omega, by omega⟩, m, ⟨by omega, by omega⟩, ?_⟩
   rw [if_pos h4]
   simp
theorem sum3_12 (beds : List Int) (x y z : Nat) : sum3 beds x y z = sum3 beds y x z := by unfold sum3; omega
theorem sum3_23 (beds : List Int) (x y z : Nat) : sum3 beds x y z = sum3 beds x z y := by unfold sum3; omega
theorem mem_three' {beds : List Int} {n : Int} {t : List Int} : t ∈ threeT beds n ↔ ∃ x y z, x < beds.length ∧ y < beds.length ∧ z < beds.length ∧ sum3 beds x y z = n ∧ t = tally3 x y z := by
 rw [mem_three]
 constructor
 · rintro ⟨i, k, m, h1, h2, h3, h4, h5⟩
   exact ⟨i, k, m, by omega, by omega, h3, h4, h5⟩
 · rintro ⟨x, y, z, h1, h2, h3, h4, rfl⟩
   by_cases a : x ≤ y
   · by_cases b : y ≤ z
     · exact ⟨x, y, z, a, b, h3, h4, rfl⟩
     · by_cases c : x ≤ z
       · exact ⟨x, z, y, c, by omega, h2, by rw [← sum3_23]; exact h4, tally3_23 _ _ _⟩
       · exact ⟨z, x, y, by omega, a, h2, by rw [sum3_12, ← sum3_23]; exact h4, by rw [tally3_23, tally3_12]⟩
   · by_cases b : x ≤ z
     · exact ⟨y, x, z, by omega, b, h3, by rw [← sum3_12]; exact h4, tally3_12 _ _ _⟩
     · by_cases c : y ≤ z
       · exact ⟨y, z, x, c, by omega, h1, by rw [← sum3_23, ← sum3_12]; exact h4, by rw [tally3_12, tally3_23]⟩
       · exact ⟨z, y, x, by omega, by omega, h1, by rw [sum3_12, ← sum3_23, ← sum3_12]; exact h4, by rw [tally3_12, tally3_23, tally3_12]⟩
def hasV (beds ds : List Int) (n : Int) (x y z : Nat) : Bool :=
 if ds = [] then decide (sum3 beds x y z = n) else decide (ds.getD 0 0 = beds.getD x 0) && decide (ds.getD 1 0 = beds.getD y 0) && decide (ds.getD 2 0 = beds.getD z 0)
def tripT (beds ds : List Int) (n : Int) (i : Nat) : List (List Int) :=
 let N := beds.length
 if hasV beds ds n (i / N / N) (i / N % N) (i % N) then [tally3 (i / N / N) (i / N % N) (i % N)] else []
def refTs (beds ds : List Int) (n : Int) (i : Nat) : List (List Int) := (List.range i).flatMap (tripT beds ds n)
theorem refTs_step (beds ds : List Int) (n : Int) (i : Nat) : refTs beds ds n (i + 1) = refTs beds ds n i ++ tripT beds ds n i := by
 simp [refTs, List.range_succ]
theorem refTs_small {beds ds : List Int} {n : Int} {i : Nat} : Len10 (refTs beds ds n i) := by
 intro t ht
 simp only [refTs, List.mem_flatMap, tripT] at ht
 obtain ⟨j, _, h⟩ := ht
 split at h
 · rw [List.mem_singleton.1 h]; exact tally3_small _ _ _
 · simp at h
theorem mem_refTs {beds ds : List Int} {n : Int} {t : List Int} : t ∈ refTs beds ds n (beds.length * beds.length * beds.length) ↔ ∃ x y z, x < beds.length ∧ y < beds.length ∧ z < beds.length ∧ hasV beds ds n x y z = true ∧ t = tally3 x y z := by
 simp only [refTs, List.mem_flatMap, tripT, List.mem_range]
 generalize beds.length = N
 constructor
 · rintro ⟨i, hi, h⟩
   split at h
   · have ht := List.mem_singleton.1 h
     have hN : 0 < N := by
      rcases Nat.eq_zero_or_pos N with h0 | h0
      · rw [h0] at hi; simp at hi
      · exact h0
     refine ⟨i / N / N, i / N % N, i % N, ?_, Nat.mod_lt _ hN, Nat.mod_lt _ hN, by assumption, ht⟩
     rw [Nat.div_div_eq_div_mul, Nat.div_lt_iff_lt_mul (Nat.mul_pos hN hN)]
     rw [Nat.mul_assoc] at hi
     exact hi
   · simp at h
 · rintro ⟨x, y, z, hx, hy, hz, hh, rfl⟩
   have hN : 0 < N := by omega
   have e0 : (x * N * N + y * N + z) / N = x * N + y := by
    rw [show x * N * N + y * N + z = z + (x * N + y) * N by rw [Nat.add_mul]; omega, Nat.add_mul_div_right _ _ hN, Nat.div_eq_of_lt hz, Nat.zero_add]
   have e1 : (x * N * N + y * N + z) % N = z := by
    rw [show x * N * N + y * N + z = z + (x * N + y) * N by rw [Nat.add_mul]; omega, Nat.add_mul_mod_self_right, Nat.mod_eq_of_lt hz]
   have e2 : (x * N + y) / N = x := by rw [Nat.add_comm, Nat.add_mul_div_right _ _ hN, Nat.div_eq_of_lt hy, Nat.zero_add]
   have e3 : (x * N + y) % N = y := by rw [Nat.add_comm, Nat.add_mul_mod_self_right, Nat.mod_eq_of_lt hy]
   refine ⟨x * N * N + y * N + z, ?_, ?_⟩
   · have h1 : (x + 1) * N * N ≤ N * N * N := Nat.mul_le_mul_right _ (Nat.mul_le_mul_right _ hx)
     have h2 : (y + 1) * N ≤ N * N := Nat.mul_le_mul_right _ hy
     rw [Nat.add_mul, Nat.add_mul, Nat.one_mul] at h1
     rw [Nat.add_mul, Nat.one_mul] at h2
     omega
   · simp only [e0, e1, e2, e3, hh, if_true, List.mem_singleton]
theorem atE_mem (v : Int) : ∀ (l : List Int), (atE l v < 0 → v ∉ l) ∧ (0 ≤ atE l v → l[(atE l v).toNat]? = some v)
 | [] => by simp [atE, indexF]
 | x :: l => by
   obtain ⟨h1, h2⟩ := atE_mem v l
   unfold atE at *
   simp only [indexF]
   by_cases hv : v = x
   · subst hv
     simp
   · have hb : (v == x) = false := by simpa using hv
     simp only [hb, Bool.false_eq_true, if_false]
     split
     · rename_i hlt
       refine ⟨fun _ => ?_, fun h => by omega⟩
       simp [hv, h1 hlt]
     · rename_i hge
       refine ⟨fun h => by omega, fun _ => ?_⟩
       have := h2 (by omega)
       rw [show (indexF (fun x => v == x) l + 1).toNat = (indexF (fun x => v == x) l).toNat + 1 by omega, List.getElem?_cons_succ]
       exact this
theorem seqOk_pair : ∀ {l : List Bd} {p : Option Int}, seqOk p l = true → (l.map (·.b)).Pairwise (· < ·) ∧ ∀ q, p = some q → ∀ x ∈ l.map (·.b), q < x
 | [], _, _ => by simp
 | x :: l, p, h => by
   simp only [seqOk, Bool.and_eq_true] at h
   obtain ⟨h1, h2⟩ := seqOk_pair h.2
   refine ⟨List.pairwise_cons.2 ⟨h2 _ rfl, h1⟩, fun q hq y hy => ?_⟩
   subst hq
   have hx : q < x.b := by simpa using h.1.2
   rcases List.mem_cons.1 hy with rfl | hy
   · exact hx
   · have := h2 _ rfl y hy; omega
theorem getD_inj {l : List Int} (h : l.Pairwise (· < ·)) {x y : Nat} (hx : x < l.length) (hy : y < l.length) (he : l.getD x 0 = l.getD y 0) : x = y := by
 rw [List.getD_eq_getElem?_getD, List.getD_eq_getElem?_getD, List.getElem?_eq_getElem hx, List.getElem?_eq_getElem hy] at he
 simp only [Option.getD_some] at he
 rw [List.pairwise_iff_getElem] at h
 rcases Nat.lt_trichotomy x y with c | c | c
 · have := h x y hx hy c; omega
 · exact c
 · have := h y x hy hx c; omega
theorem atE_getD {l : List Int} (h : l.Pairwise (· < ·)) {x : Nat} (hx : x < l.length) : atE l (l.getD x 0) = x := by
 have hm : l.getD x 0 ∈ l := by
  rw [List.getD_eq_getElem?_getD, List.getElem?_eq_getElem hx]; simp
 obtain ⟨h1, h2⟩ := atE_mem (l.getD x 0) l
 have h0 : 0 ≤ atE l (l.getD x 0) := by
  rcases Int.lt_or_le (atE l (l.getD x 0)) 0 with c | c
  · exact absurd hm (h1 c)
  · exact c
 have := h2 h0
 obtain ⟨a, b⟩ := List.getElem?_eq_some_iff.1 this
 have := getD_inj h a hx (by rw [List.getD_eq_getElem?_getD, List.getElem?_eq_getElem a, b]; simp)
 omega
theorem mem_truthsV {bs ds : List Int} {n : Int} {t : List Int} (hp : bs.Pairwise (· < ·)) (hd : ds = [] ∨ ds.length = 3) : t ∈ truthsV bs ds n ↔ t ∈ refTs bs ds n (bs.length * bs.length * bs.length) := by
 rw [mem_refTs]
 unfold truthsV
 split
 · rename_i h0
   simp only [hasV, h0, if_true, decide_eq_true_eq]
   exact mem_three'
 · rename_i h0
   obtain ⟨d0, d1, d2, rfl⟩ : ∃ a b c, ds = [a, b, c] := by
    rcases ds with _ | ⟨a, _ | ⟨b, _ | ⟨c, _ | ⟨d, l⟩⟩⟩⟩ <;> simp at hd h0 ⊢
   simp only [hasV, h0, if_false, List.getD_cons_zero, List.getD_cons_succ, Bool.and_eq_true, decide_eq_true_eq]
   constructor
   · intro h
     simp only [truthsK, tallyK] at h
     split at h
     · rename_i r he
       have hr := List.mem_singleton.1 h
       subst hr
       split at he
       · cases he
       rename_i a0
       split at he
       · cases he
       rename_i a1
       split at he
       · cases he
       rename_i a2
       have b0 := (atE_mem d0 bs).2 (by omega)
       have b1 := (atE_mem d1 bs).2 (by omega)
       have b2 := (atE_mem d2 bs).2 (by omega)
       refine ⟨_, _, _, (List.getElem?_eq_some_iff.1 b0).1, (List.getElem?_eq_some_iff.1 b1).1, (List.getElem?_eq_some_iff.1 b2).1, ⟨⟨?_, ?_⟩, ?_⟩, (Option.some.inj he).symm⟩
       · rw [List.getD_eq_getElem?_getD, b0]; rfl
       · rw [List.getD_eq_getElem?_getD, b1]; rfl
       · rw [List.getD_eq_getElem?_getD, b2]; rfl
     · cases h
   · rintro ⟨x, y, z, hx, hy, hz, ⟨⟨rfl, rfl⟩, rfl⟩, rfl⟩
     simp only [truthsK, tallyK, atE_getD hp hx, atE_getD hp hy, atE_getD hp hz]
     rw [if_neg (by omega), if_neg (by omega), if_neg (by omega)]
     simp [tally3]
def spanAt (xs : List (List Int)) (k : Nat) : List RV := [i64 ((accL xs).2.1.getD k 0), i64 ((accL xs).2.2.getD k 0)]
abbrev spansA (N : Nat) (xs : List (List Int)) : List (List RV) := (List.range N).map (spanAt xs)
theorem spansA_ref {bs ds : List Int} {n : Int} (hp : bs.Pairwise (· < ·)) (hd : ds = [] ∨ ds.length = 3) : accL (refTs bs ds n (bs.length * bs.length * bs.length)) = accL (truthsV bs ds n) :=
 accL_congr refTs_small fun t => (mem_truthsV hp hd).symm
def one1 (a k : Nat) : Int := if a = k then 1 else 0
theorem getD_incT {t : List Int} {i k : Nat} (hi : i < t.length) : (incT t i).getD k 0 = t.getD k 0 + one1 i k := by
 unfold incT one1
 by_cases h : i = k
 · subst h
   simp [List.getD_eq_getElem?_getD, List.getElem?_set_self hi]
 · simp [List.getD_eq_getElem?_getD, List.getElem?_set_ne h, h]
theorem getD_tally3 {x y z k : Nat} (hx : x < 10) (hy : y < 10) (hz : z < 10) (hk : k < 10) : (tally3 x y z).getD k 0 = one1 x k + one1 y k + one1 z k := by
 unfold tally3
 rw [getD_incT (by simp [incT_len]; omega), getD_incT (by simp [incT_len]; omega), getD_incT (by simp; omega)]
 have : zeroT.getD k 0 = 0 := by
  rcases k with _ | _ | _ | _ | _ | _ | _ | _ | _ | _ | k <;> first | rfl | omega
 rw [this]; omega
end Go.Proofs.Ytgkejinoaommeaa

namespace Go.Proofs.Ytgkejinoaommeaa
open Go Go.Oc
set_option linter.unusedSimpArgs false
set_option linter.unusedVariables false
set_option maxRecDepth 8000
abbrev viV (v : Vi) : RV := .ag [ints v.ds, i64 v.n]
theorem scoreS {b : Int} (h : 0 ≤ b ∧ b ≤ 499) : 0 ≤ scoreOf b ∧ scoreOf b ≤ 396 := score_le h.1 h.2
theorem has_ok (ds : List Int) (n a b c : Int) (hd : ds = [] ∨ ds.length = 3) (ha : 0 ≤ a ∧ a ≤ 499) (hb : 0 ≤ b ∧ b ≤ 499) (hcc : 0 ≤ c ∧ c ≤ 499) : ACalls Try.prog 86 [.ag [ints ds, i64 n], i64 a, i64 b, i64 c]
 (.bo (if ds = [] then decide (scoreOf a + scoreOf b + scoreOf c = n) else decide (ds.getD 0 0 = a) && decide (ds.getD 1 0 = b) && decide (ds.getD 2 0 = c))) := by
 have sa := scoreS ha
 have sb := scoreS hb
 have sc := scoreS hcc
 refine acalls_st (rs := [.bo (if ds = [] then decide (scoreOf a + scoreOf b + scoreOf c = n) else decide (ds.getD 0 0 = a) && decide (ds.getD 1 0 = b) && decide (ds.getD 2 0 = c))]) [.tmp 8] Try.func86 rfl (by kernel_rfl) Try.ntmps86 rfl (by simp) rfl fun C vs => ?_
 repeat refine awp_seq ?_
 refine awp_reg (by kernel_rfl) fun K hK => ?_
 simp only [go_sem]
 (try simp (disch := omega) only [wrapI])
 repeat first | intro _ | refine ⟨(by omega), ?_⟩ | refine ⟨⟨by omega, by omega⟩, ?_⟩
 refine hK _ ?_
 clear hK K
 refine awp_sub (sub_frzP 4 4 [ints ds, i64 n] (by omega) rfl rfl) ?_
 refine awp_sub (sub_keep [1, 2, 3, 4]) ?_
 simp only [go_sem]
 rcases hd with rfl | hd
 · repeat refine awp_seq ?_
   refine awp_reg (by kernel_rfl) fun K hK => ?_
   simp only [go_sem]
   (try simp (disch := omega) only [wrapI])
   repeat first | intro _ | refine ⟨(by omega), ?_⟩ | refine ⟨⟨by omega, by omega⟩, ?_⟩
   refine hK _ ?_
   clear hK K
   refine awp_sub (sub_keep [1, 2, 3, 4, 12]) ?_
   simp only [go_sem]
   repeat refine awp_seq ?_
   refine awp_cond rfl (fun hc => ?_) (fun hc => ?_) <;> (try simp only [go_sem] at hc)
   repeat refine awp_seq ?_
   refine awp_dreg follows (by decide +kernel) (by kernel_rfl) fun K hK => ?_
   simp only [go_sem]
   (try simp (disch := omega) only [wrapI])
   refine xcall_eq (refScore_ok a ha.1 ha.2) rfl (by simp only [go_sem, i64, ints]) (by simp only [go_sem, i64, ints]) (by first | exact .inl rfl | exact .inr rfl) ?_
   (try simp only [go_sem])
   (try simp (disch := omega) only [wrapI])
   refine xcall_eq (refScore_ok b hb.1 hb.2) rfl (by simp only [go_sem, i64, ints]) (by simp only [go_sem, i64, ints]) (by first | exact .inl rfl | exact .inr rfl) ?_
   (try simp only [go_sem])
   (try simp (disch := omega) only [wrapI])
   refine xcall_eq (refScore_ok c hcc.1 hcc.2) rfl (by simp only [go_sem, i64, ints]) (by simp only [go_sem, i64, ints]) (by first | exact .inl rfl | exact .inr rfl) ?_
   (try simp only [go_sem])
   (try simp (disch := omega) only [wrapI])
   repeat first | intro _ | refine ⟨(by omega), ?_⟩ | refine ⟨⟨by omega, by omega⟩, ?_⟩
   refine hK _ ?_
   clear hK K
   refine awp_sub (sub_keep [8]) ?_
   simp only [go_sem]
   refine awp_ret ?_
   simp only [go_sem]
   rfl
 · obtain ⟨d0, d1, d2, rfl⟩ : ∃ a b c, ds = [a, b, c] := by
    rcases ds with _ | ⟨a, _ | ⟨b, _ | ⟨c, _ | ⟨d, l⟩⟩⟩⟩ <;> simp at hd ⊢
   repeat refine awp_seq ?_
   refine awp_reg (by kernel_rfl) fun K hK => ?_
   simp only [go_sem]
   (try simp (disch := omega) only [wrapI])
   repeat first | intro _ | refine ⟨(by omega), ?_⟩ | refine ⟨⟨by omega, by omega⟩, ?_⟩
   refine hK _ ?_
   clear hK K
   refine awp_sub (sub_keep [1, 2, 3, 4, 12]) ?_
   simp only [go_sem]
   repeat refine awp_seq ?_
   refine awp_cond rfl (fun hc => ?_) (fun hc => ?_) <;> (try simp only [go_sem] at hc)
   refine awp_skip ?_
   try simp only [go_sem]
   repeat refine awp_seq ?_
   refine awp_reg (by kernel_rfl) fun K hK => ?_
   simp only [go_sem]
   (try simp (disch := omega) only [wrapI])
   repeat' first | intro _ | refine And.intro ?_ ?_
   all_goals first | omega | skip
   all_goals (refine hK _ ?_; clear hK K)
   all_goals refine awp_sub (sub_keep [8]) ?_
   simp only [go_sem]
   all_goals (refine awp_ret ?_; simp only [go_sem])
   all_goals simp_all
   all_goals rfl
theorem inc_eq {a k : Nat} (h : (a : Int) = (k : Int)) : one1 a k = 1 := by unfold one1; rw [if_pos (by omega)]
theorem inc_ne {a k : Nat} (h : ¬ (a : Int) = (k : Int)) : one1 a k = 0 := by
 unfold one1; rw [if_neg (fun e => h (by rw [e]))]
theorem one1_le (a k : Nat) : 0 ≤ one1 a k ∧ one1 a k ≤ 1 := by unfold one1; split <;> omega
def mixF (N k : Nat) (f g : Nat → List RV) : List (List RV) := (List.range N).map fun j => if j < k then f j else g j
theorem mixF_len (N k : Nat) (f g : Nat → List RV) : (mixF N k f g).length = N := by simp [mixF]
theorem mixF_opt {N k : Nat} {f g : Nat → List RV} (h : k < N) : (mixF N k f g)[k]? = some (g k) := by simp [mixF, List.getElem?_map, List.getElem?_range h]
theorem mixF_at {N k : Nat} {f g : Nat → List RV} (h : k < N) : (mixF N k f g).getD k [] = g k := by rw [List.getD_eq_getElem?_getD, mixF_opt h]; rfl
theorem mixF_set {N k : Nat} {f g : Nat → List RV} (h : k < N) : (mixF N k f g).set k (f k) = mixF N (k + 1) f g := by
 apply List.ext_getElem?
 intro j
 rw [List.getElem?_set]
 by_cases hj : j < N
 · simp only [mixF, List.length_map, List.length_range, List.getElem?_map, List.getElem?_range hj, Option.map_some]
   by_cases e : k = j
   · subst e; simp [h]
   · rw [if_neg e]
     by_cases c : j < k
     · rw [if_pos c, if_pos (by omega)]
     · rw [if_neg c, if_neg (by omega)]
 · rw [List.getElem?_eq_none (l := mixF N (k + 1) f g) (by rw [mixF_len]; omega), if_neg (by omega), List.getElem?_eq_none (by rw [mixF_len]; omega)]
theorem mixF_at2 {N k : Nat} {f g : Nat → List RV} (h : k < N) : (mixF N (k + 1) f g).getD k [] = f k := by
 rw [List.getD_eq_getElem?_getD]; simp [mixF, List.getElem?_map, List.getElem?_range h]
theorem mixF_set2 {N k : Nat} {f g : Nat → List RV} (h : k < N) : (mixF N (k + 1) f g).set k (f k) = mixF N (k + 1) f g := by
 apply List.ext_getElem?
 intro j
 rw [List.getElem?_set]
 by_cases e : k = j
 · subst e
   rw [if_pos rfl, if_pos (by rw [mixF_len]; exact h)]
   simp [mixF, List.getElem?_map, List.getElem?_range h]
 · rw [if_neg e]
theorem mixF_zero (N : Nat) (f g : Nat → List RV) : mixF N 0 f g = (List.range N).map g := by simp [mixF]
theorem mixF_full (N : Nat) (f g : Nat → List RV) : mixF N N f g = (List.range N).map f := by
 unfold mixF
 refine List.map_congr_left fun j hj => ?_
 rw [if_pos (List.mem_range.1 hj)]
theorem spansA_nil (N : Nat) (hN : N ≤ 10) : spansA N [] = List.replicate N [i64 0, i64 0] := by
 unfold spansA
 rw [List.eq_replicate_iff]
 refine ⟨by simp, fun b hb => ?_⟩
 obtain ⟨k, hk, rfl⟩ := List.mem_map.1 hb
 have hk := List.mem_range.1 hk
 unfold spanAt
 rcases k with _ | _ | _ | _ | _ | _ | _ | _ | _ | _ | k <;> first | rfl | omega
theorem spanAt_snoc {xs : List (List Int)} {t : List Int} {k : Nat} (hx : Len10 xs) (ht : SmallT 3 t) (hk : k < 10) :
 spanAt (xs ++ [t]) k = if xs.isEmpty then [i64 (t.getD k 0), i64 (t.getD k 0)] else [i64 (min ((accL xs).2.1.getD k 0) (t.getD k 0)), i64 (max ((accL xs).2.2.getD k 0) (t.getD k 0))] := by
 unfold spanAt
 rw [accL_snoc]
 have h1 := accL_len hx
 have hn := getD_nonneg ht k
 simp only [accT, mostT, leastT]
 rw [getD_zipWith (by omega) (by rw [ht.1]; omega)]
 cases xs with
 | nil =>
   have hz : (accL []).2.2.getD k 0 = 0 := by
    simp only [accL, List.foldl_nil]
    rcases k with _ | _ | _ | _ | _ | _ | _ | _ | _ | _ | k <;> first | rfl | omega
   rw [hz, show max 0 (t.getD k 0) = t.getD k 0 by omega]
   simp [accL]
 | cons x xs =>
   have hb : (accL (x :: xs)).1 = true := by rw [accL_some]; rfl
   simp only [hb, if_true, List.isEmpty_cons, Bool.false_eq_true, if_false]
   rw [getD_zipWith (by omega) (by rw [ht.1]; omega)]
theorem refVisit_ok (a : Am) (v : Vi) (hN : a.beds.length ≤ 10) (hs : seqOk none a.beds = true) (hd : v.ds = [] ∨ v.ds.length = 3) : ACalls Try.prog 62 [aimV a, viV v]
 (.tu [.sl 2 (spansA a.beds.length (refTs (a.beds.map (·.b)) v.ds v.n (a.beds.length * a.beds.length * a.beds.length))), .bo (!(refTs (a.beds.map (·.b)) v.ds v.n (a.beds.length * a.beds.length * a.beds.length)).isEmpty)]) := by
 obtain ⟨at_, beds⟩ := a
 obtain ⟨ds, n⟩ := v
 simp only at hN hs hd ⊢
 have hle := seqOk_le hs
 obtain ⟨N, hNe⟩ : ∃ N, N = beds.length := ⟨_, rfl⟩
 rw [← hNe]
 have hN10 : N ≤ 10 := by omega
 have hq1 : N * N ≤ 100 := Nat.le_trans (Nat.mul_le_mul hN10 hN10) (by omega)
 have hq2 : N * N * N ≤ 1000 := Nat.le_trans (Nat.mul_le_mul hq1 hN10) (by omega)
 have wN1 : IntKind.i64.wrap ((N : Int) * (N : Int)) = ((N * N : Nat) : Int) := by rw [← Int.natCast_mul]; rw [wrapI] <;> omega
 have wN2 : IntKind.i64.wrap (((N * N : Nat) : Int) * (N : Int)) = ((N * N * N : Nat) : Int) := by rw [← Int.natCast_mul]; rw [wrapI] <;> omega
 obtain ⟨xs, hxs⟩ : ∃ xs, xs = fun i => refTs (beds.map (·.b)) ds n i := ⟨_, rfl⟩
 rw [show refTs (beds.map (·.b)) ds n (N * N * N) = xs (N * N * N) by rw [hxs]]
 have hx0 : xs 0 = [] := by rw [hxs]; rfl
 have hxl : ∀ i, Len10 (xs i) := fun i => by rw [hxs]; exact refTs_small
 have hxs1 : ∀ i, xs (i + 1) = xs i ++ tripT (beds.map (·.b)) ds n i := fun i => by rw [hxs]; exact refTs_step _ _ _ _
 clear hxs
 refine acalls_st (rs := [.sl 2 (spansA N (xs (N * N * N))), .bo (!(xs (N * N * N)).isEmpty)]) [.tmp 4, .tmp 5] Try.func62 rfl (by kernel_rfl) Try.ntmps62 rfl (by simp) rfl fun C vs => ?_
 repeat refine awp_seq ?_
 refine awp_reg (by kernel_rfl) fun K hK => ?_
 simp only [go_sem]
 (try simp (disch := omega) only [wrapI])
 repeat first | intro _ | refine ⟨(by omega), ?_⟩ | refine ⟨⟨by omega, by omega⟩, ?_⟩
 refine hK _ ?_
 clear hK K
 refine awp_sub (sub_frzP 2 2 [i64 at_, bedsR beds] (by omega) rfl rfl) ?_
 refine awp_sub (sub_frzP 3 3 [ints ds, i64 n] (by omega) rfl rfl) ?_
 refine awp_sub (sub_keep [2, 3]) ?_
 simp only [go_sem]
 repeat refine awp_seq ?_
 refine awp_dreg follows (by decide +kernel) (by kernel_rfl) fun K hK => ?_
 simp only [go_sem, hNe.symm]
 (try simp (disch := omega) only [wrapI])
 repeat first | intro _ | refine ⟨(by omega), ?_⟩ | refine ⟨⟨by omega, by omega⟩, ?_⟩
 refine hK _ ?_
 clear hK K
 refine awp_sub (sub_keep [2, 3, 6, 7, 8]) ?_
 simp only [go_sem]
 repeat refine awp_seq ?_
 refine awp_reg (by kernel_rfl) fun K hK => ?_
 simp only [go_sem]
 (try simp (disch := omega) only [wrapI])
 repeat first | intro _ | refine ⟨(by omega), ?_⟩ | refine ⟨⟨by omega, by omega⟩, ?_⟩
 refine hK _ ?_
 clear hK K
 refine awp_sub (sub_keep [2, 3, 6, 7, 8, 9]) ?_
 simp only [go_sem]
 repeat refine awp_seq ?_
 refine awp_block ?_
 refine awp_upto (n := 113) (N * N * N) (fun i vs => [(2, .r (.rp [i64 at_, bedsR beds])), (3, .r (.rp [ints ds, i64 n])), (6, .os 18 (vs 18) 2 0 N), (7, .r (.bo (!(xs i).isEmpty))), (8, .r (i64 N)), (9, .r (i64 i))])
  (fun i => [(18, .arr 46 2 (spansA N (xs i)))]) (fun _ => True) 0 (fit_of [] ?_ ?_) (Nat.zero_le _) trivial ?_
 · try simp only [go_sem]
   simp [hx0]
 · try simp only [go_sem]
   rw [hx0, spansA_nil N hN10]
 · intro i vs hi _
   repeat refine awp_seq ?_
   refine awp_reg (by kernel_rfl) fun K hK => ?_
   simp only [go_sem, wN1, wN2]
   (try simp (disch := omega) only [wrapI])
   repeat first | intro _ | refine ⟨(by omega), ?_⟩ | refine ⟨⟨by omega, by omega⟩, ?_⟩
   refine hK _ ?_
   clear hK K
   refine awp_sub (sub_keep [2, 3, 6, 7, 8, 9, 28]) ?_
   simp only [go_sem]
   repeat refine awp_seq ?_
   refine awp_cond rfl (fun hc => ?_) (fun hc => ?_) <;> (try simp only [go_sem] at hc)
   · skip
     have hci := hc
     have hNp : 0 < N := by
      rcases Nat.eq_zero_or_pos N with h0 | h0
      · rw [h0] at hci; simp at hci
      · exact h0
     obtain ⟨x, hx⟩ : ∃ x, x = i / N / N := ⟨_, rfl⟩
     obtain ⟨y, hy⟩ : ∃ y, y = i / N % N := ⟨_, rfl⟩
     obtain ⟨z, hz⟩ : ∃ z, z = i % N := ⟨_, rfl⟩
     have hxN : x < N := by
      rw [hx, Nat.div_div_eq_div_mul, Nat.div_lt_iff_lt_mul (Nat.mul_pos hNp hNp)]
      rw [Nat.mul_assoc] at hci
      exact hci
     have hyN : y < N := by rw [hy]; exact Nat.mod_lt _ hNp
     have hzN : z < N := by rw [hz]; exact Nat.mod_lt _ hNp
     have hiN : i / N < 1000 := by
      have := Nat.div_le_self i N
      omega
     have hiQ : ((i / N : Nat) : Int) < 1000 := by omega
     have n0 : ¬ (N : Int) = 0 := by omega
     have d1 : IntKind.i64.wrap ((i : Int).tdiv (N : Int)) = ((i / N : Nat) : Int) := by rw [← Int.ofNat_tdiv]; generalize i / N = q at hiQ ⊢; rw [wrapI] <;> omega
     have d2 : IntKind.i64.wrap (((i / N : Nat) : Int).tdiv (N : Int)) = (x : Int) := by rw [← Int.ofNat_tdiv, ← hx]; clear hx hy; rw [wrapI] <;> omega
     have d3 : ((i / N : Nat) : Int).tmod (N : Int) = (y : Int) := by rw [hy]; exact (Int.ofNat_tmod _ _).symm
     have d4 : (i : Int).tmod (N : Int) = (z : Int) := by rw [hz]; exact (Int.ofNat_tmod _ _).symm
     refine awp_skip ?_
     try simp only [go_sem]
     repeat refine awp_seq ?_
     refine awp_block ?_
     repeat refine awp_seq ?_
     refine awp_dreg follows (by decide +kernel) (by kernel_rfl) fun K hK => ?_
     simp only [go_sem, d1, d2, d3, d4]
     (try simp (disch := omega) only [wrapI])
     refine ⟨n0, ?_⟩
     refine ⟨n0, ?_⟩
     refine ⟨n0, ?_⟩
     refine ⟨n0, ?_⟩
     refine ⟨n0, ?_⟩
     repeat first | intro _ | refine ⟨(by omega), ?_⟩ | refine ⟨⟨by omega, by omega⟩, ?_⟩
     refine hK _ ?_
     clear hK K
     refine awp_sub (sub_keep [2, 3, 6, 7, 8, 9, 10, 11, 12]) ?_
     simp only [go_sem]
     obtain ⟨bx, hbx⟩ := opt_of_lt (l := beds) (i := x) (by omega)
     obtain ⟨bY, hbY⟩ := opt_of_lt (l := beds) (i := y) (by omega)
     obtain ⟨bz, hbz⟩ := opt_of_lt (l := beds) (i := z) (by omega)
     have g1 : (beds.map (·.b)).getD x 0 = bx.b := by simp [List.getD_eq_getElem?_getD, hbx]
     have g2 : (beds.map (·.b)).getD y 0 = bY.b := by simp [List.getD_eq_getElem?_getD, hbY]
     have g3 : (beds.map (·.b)).getD z 0 = bz.b := by simp [List.getD_eq_getElem?_getD, hbz]
     have ht := hxs1 i
     simp only [tripT, List.length_map, ← hNe, ← hx, ← hy, ← hz, hasV, sum3, g1, g2, g3] at ht
     have hHas := has_ok ds n bx.b bY.b bz.b hd (hle _ (mem_of_opt hbx)) (hle _ (mem_of_opt hbY)) (hle _ (mem_of_opt hbz))
     generalize (if ds = [] then decide (scoreOf bx.b + scoreOf bY.b + scoreOf bz.b = n) else decide (ds.getD 0 0 = bx.b) && decide (ds.getD 1 0 = bY.b) && decide (ds.getD 2 0 = bz.b)) = hb at ht hHas
     have lx : x < beds.length := by omega
     have ly : y < beds.length := by omega
     have lz : z < beds.length := by omega
     repeat refine awp_seq ?_
     refine awp_dreg follows (by decide +kernel) (by kernel_rfl) fun K hK => ?_
     simp only [go_sem, hbx, hbY, hbz, lx, ly, lz, bedR]
     (try simp (disch := omega) only [wrapI])
     refine xcall_eq (hHas) rfl (by simp only [go_sem, i64, ints]) (by simp only [go_sem, i64, ints]) (by first | exact .inl rfl | exact .inr rfl) ?_
     (try simp only [go_sem])
     (try simp (disch := omega) only [wrapI])
     repeat first | intro _ | refine ⟨(by omega), ?_⟩ | refine ⟨⟨by omega, by omega⟩, ?_⟩
     refine hK _ ?_
     clear hK K
     refine awp_sub (sub_keep [2, 3, 6, 7, 8, 9, 10, 11, 12, 64]) ?_
     simp only [go_sem]
     cases hb
     · repeat refine awp_seq ?_
       refine awp_cond rfl (fun hc => ?_) (fun hc => ?_) <;> (try simp only [go_sem] at hc)
       refine awp_exit ?_
       simp only [go_sem]
       rw [if_neg (by simp)] at ht
       rw [List.append_nil] at ht
       repeat refine awp_seq ?_
       refine awp_reg (by kernel_rfl) fun K hK => ?_
       simp only [go_sem]
       (try simp (disch := omega) only [wrapI])
       repeat first | intro _ | refine ⟨(by omega), ?_⟩ | refine ⟨⟨by omega, by omega⟩, ?_⟩
       refine hK _ ?_
       clear hK K
       try simp only [go_sem]
       refine ⟨hci, fit_of [] ?_ ?_⟩
       · try simp only [go_sem]
         rw [ht]
       · try simp only [go_sem]
         rw [ht]
     · rw [if_pos rfl] at ht
       repeat refine awp_seq ?_
       refine awp_cond rfl (fun hc => ?_) (fun hc => ?_) <;> (try simp only [go_sem] at hc)
       refine awp_skip ?_
       try simp only [go_sem]
       repeat refine awp_seq ?_
       refine awp_reg (by kernel_rfl) fun K hK => ?_
       simp only [go_sem]
       (try simp (disch := omega) only [wrapI])
       repeat first | intro _ | refine ⟨(by omega), ?_⟩ | refine ⟨⟨by omega, by omega⟩, ?_⟩
       refine hK _ ?_
       clear hK K
       refine awp_sub (sub_keep [2, 3, 6, 7, 8, 9, 10, 11, 12, 13]) ?_
       simp only [go_sem]
       repeat refine awp_seq ?_
       refine awp_block ?_
       obtain ⟨X, hX⟩ : ∃ X, X = xs i := ⟨_, rfl⟩
       obtain ⟨T, hT⟩ : ∃ T, T = tally3 x y z := ⟨_, rfl⟩
       have hTs : SmallT 3 T := by rw [hT]; exact tally3_small _ _ _
       have hXl : Len10 X := by rw [hX]; exact hxl i
       rw [← hX] at ht ⊢
       rw [← hT] at ht
       refine awp_upto (n := 113) N (fun k vs => [(2, .r (.rp [i64 at_, bedsR beds])), (3, .r (.rp [ints ds, i64 n])), (6, .os 18 (vs 18) 2 0 N), (7, .r (.bo (!X.isEmpty))), (8, .r (i64 N)), (9, .r (i64 i)), (10, .r (i64 x)), (11, .r (i64 y)), (12, .r (i64 z)), (13, .r (i64 k))])
        (fun k => [(18, .arr 46 2 (mixF N k (spanAt (X ++ [T])) (spanAt X)))]) (fun _ => True) 0 (fit_of [] ?_ ?_) (Nat.zero_le _) trivial ?_
       · try simp only [go_sem]
       · try simp only [go_sem]
         rw [mixF_zero]
       · intro k vs hk _
         repeat refine awp_seq ?_
         refine awp_reg (by kernel_rfl) fun K hK => ?_
         simp only [go_sem]
         (try simp (disch := omega) only [wrapI])
         repeat first | intro _ | refine ⟨(by omega), ?_⟩ | refine ⟨⟨by omega, by omega⟩, ?_⟩
         refine hK _ ?_
         clear hK K
         refine awp_sub (sub_keep [2, 3, 6, 7, 8, 9, 10, 11, 12, 13, 67]) ?_
         simp only [go_sem]
         repeat refine awp_seq ?_
         refine awp_cond rfl (fun hc => ?_) (fun hc => ?_) <;> (try simp only [go_sem] at hc)
         · have hck : k < N := by omega
           have ox := one1_le x k
           have oy := one1_le y k
           have oz := one1_le z k
           refine awp_skip ?_
           try simp only [go_sem]
           repeat refine awp_seq ?_
           refine awp_block ?_
           repeat refine awp_seq ?_
           refine awp_reg (by kernel_rfl) fun K hK => ?_
           simp only [go_sem]
           (try simp (disch := omega) only [wrapI])
           repeat first | intro _ | refine ⟨(by omega), ?_⟩ | refine ⟨⟨by omega, by omega⟩, ?_⟩
           refine hK _ ?_
           clear hK K
           refine awp_sub (sub_keep [2, 3, 6, 7, 8, 9, 10, 11, 12, 13, 14]) ?_
           simp only [go_sem]
           repeat refine awp_seq ?_
           refine awp_reg (by kernel_rfl) fun K hK => ?_
           simp only [go_sem]
           (try simp (disch := omega) only [wrapI])
           repeat first | intro _ | refine ⟨(by omega), ?_⟩ | refine ⟨⟨by omega, by omega⟩, ?_⟩
           refine hK _ ?_
           clear hK K
           refine awp_sub (sub_keep [2, 3, 6, 7, 8, 9, 10, 11, 12, 13, 14, 72]) ?_
           simp only [go_sem]
           repeat refine awp_seq ?_
           refine awp_join (n := 113) (fun (_ : Unit) vs => [(2, .r (.rp [i64 at_, bedsR beds])), (3, .r (.rp [ints ds, i64 n])), (6, .os 18 (vs 18) 2 0 N), (7, .r (.bo (!X.isEmpty))), (8, .r (i64 N)), (9, .r (i64 i)), (10, .r (i64 x)), (11, .r (i64 y)), (12, .r (i64 z)), (13, .r (i64 k)), (14, .r (i64 (one1 x k)))]) (fun _ => [(18, .arr 46 2 (mixF N k (spanAt (X ++ [T])) (spanAt X)))]) (fun _ => True) (fun _ h => h) ?_ ?_
           · repeat refine awp_seq ?_
             refine awp_cond rfl (fun hc => ?_) (fun hc => ?_) <;> (try simp only [go_sem] at hc)
             · repeat refine awp_seq ?_
               refine awp_reg (by kernel_rfl) fun K hK => ?_
               simp only [go_sem]
               (try simp (disch := omega) only [wrapI])
               repeat first | intro _ | refine ⟨(by omega), ?_⟩ | refine ⟨⟨by omega, by omega⟩, ?_⟩
               refine hK _ ?_
               clear hK K
               try simp only [go_sem]
               rw [inc_eq hc]
               exact ⟨(), fit_of [] (by try simp only [go_sem]) (by try simp only [go_sem])⟩
             · refine awp_skip ?_
               rw [inc_ne hc]
               try simp only [go_sem]
               exact ⟨(), fit_of [] (by try simp only [go_sem]) (by try simp only [go_sem])⟩
           intro _ vs _
           repeat refine awp_seq ?_
           refine awp_reg (by kernel_rfl) fun K hK => ?_
           simp only [go_sem]
           (try simp (disch := omega) only [wrapI])
           repeat first | intro _ | refine ⟨(by omega), ?_⟩ | refine ⟨⟨by omega, by omega⟩, ?_⟩
           refine hK _ ?_
           clear hK K
           refine awp_sub (sub_keep [2, 3, 6, 7, 8, 9, 10, 11, 12, 13, 14, 77]) ?_
           simp only [go_sem]
           repeat refine awp_seq ?_
           refine awp_join (n := 113) (fun (_ : Unit) vs => [(2, .r (.rp [i64 at_, bedsR beds])), (3, .r (.rp [ints ds, i64 n])), (6, .os 18 (vs 18) 2 0 N), (7, .r (.bo (!X.isEmpty))), (8, .r (i64 N)), (9, .r (i64 i)), (10, .r (i64 x)), (11, .r (i64 y)), (12, .r (i64 z)), (13, .r (i64 k)), (14, .r (i64 (one1 x k + one1 y k)))]) (fun _ => [(18, .arr 46 2 (mixF N k (spanAt (X ++ [T])) (spanAt X)))]) (fun _ => True) (fun _ h => h) ?_ ?_
           · repeat refine awp_seq ?_
             refine awp_cond rfl (fun hc => ?_) (fun hc => ?_) <;> (try simp only [go_sem] at hc)
             · repeat refine awp_seq ?_
               refine awp_reg (by kernel_rfl) fun K hK => ?_
               simp only [go_sem]
               (try simp (disch := omega) only [wrapI])
               repeat first | intro _ | refine ⟨(by omega), ?_⟩ | refine ⟨⟨by omega, by omega⟩, ?_⟩
               refine hK _ ?_
               clear hK K
               try simp only [go_sem]
               rw [inc_eq hc]
               exact ⟨(), fit_of [] (by try simp only [go_sem]) (by try simp only [go_sem])⟩
             · refine awp_skip ?_
               rw [inc_ne hc]
               try simp only [go_sem]
               exact ⟨(), fit_of [] (by try simp only [go_sem]) (by try simp only [go_sem])⟩
           intro _ vs _
           repeat refine awp_seq ?_
           refine awp_reg (by kernel_rfl) fun K hK => ?_
           simp only [go_sem]
           (try simp (disch := omega) only [wrapI])
           repeat first | intro _ | refine ⟨(by omega), ?_⟩ | refine ⟨⟨by omega, by omega⟩, ?_⟩
           refine hK _ ?_
           clear hK K
           refine awp_sub (sub_keep [2, 3, 6, 7, 8, 9, 10, 11, 12, 13, 14, 82]) ?_
           simp only [go_sem]
           have hcnt : T.getD k 0 = one1 x k + one1 y k + one1 z k := by rw [hT]; exact getD_tally3 (by omega) (by omega) (by omega) (by omega)
           repeat refine awp_seq ?_
           refine awp_join (n := 113) (fun (_ : Unit) vs => [(2, .r (.rp [i64 at_, bedsR beds])), (3, .r (.rp [ints ds, i64 n])), (6, .os 18 (vs 18) 2 0 N), (7, .r (.bo (!X.isEmpty))), (8, .r (i64 N)), (9, .r (i64 i)), (10, .r (i64 x)), (11, .r (i64 y)), (12, .r (i64 z)), (13, .r (i64 k)), (14, .r (i64 (T.getD k 0)))]) (fun _ => [(18, .arr 46 2 (mixF N k (spanAt (X ++ [T])) (spanAt X)))]) (fun _ => True) (fun _ h => h) ?_ ?_
           · repeat refine awp_seq ?_
             refine awp_cond rfl (fun hc => ?_) (fun hc => ?_) <;> (try simp only [go_sem] at hc)
             · repeat refine awp_seq ?_
               refine awp_reg (by kernel_rfl) fun K hK => ?_
               simp only [go_sem]
               (try simp (disch := omega) only [wrapI])
               repeat first | intro _ | refine ⟨(by omega), ?_⟩ | refine ⟨⟨by omega, by omega⟩, ?_⟩
               refine hK _ ?_
               clear hK K
               try simp only [go_sem]
               rw [hcnt, inc_eq hc]
               exact ⟨(), fit_of [] (by try simp only [go_sem]) (by try simp only [go_sem])⟩
             · refine awp_skip ?_
               rw [hcnt, inc_ne hc]
               try simp only [go_sem]
               exact ⟨(), fit_of [] (by try simp only [go_sem]) (by try simp only [go_sem])⟩
           intro _ vs _
           have hsn := spanAt_snoc (k := k) hXl hTs (by omega)
           generalize hm : T.getD k 0 = m at hsn
           repeat refine awp_seq ?_
           refine awp_reg (by kernel_rfl) fun K hK => ?_
           simp only [go_sem]
           (try simp (disch := omega) only [wrapI])
           repeat first | intro _ | refine ⟨(by omega), ?_⟩ | refine ⟨⟨by omega, by omega⟩, ?_⟩
           refine hK _ ?_
           clear hK K
           refine awp_sub (sub_keep [2, 3, 6, 7, 8, 9, 10, 11, 12, 13, 14, 86]) ?_
           simp only [go_sem]
           have ml := mixF_len N k (spanAt (X ++ [T])) (spanAt X)
           have ma := mixF_at (N := N) (k := k) (f := spanAt (X ++ [T])) (g := spanAt X) hck
           have ms := mixF_set (N := N) (k := k) (f := spanAt (X ++ [T])) (g := spanAt X) hck
           have ma : (mixF N k (spanAt (X ++ [T])) (spanAt X)).getD k [] = [i64 ((accL X).2.1.getD k 0), i64 ((accL X).2.2.getD k 0)] := ma
           cases hem : X.isEmpty
           · rw [hem] at hsn
             rw [if_neg (by simp)] at hsn
             repeat refine awp_seq ?_
             refine awp_cond rfl (fun hc => ?_) (fun hc => ?_) <;> (try simp only [go_sem] at hc)
             refine awp_skip ?_
             try simp only [go_sem]
             rw [hsn] at ms
             repeat refine awp_seq ?_
             refine awp_dreg2 [(6, some 18), (13, none), (14, none)] follows (by decide +kernel) (by kernel_rfl) (by simp only [keysOk, List.mem_cons, List.not_mem_nil, forall_eq_or_imp, Oc.keyOf, go_sem]; simp) fun K hK => ?_
             simp only [go_sem, ml, ma, ms, hck, List.headD_cons, List.length_cons]
             (try simp (disch := omega) only [wrapI])
             repeat first | intro _ | refine ⟨(by omega), ?_⟩ | refine ⟨⟨by omega, by omega⟩, ?_⟩
             refine hK _ ?_
             clear hK K
             refine awp_sub (sub_keep [2, 3, 6, 7, 8, 9, 10, 11, 12, 13]) ?_
             simp only [go_sem]
             repeat refine awp_seq ?_
             refine awp_reg (by kernel_rfl) fun K hK => ?_
             simp only [go_sem]
             (try simp (disch := omega) only [wrapI])
             repeat first | intro _ | refine ⟨(by omega), ?_⟩ | refine ⟨⟨by omega, by omega⟩, ?_⟩
             refine hK _ ?_
             clear hK K
             try simp only [go_sem]
             refine ⟨hck, fit_of [] ?_ ?_⟩
             · try simp only [go_sem]
             · try simp only [go_sem]
           · rw [hem] at hsn
             rw [if_pos rfl] at hsn
             rw [hsn] at ms
             repeat refine awp_seq ?_
             refine awp_cond rfl (fun hc => ?_) (fun hc => ?_) <;> (try simp only [go_sem] at hc)
             repeat refine awp_seq ?_
             refine awp_reg (by kernel_rfl) fun K hK => ?_
             simp only [go_sem, ml, ma, ms, hck, List.headD_cons, List.length_cons]
             (try simp (disch := omega) only [wrapI])
             repeat first | intro _ | refine ⟨(by omega), ?_⟩ | refine ⟨⟨by omega, by omega⟩, ?_⟩
             refine hK _ ?_
             clear hK K
             try simp only [go_sem]
             have ml2 := mixF_len N (k + 1) (spanAt (X ++ [T])) (spanAt X)
             have ma2 := mixF_at2 (N := N) (k := k) (f := spanAt (X ++ [T])) (g := spanAt X) hck
             have ms2 := mixF_set2 (N := N) (k := k) (f := spanAt (X ++ [T])) (g := spanAt X) hck
             rw [hsn] at ma2 ms2
             repeat refine awp_seq ?_
             refine awp_dreg2 [(6, some 18), (13, none), (14, none)] follows (by decide +kernel) (by kernel_rfl) (by simp only [keysOk, List.mem_cons, List.not_mem_nil, forall_eq_or_imp, Oc.keyOf, go_sem]; simp) fun K hK => ?_
             simp only [go_sem, ml2, ma2, ms2, hck, List.headD_cons, List.length_cons, Int.min_self, Int.max_self]
             (try simp (disch := omega) only [wrapI])
             repeat first | intro _ | refine ⟨(by omega), ?_⟩ | refine ⟨⟨by omega, by omega⟩, ?_⟩
             refine hK _ ?_
             clear hK K
             refine awp_sub (sub_keep [2, 3, 6, 7, 8, 9, 10, 11, 12, 13]) ?_
             simp only [go_sem]
             repeat refine awp_seq ?_
             refine awp_reg (by kernel_rfl) fun K hK => ?_
             simp only [go_sem]
             (try simp (disch := omega) only [wrapI])
             repeat first | intro _ | refine ⟨(by omega), ?_⟩ | refine ⟨⟨by omega, by omega⟩, ?_⟩
             refine hK _ ?_
             clear hK K
             try simp only [go_sem]
             refine ⟨hck, fit_of [] ?_ ?_⟩
             · try simp only [go_sem]
             · try simp only [go_sem]
         · refine awp_exit ?_
           simp only [go_sem]
           have : k = N := by omega
           subst this
           repeat refine awp_seq ?_
           refine awp_reg (by kernel_rfl) fun K hK => ?_
           simp only [go_sem]
           (try simp (disch := omega) only [wrapI])
           repeat first | intro _ | refine ⟨(by omega), ?_⟩ | refine ⟨⟨by omega, by omega⟩, ?_⟩
           refine hK _ ?_
           clear hK K
           refine awp_sub (sub_keep [2, 3, 6, 7, 8, 9]) ?_
           simp only [go_sem]
           repeat refine awp_seq ?_
           refine awp_reg (by kernel_rfl) fun K hK => ?_
           simp only [go_sem]
           (try simp (disch := omega) only [wrapI])
           repeat first | intro _ | refine ⟨(by omega), ?_⟩ | refine ⟨⟨by omega, by omega⟩, ?_⟩
           refine hK _ ?_
           clear hK K
           try simp only [go_sem]
           refine ⟨hci, fit_of [] ?_ ?_⟩
           · try simp only [go_sem]
             rw [ht]
             simp
           · try simp only [go_sem]
             rw [ht, mixF_full]
   · skip
     refine awp_exit ?_
     simp only [go_sem]
     have : i = N * N * N := by omega
     subst this
     repeat refine awp_seq ?_
     refine awp_reg (by kernel_rfl) fun K hK => ?_
     simp only [go_sem]
     (try simp (disch := omega) only [wrapI])
     repeat first | intro _ | refine ⟨(by omega), ?_⟩ | refine ⟨⟨by omega, by omega⟩, ?_⟩
     refine hK _ ?_
     clear hK K
     refine awp_sub (sub_frz (ty := 46) (sz := 2) (off := 0) (m := N) (es := spansA N (xs (N * N * N))) 4 18 (by omega) (by try simp only [go_sem]) (by try simp only [go_sem]) (by simp)) ?_
     refine awp_sub (sub_keep [4, 5]) ?_
     simp only [go_sem]
     refine awp_ret ?_
     simp only [go_sem]
     exact List.take_of_length_le (by simp)
end Go.Proofs.Ytgkejinoaommeaa
