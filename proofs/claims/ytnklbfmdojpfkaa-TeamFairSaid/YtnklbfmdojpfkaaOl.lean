/- Calls by contract; one operation of a region; what an operation may be exchanged with. -/
import Derived.Test.YtnklbfmdojpfkaaOk
namespace Go.Oc
open Go Go.RowKit

/-! ### Contracts -/
def callable (P : Program) (f : FuncId) : Bool :=
  match P.funcs[f]? with
  | some fn => fn.body.isSome && fn.name != "runtime.NumGoroutine"
  | none => false
/-- The call returns r, and leaves all that was there as it was. -/
def ACalls (P : Program) (f : FuncId) (args : List RV) (r : RV) : Prop :=
  callable P f = true ∧ ∀ (w : World) (R : Nat → Prop) (vs : Array Value), (∀ b, R b → b < w.heap.size) → RV.relV w R args vs.toList →
    Calls P f vs w fun e w' => ∃ v R', e = .returned v ∧ Below w.heap.size w w' ∧ (∀ b, R b → R' b) ∧ (∀ b, R' b → R b ∨ w.heap.size ≤ b) ∧ (∀ b, R' b → b < w'.heap.size) ∧ r.rel w' R' v

/-! ### What a callee is shown of the caller's rows -/
def snap1V (rows : Nat → Row) : AV → RV
  | .r v => v
  | .os k _ sz off m => match (rows k).c with | .arr _ _ es => .sl sz ((es.drop off).take m) | _ => .un
  | _ => .un
def snap1P (rows : Nat → Row) : AV → Prop
  | .r _ => True
  | .os k n sz off m => n = (rows k).ver ∧ match (rows k).c with | .arr _ sz' es => sz = sz' ∧ off + m ≤ es.length | _ => False
  | _ => True
def snap1PL (rows : Nat → Row) : List AV → Prop
  | [] => True
  | x :: xs => snap1P rows x ∧ snap1PL rows xs
mutual
def snapV (rows : Nat → Row) : AV → RV
  | .r v => v
  | .os k _ sz off m => match (rows k).c with | .arr _ _ es => .sl sz ((es.drop off).take m) | _ => .un
  | .pt k _ off => match (rows k).c with | .box cs => .rp ((cs.drop off).map (snap1V rows)) | _ => .un
  | .pe k _ _ idx off => match (rows k).c with | .arr _ _ es => .rp ((es.getD idx []).drop off) | _ => .un
  | .fn f cs => .fn f (snapVL rows cs)
  | .ag cs => .ag (snapVL rows cs)
  | .tu cs => .tu (snapVL rows cs)
  | .mp _ _ => .un
  | .mi _ _ => .un
def snapVL (rows : Nat → Row) : List AV → List RV
  | [] => []
  | x :: xs => snapV rows x :: snapVL rows xs
end
mutual
def snapP (rows : Nat → Row) : AV → Prop
  | .r _ => True
  | .os k n sz off m => n = (rows k).ver ∧ match (rows k).c with | .arr _ sz' es => sz = sz' ∧ off + m ≤ es.length | _ => False
  | .pt k n off => n = (rows k).ver ∧ match (rows k).c with | .box cs => snap1PL rows (cs.drop off) | _ => False
  | .pe k n sz idx _ => n = (rows k).ver ∧ match (rows k).c with | .arr _ sz' es => sz = sz' ∧ idx < es.length | _ => False
  | .fn _ cs => snapPL rows cs
  | .ag cs => snapPL rows cs
  | .tu cs => snapPL rows cs
  | .mp _ _ => False
  | .mi _ _ => False
def snapPL (rows : Nat → Row) : List AV → Prop
  | [] => True
  | x :: xs => snapP rows x ∧ snapPL rows xs
end

/- Plain data through and through. -/
mutual
def AV.pure : AV → Bool
  | .r _ => true
  | .fn _ cs => AV.pureL cs
  | .ag cs => AV.pureL cs
  | .tu cs => AV.pureL cs
  | _ => false
def AV.pureL : List AV → Bool
  | [] => true
  | x :: xs => x.pure && AV.pureL xs
end
/- No address in it. -/
mutual
def RV.flatB : RV → Bool
  | .bo _ | .it _ _ | .np | .nf | .st _ | .ud => true
  | .ag cs => RV.flatL cs
  | .tu cs => RV.flatL cs
  | _ => false
def RV.flatL : List RV → Bool
  | [] => true
  | x :: xs => x.flatB && RV.flatL xs
end

/- The nil slice and an empty literal are slices without elements. -/
mutual
def RV.le : RV → RV → Prop
  | x, .sl sz es => x = .sl sz es ∨ (x = .ns ∧ es = [])
  | .ag xs, .ag ys => RV.leL xs ys
  | .fn f xs, .fn g ys => f = g ∧ RV.leL xs ys
  | .rp xs, .rp ys => RV.leL xs ys
  | x, y => x = y
def RV.leL : List RV → List RV → Prop
  | [], [] => True
  | x :: xs, y :: ys => RV.le x y ∧ RV.leL xs ys
  | _, _ => False
end

section
variable {w : World} {R R' : Nat → Prop}
mutual
theorem flat_rel : ∀ (x : RV) (v : Value), x.flatB = true → x.rel w R v → x.rel w R' v
  | .bo _, _, _, h => by simpa only [RV.rel] using h
  | .it _ _, _, _, h => by simpa only [RV.rel] using h
  | .np, _, _, h => by simpa only [RV.rel] using h
  | .nf, _, _, h => by simpa only [RV.rel] using h
  | .st _, _, _, h => by simpa only [RV.rel] using h
  | .ud, _, _, h => by simpa only [RV.rel] using h
  | .ag cs, v, hf, h => by
    simp only [RV.flatB] at hf
    simp only [RV.rel] at h ⊢
    obtain ⟨vs, e, h1, hV⟩ := h
    exact ⟨vs, e, h1, flat_relV cs _ hf hV⟩
  | .tu cs, v, hf, h => by
    simp only [RV.flatB] at hf
    simp only [RV.rel] at h ⊢
    obtain ⟨vs, e, hV⟩ := h
    exact ⟨vs, e, flat_relV cs _ hf hV⟩
  | .un, _, _, _ => by simp only [RV.rel]
  | .ns, _, _, h => by simpa only [RV.rel] using h
  | .sl _ _, _, hf, _ => by simp [RV.flatB] at hf
  | .rp _, _, hf, _ => by simp [RV.flatB] at hf
  | .fn _ _, _, hf, _ => by simp [RV.flatB] at hf
theorem flat_relV : ∀ (xs : List RV) (vs : List Value), RV.flatL xs = true → RV.relV w R xs vs → RV.relV w R' xs vs
  | [], _, _, h => by simpa only [RV.relV] using h
  | x :: xs, vs, hf, h => by
    simp only [RV.flatL, Bool.and_eq_true] at hf
    simp only [RV.relV] at h ⊢
    obtain ⟨u, us, e, h1, h2⟩ := h
    exact ⟨u, us, e, flat_rel x u hf.1 h1, flat_relV xs us hf.2 h2⟩
end

theorem le_sl {sz : Nat} {es : List (List RV)} {x : RV} {v : Value} (hx : x = .sl sz es ∨ (x = .ns ∧ es = [])) (h : x.rel w R v) : (RV.sl sz es).rel w R v := by
  rcases hx with rfl | ⟨rfl, rfl⟩
  · exact h
  · simp only [RV.rel] at h ⊢
    obtain ⟨A, rfl⟩ := h
    exact ⟨A, 0, rfl, Nat.le_refl _, Nat.zero_le _, fun h => absurd rfl h⟩
mutual
theorem le_rel : ∀ (x y : RV) (v : Value), RV.le x y → x.rel w R v → y.rel w R v := fun x y v hle h => by
  cases y with
  | sl sz es => exact le_sl (by cases x <;> simpa only [RV.le] using hle) h
  | ag ys =>
    cases x with
    | ag xs =>
      simp only [RV.le] at hle
      simp only [RV.rel] at h ⊢
      obtain ⟨vs, e, h1, hV⟩ := h
      exact ⟨vs, e, h1, le_relV xs ys _ hle hV⟩
    | _ => simp [RV.le] at hle
  | fn g ys =>
    cases x with
    | fn f xs =>
      simp only [RV.le] at hle
      simp only [RV.rel] at h ⊢
      obtain ⟨vs, e, hV⟩ := h
      exact ⟨vs, by rw [← hle.1]; exact e, le_relV xs ys _ hle.2 hV⟩
    | _ => simp [RV.le] at hle
  | rp ys =>
    cases x with
    | rp xs =>
      simp only [RV.le] at hle
      simp only [RV.rel] at h ⊢
      obtain ⟨ad, e, hR, hC⟩ := h
      exact ⟨ad, e, hR, le_relC xs ys _ _ hle hC⟩
    | _ => simp [RV.le] at hle
  | _ =>
    have he := hle
    cases x <;> simp only [RV.le, reduceCtorEq] at he <;> first | exact h | (rw [← he]; exact h)
theorem le_relV : ∀ (xs ys : List RV) (vs : List Value), RV.leL xs ys → RV.relV w R xs vs → RV.relV w R ys vs
  | [], [], _, _, h => h
  | x :: xs, y :: ys, vs, hle, h => by
    simp only [RV.leL] at hle
    simp only [RV.relV] at h ⊢
    obtain ⟨u, us, e, h1, h2⟩ := h
    exact ⟨u, us, e, le_rel x y u hle.1 h1, le_relV xs ys us hle.2 h2⟩
  | [], _ :: _, _, hle, _ => by simp [RV.leL] at hle
  | _ :: _, [], _, hle, _ => by simp [RV.leL] at hle
theorem le_relC : ∀ (xs ys : List RV) (ad : Addr) (j : Nat), RV.leL xs ys → RV.relC w R xs ad j → RV.relC w R ys ad j
  | [], [], _, _, _, h => h
  | x :: xs, y :: ys, ad, j, hle, h => by
    simp only [RV.leL] at hle
    simp only [RV.relC] at h ⊢
    obtain ⟨⟨u, hu, ho, h1⟩, h2⟩ := h
    exact ⟨⟨u, hu, ho, le_rel x y u hle.1 h1⟩, le_relC xs ys ad (j + 1) hle.2 h2⟩
  | [], _ :: _, _, _, hle, _ => by simp [RV.leL] at hle
  | _ :: _, [], _, _, hle, _ => by simp [RV.leL] at hle
end
end
end Go.Oc
