/- The rules of the abstract walk in the form in which 'simp' reckons with them. -/
import Derived.Test.YtnklbfmdojpfkaaOq
namespace Go.Oc
open Go Go.RowKit

/-- What an operation needs, and what follows it. -/
def aR (s : AS) (d : Option Nat) (r : Res) (K : AS → Prop) : Prop := r.pre ∧ (r.ass → K (s.app d r.y))
/-- The same for one that makes a row: in a region that draws its order none may be there yet. -/
def aF (D : Bool) (s : AS) (d : Option Nat) (r : Res) (K : AS → Prop) : Prop := (D = true → (s.rows (d.getD 0)).c = .dead ∧ d.isSome = true) ∧ aR s d r K

section
variable {P : Program} {D : Bool} {s : AS} {K : AS → Prop} {d : Option Nat} {ty : TypeId} {pos : String} {af : Array Edge} {g : Option (Nat × Bool)}

theorem aR_when {c : Prop} {v : AV} : aR s d (.when c v) K ↔ c ∧ K (s.put d v) := by
  constructor
  · rintro ⟨h1, h2⟩; exact ⟨h1, h2 trivial⟩
  · rintro ⟨h1, h2⟩; exact ⟨h1, fun _ => h2⟩
theorem aR_val {v : AV} : aR s d (.val v) K ↔ K (s.put d v) := by
  constructor
  · rintro ⟨_, h2⟩; exact h2 trivial
  · intro h; exact ⟨trivial, fun _ => h⟩
theorem aR_bad : aR s d .bad K ↔ False := ⟨fun h => h.1.elim, fun h => h.elim⟩
theorem aR_mk {c e : Prop} {v : AV} {eff : List (Nat × Row)} : aR s d ⟨c, e, ⟨v, eff⟩⟩ K ↔ c ∧ (e → K (s.app d ⟨v, eff⟩)) := Iff.rfl
theorem aF_false {r : Res} : aF false s d r K ↔ aR s d r K := by simp [aF]
theorem aF_true {r : Res} : aF true s d r K ↔ ((s.rows (d.getD 0)).c = .dead ∧ d.isSome = true) ∧ aR s d r K := by simp [aF]

theorem xop_aop {o : Op} (h1 : ∀ f args ts, o ≠ .call ⟨.value f, args, ts⟩) (h3 : ∀ x, o ≠ .next x false) : xop P D ⟨d, o, ty, pos, af, g⟩ K s ↔ aop P D ⟨d, o, ty, pos, af, g⟩ K s := by
  unfold xop
  cases D
  · rw [if_neg (by simp)]
    split
    · rename_i f args ts e; exact absurd e (h1 f args ts)
    · rename_i x e; exact absurd e (h3 x)
    · exact Iff.rfl
  · rw [if_pos rfl]
theorem aop_plain {o : Op} (h1 : ∀ f args ts, o ≠ .call ⟨.value f, args, ts⟩) (h2 : cls ⟨d, o, ty, pos, af, g⟩ ≠ 2) (h3 : ∀ x, o ≠ .next x false := by simp) : xop P D ⟨d, o, ty, pos, af, g⟩ K s ↔ aR s d (step P ⟨d, o, ty, pos, af, g⟩ s) K := by
  rw [xop_aop h1 h3]
  unfold aop
  split
  · rename_i f args ts e; exact absurd e (h1 f args ts)
  · rename_i x e; exact absurd e (h3 x)
  · constructor
    · rintro ⟨a, _, b⟩; exact ⟨a, b⟩
    · rintro ⟨a, b⟩; exact ⟨a, fun _ e => absurd e h2, b⟩
theorem aop_new {o : Op} (h1 : ∀ f args ts, o ≠ .call ⟨.value f, args, ts⟩) (h2 : cls ⟨d, o, ty, pos, af, g⟩ = 2) (h3 : ∀ x, o ≠ .next x false := by simp) : xop P D ⟨d, o, ty, pos, af, g⟩ K s ↔ aF D s d (step P ⟨d, o, ty, pos, af, g⟩ s) K := by
  rw [xop_aop h1 h3]
  unfold aop
  split
  · rename_i f args ts e; exact absurd e (h1 f args ts)
  · rename_i x e; exact absurd e (h3 x)
  · constructor
    · rintro ⟨a, c, b⟩; exact ⟨fun hD => c hD h2, a, b⟩
    · rintro ⟨c, a, b⟩; exact ⟨a, fun hD _ => c hD, b⟩

theorem aop_move {x : Operand} : xop P D ⟨d, .move x, ty, pos, af, g⟩ K s ↔ K (s.put d (s.ev x)) := (aop_plain (by simp) (by simp [cls])).trans aR_val
theorem aop_assign {x : Operand} : xop P D ⟨d, .assign x, ty, pos, af, g⟩ K s ↔ K (s.put d (s.ev x)) := (aop_plain (by simp) (by simp [cls])).trans aR_val
theorem aop_pick {a b c : Operand} : xop P D ⟨d, .pick a b c, ty, pos, af, g⟩ K s ↔ aR s d (sPick (s.ev a) (s.ev b) (s.ev c)) K := aop_plain (by simp) (by simp [cls])
theorem aop_bin {op : BinOp} {t t' : TypeId} {x y : Operand} : xop P D ⟨d, .binOp op t x y t', ty, pos, af, g⟩ K s ↔ aR s d (sBin P op t (s.ev x) (s.ev y)) K := aop_plain (by simp) (by simp [cls])
theorem aop_un {op : UnOp} {t : TypeId} {x : Operand} : xop P D ⟨d, .unOp op t x, ty, pos, af, g⟩ K s ↔ aR s d (sUn op (s.ev x)) K := aop_plain (by simp) (by simp [cls])
theorem aop_conv {t t' : TypeId} {x : Operand} : xop P D ⟨d, .convert t t' x, ty, pos, af, g⟩ K s ↔ aR s d (sConv P t t' (s.ev x)) K := aop_plain (by simp) (by simp [cls])
theorem aop_load {t : TypeId} {x : Operand} : xop P D ⟨d, .load t x, ty, pos, af, g⟩ K s ↔ aR s d (sLoad P s t (s.ev x)) K := aop_plain (by simp) (by simp [cls])
theorem aop_store {t : TypeId} {x y : Operand} : xop P D ⟨d, .store t x y, ty, pos, af, g⟩ K s ↔ aR s d (sStore P s t (s.ev x) (s.ev y)) K := aop_plain (by simp) (by simp [cls])
theorem aop_box {t : TypeId} {x : Operand} : xop P D ⟨d, .box t x, ty, pos, af, g⟩ K s ↔ aF D s d (sBox s (d.getD 0) (s.ev x)) K := aop_new (by simp) (by simp [cls])
theorem aop_alloc {t : TypeId} : xop P D ⟨d, .alloc t, ty, pos, af, g⟩ K s ↔ aF D s d (sAlloc P s (d.getD 0) t) K := aop_new (by simp) (by simp [cls])
theorem aop_fieldAddr {t : TypeId} {x : Operand} {f : Nat} : xop P D ⟨d, .fieldAddr t x f, ty, pos, af, g⟩ K s ↔ aR s d (sField P s t (s.ev x) f) K := aop_plain (by simp) (by simp [cls])
theorem aop_field {t : TypeId} {x : Operand} {f : Nat} : xop P D ⟨d, .field t x f, ty, pos, af, g⟩ K s ↔ aR s d (sFieldV P t (s.ev x) f) K := aop_plain (by simp) (by simp [cls])
theorem aop_indexAddr {t : TypeId} {x i : Operand} : xop P D ⟨d, .indexAddr t x i, ty, pos, af, g⟩ K s ↔ aR s d (sIndex P s t (s.ev x) (s.ev i)) K := aop_plain (by simp) (by simp [cls])
theorem aop_index {t : TypeId} {x i : Operand} : xop P D ⟨d, .index t x i, ty, pos, af, g⟩ K s ↔ aR s d (sIndexV P t (s.ev x) (s.ev i)) K := aop_plain (by simp) (by simp [cls])
theorem aop_slice {t : TypeId} {x : Operand} {lo hi mx : Option Operand} : xop P D ⟨d, .slice t x lo hi mx, ty, pos, af, g⟩ K s ↔ aR s d (sSlice P s t (s.ev x) (lo.map s.ev) (hi.map s.ev) (mx.map s.ev)) K := aop_plain (by simp) (by simp [cls])
/-- The operands of a list, written out. -/
def evs (s : AS) : List Operand → List AV
  | [] => []
  | x :: l => s.ev x :: evs s l
def evp (s : AS) : List (Nat × Operand) → List (Nat × AV)
  | [] => []
  | x :: l => (x.1, s.ev x.2) :: evp s l
theorem evs_eq : ∀ l : List Operand, l.map s.ev = evs s l
  | [] => rfl
  | x :: l => by simp only [List.map_cons, evs, evs_eq l]
theorem evp_eq : ∀ l : List (Nat × Operand), l.map (fun x => (x.1, s.ev x.2)) = evp s l
  | [] => rfl
  | x :: l => by simp only [List.map_cons, evp, evp_eq l]
theorem aop_build {t : TypeId} {ps : List (Nat × Operand)} : xop P D ⟨d, .build t ps.toArray, ty, pos, af, g⟩ K s ↔ aR s d (sBuild P s t (evp s ps)) K := by
  rw [← evp_eq]; exact aop_plain (by simp) (by simp [cls])
theorem aop_buildSlice {t : TypeId} {n : Nat} {ps : List (Nat × Operand)} : xop P D ⟨d, .buildSlice t n ps.toArray, ty, pos, af, g⟩ K s ↔ aR s d (sBuildSlice P s t n (evp s ps)) K := by
  rw [← evp_eq]; exact aop_plain (by simp) (by simp [cls])
theorem aop_makeSlice {t : TypeId} {l c : Operand} : xop P D ⟨d, .makeSlice t l c, ty, pos, af, g⟩ K s ↔ aF D s d (sMakeSlice P s (d.getD 0) t (s.ev l) (s.ev c)) K := aop_new (by simp) (by simp [cls])
theorem aop_makeFunc {f : FuncId} {caps : List Operand} : xop P D ⟨d, .makeFunc (.func f) #[] caps.toArray, ty, pos, af, g⟩ K s ↔ K (s.put d (.fn f (evs s caps))) := by
  rw [← evs_eq]
  refine (aop_plain (by simp) (by simp [cls])).trans ?_
  exact aR_val
theorem aop_extract {x : Operand} {i : Nat} : xop P D ⟨d, .extract x i, ty, pos, af, g⟩ K s ↔ aR s d (sExtract (s.ev x) i) K := aop_plain (by simp) (by simp [cls])
theorem aop_nil {x : Operand} : xop P D ⟨d, .nilCheck x, ty, pos, af, g⟩ K s ↔ aR s d (sNil s (s.ev x)) K := aop_plain (by simp) (by simp [cls])
theorem aop_len {x : Operand} {t : TypeId} : xop P D ⟨d, .call ⟨.builtin .len, #[x], #[t]⟩, ty, pos, af, g⟩ K s ↔ aR s d (sLen P s t (s.ev x)) K := aop_plain (by simp) (by simp [cls])
theorem aop_min {xs : List Operand} {ts : Array TypeId} : xop P D ⟨d, .call ⟨.builtin .min, xs.toArray, ts⟩, ty, pos, af, g⟩ K s ↔ aR s d (sMinMax (minA (evs s xs))) K := by
  rw [← evs_eq]
  refine (aop_plain (by simp) (by simp [cls])).trans ?_
  exact Iff.of_eq (by simp only [step, sBuiltin])
theorem aop_max {xs : List Operand} {ts : Array TypeId} : xop P D ⟨d, .call ⟨.builtin .max, xs.toArray, ts⟩, ty, pos, af, g⟩ K s ↔ aR s d (sMinMax (maxA (evs s xs))) K := by
  rw [← evs_eq]
  refine (aop_plain (by simp) (by simp [cls])).trans ?_
  exact Iff.of_eq (by simp only [step, sBuiltin])
theorem aop_append {x y : Operand} {t t' : TypeId} : xop P D ⟨d, .call ⟨.builtin .append, #[x, y], #[t, t']⟩, ty, pos, af, g⟩ K s ↔ aR s d (if t = t' then sAppend P s (d.getD 0) t t' (s.ev x) (s.ev y) else sAppendZ P s (d.getD 0) t t' (s.ev x) (s.ev y)) K := aop_plain (by simp) (by simp [cls])
theorem aop_cap {x : Operand} {t : TypeId} : xop P D ⟨d, .call ⟨.builtin .cap, #[x], #[t]⟩, ty, pos, af, g⟩ K s ↔ aR s d (sCap P t (s.ev x)) K := aop_plain (by simp) (by simp [cls])
theorem aop_clear {x : Operand} {t : TypeId} : xop P D ⟨d, .call ⟨.builtin .clear, #[x], #[t]⟩, ty, pos, af, g⟩ K s ↔ aR s d (sClear P s t (s.ev x)) K := aop_plain (by simp) (by simp [cls])
/-- A call: by a contract that only reads, or by one that writes. -/
def xcall (P : Program) (D : Bool) (s : AS) (d : Option Nat) (f : AV) (xs : List AV) (K : AS → Prop) : Prop := acall P s f xs (fun r => K (s.put d (.r r))) ∨ (D = false ∧ (mcall P s d f xs K ∨ ocall P s d f xs K))
theorem aop_call {f : Operand} {xs : List Operand} {ts : Array TypeId} : xop P D ⟨d, .call ⟨.value f, xs.toArray, ts⟩, ty, pos, af, g⟩ K s ↔ xcall P D s d (s.ev f) (evs s xs) K := by
  rw [← evs_eq]
  unfold xop xcall
  cases D
  · rw [if_neg (by simp)]; simp
  · rw [if_pos rfl]; simp [aop]
theorem aop_next {x : Operand} : xop P false ⟨d, .next x false, ty, pos, af, g⟩ K s ↔ sNext s d (s.ev x) K := Iff.rfl
theorem aop_makeMap {t : TypeId} : xop P D ⟨d, .makeMap t none, ty, pos, af, g⟩ K s ↔ aF D s d (sMakeMap P s (d.getD 0) t) K := aop_new (by simp) (by simp [cls])
theorem aop_lookup {t : TypeId} {x i : Operand} {ok : Bool} : xop P D ⟨d, .lookup t x i ok, ty, pos, af, g⟩ K s ↔ aR s d (sLookup P s t (s.ev x) (s.ev i) ok) K := aop_plain (by simp) (by simp [cls])
theorem aop_mapUpdate {t : TypeId} {x i y : Operand} : xop P D ⟨d, .mapUpdate t x i y, ty, pos, af, g⟩ K s ↔ aR s d (sMapUpdate P s t (s.ev x) (s.ev i) (s.ev y)) K := aop_plain (by simp) (by simp [cls])
theorem aop_range {t : TypeId} {x : Operand} : xop P D ⟨d, .range t x, ty, pos, af, g⟩ K s ↔ aR s d (sRange P s (d.getD 0) t (s.ev x)) K := aop_plain (by simp) (by simp [cls])
theorem aop_entry {x : Operand} : xop P D ⟨d, .entry x, ty, pos, af, g⟩ K s ↔ aR s d (sEntry s (s.ev x)) K := aop_plain (by simp) (by simp [cls])

theorem aops_nil {ops : Array Oper} : aops P D ops [] K s ↔ K s := Iff.rfl
theorem aops_cons {ops : Array Oper} {o : Op} {rest : List Oper} : aops P D ops (⟨d, o, ty, pos, af, none⟩ :: rest) K s ↔ xop P D ⟨d, o, ty, pos, af, none⟩ (aops P D ops rest K) s := Iff.rfl
/-- The slot of an operation. -/
def gslot (ops : Array Oper) (j : Nat) : Option Nat := (ops[j]?).bind (·.dst)
theorem gslot_zero {o : Oper} {l : List Oper} : gslot (o :: l).toArray 0 = o.dst := rfl
theorem gslot_succ {o : Oper} {l : List Oper} {j : Nat} : gslot (o :: l).toArray (j + 1) = gslot l.toArray j := by
  unfold gslot
  simp only [List.getElem?_toArray, List.getElem?_cons_succ]
/-- A guarded operation o: t is the slot that its guard looks at, v what is there. -/
def gB (P : Program) (D : Bool) (ops : Array Oper) (o : Oper) (rest : List Oper) (K : AS → Prop) (t : Nat) (want : Bool) (v : AV) (s : AS) : Prop :=
  match v with
  | .r (.bo b) => (b = want → xop P D o (aops P D ops rest K) (s.put (some t) (.r (.bo want)))) ∧ (b = !want → aops P D ops rest K ((s.put (some t) (.r (.bo (!want)))).put o.dst (.r .ud)))
  | .r .ud => aops P D ops rest K (s.put o.dst (.r .ud))
  | _ => False
def gA (P : Program) (D : Bool) (ops : Array Oper) (o : Oper) (rest : List Oper) (K : AS → Prop) (x : Option Nat) (want : Bool) (s : AS) : Prop :=
  match x with
  | none => aops P D ops rest K (s.put o.dst (.r .ud))
  | some t => gB P D ops o rest K t want (s.tm t) s
theorem gA_some {ops : Array Oper} {o : Oper} {rest : List Oper} {t : Nat} {want : Bool} : gA P D ops o rest K (some t) want s = gB P D ops o rest K t want (s.tm t) s := rfl
theorem gB_tt {ops : Array Oper} {o : Oper} {rest : List Oper} {t : Nat} : gB P D ops o rest K t true (.r (.bo true)) s ↔ xop P D o (aops P D ops rest K) (s.put (some t) (.r (.bo true))) := by simp [gB]
theorem gB_ff {ops : Array Oper} {o : Oper} {rest : List Oper} {t : Nat} : gB P D ops o rest K t false (.r (.bo false)) s ↔ xop P D o (aops P D ops rest K) (s.put (some t) (.r (.bo false))) := by simp [gB]
theorem gB_tf {ops : Array Oper} {o : Op} {rest : List Oper} {t : Nat} : gB P D ops ⟨d, o, ty, pos, af, g⟩ rest K t true (.r (.bo false)) s ↔ aops P D ops rest K ((s.put (some t) (.r (.bo false))).put d (.r .ud)) := by simp [gB]
theorem gB_ft {ops : Array Oper} {o : Op} {rest : List Oper} {t : Nat} : gB P D ops ⟨d, o, ty, pos, af, g⟩ rest K t false (.r (.bo true)) s ↔ aops P D ops rest K ((s.put (some t) (.r (.bo true))).put d (.r .ud)) := by simp [gB]
theorem gB_ud {ops : Array Oper} {o : Op} {rest : List Oper} {t : Nat} {want : Bool} : gB P D ops ⟨d, o, ty, pos, af, g⟩ rest K t want (.r .ud) s ↔ aops P D ops rest K (s.put d (.r .ud)) := Iff.rfl
theorem gB_bo {ops : Array Oper} {o : Op} {rest : List Oper} {t : Nat} {want b : Bool} : gB P D ops ⟨d, o, ty, pos, af, g⟩ rest K t want (.r (.bo b)) s ↔
    (b = want → xop P D ⟨d, o, ty, pos, af, g⟩ (aops P D ops rest K) (s.put (some t) (.r (.bo want)))) ∧ (b = (!want) → aops P D ops rest K ((s.put (some t) (.r (.bo (!want)))).put d (.r .ud))) := Iff.rfl
theorem aops_guard {ops : Array Oper} {o : Op} {rest : List Oper} {j : Nat} {want : Bool} :
    aops P D ops (⟨d, o, ty, pos, af, some (j, want)⟩ :: rest) K s ↔ gA P D ops ⟨d, o, ty, pos, af, some (j, want)⟩ rest K (gslot ops j) want s := by
  simp only [aops]
  unfold gA gslot gB
  exact Iff.rfl
theorem upd_app {α : Type} (f : Nat → α) (k : Nat) (v : α) (j : Nat) : upd f k v j = if j = k then v else f j := rfl
theorem put_mk {n : Nat} {tm : Nat → AV} {rows : Nat → Row} {k : Nat} {v : AV} : AS.put ⟨n, tm, rows⟩ (some k) v = ⟨n, upd tm k v, rows⟩ := rfl
theorem put_none {v : AV} : AS.put s none v = s := rfl
theorem app_val {v : AV} : AS.app s d ⟨v, []⟩ = AS.put s d v := by cases d <;> rfl
theorem app_eff {n : Nat} {tm : Nat → AV} {rows : Nat → Row} {v : AV} {k : Nat} {r : Row} {l : List (Nat × Row)} : AS.app ⟨n, tm, rows⟩ d ⟨v, (k, r) :: l⟩ = AS.app ⟨n, tm, upd rows k r⟩ d ⟨v, l⟩ := by cases d <;> rfl
theorem ev_tmp {t : Nat} {n : Nat} {tm : Nat → AV} {rows : Nat → Row} : AS.ev ⟨n, tm, rows⟩ (.tmp t) = tm t := rfl
theorem ev_const {v : Value} : AS.ev s (.const v) = .r (RV.ofV v) := rfl
theorem ev_func {f : FuncId} : AS.ev s (.func f) = .r (.fn f []) := rfl
theorem ver_mk {n : Nat} {tm : Nat → AV} {rows : Nat → Row} {k : Nat} : AS.ver ⟨n, tm, rows⟩ k = (rows k).ver := rfl

/-- The region, what follows it behind a name. -/
theorem awp_reg {C : Ctx} {Q : Exit → AS → Prop} {id : Nat} {l : List Oper} (hd : dstOk l.toArray s.n = true) (h : ∀ K : AS → Prop, (∀ s, Q .normal s → K s) → aops P false l.toArray l K s) : awp P C (.region id l.toArray false) Q s :=
  awp_region hd (h _ fun _ h => h)
theorem awp_dreg {C : Ctx} {Q : Exit → AS → Prop} {id : Nat} {l : List Oper} (hm : P.follows .mixedOrders = true) (hB : lexOk l.toArray = true) (hd : dstOk l.toArray s.n = true)
    (h : ∀ K : AS → Prop, (∀ s, Q .normal s → K s) → aops P true l.toArray l K s) : awp P C (.region id l.toArray true) Q s := awp_draw hm hB hd (h _ fun _ h => h)

/-- A call by a contract whose arguments are just what the callee is shown. -/
theorem acall_of {f : AV} {F : FuncId} {cs xs : List AV} {args : List RV} {r : RV} {K : RV → Prop} (h : ACalls P F args r) (hf : callee? f = some (F, cs)) (hs : snapPL s.rows (xs ++ cs)) (hle : RV.leL (snapVL s.rows (xs ++ cs)) args)
    (hfl : r.flatB = true ∨ AV.pureL (xs ++ cs) = true) (hK : K r) : acall P s f xs K := ⟨r, ⟨F, cs, args, hf, hs, hle, h, hfl⟩, hK⟩
theorem leL_refl : ∀ xs : List RV, RV.leL xs xs
  | [] => trivial
  | x :: xs => by simp only [RV.leL]; exact ⟨le_refl x, leL_refl xs⟩
  where le_refl : ∀ x : RV, RV.le x x
  | .un => by simp [RV.le]
  | .bo _ => by simp [RV.le]
  | .it _ _ => by simp [RV.le]
  | .ns => by simp [RV.le]
  | .sl _ _ => by simp [RV.le]
  | .np => by simp [RV.le]
  | .rp cs => by simp only [RV.le]; exact leL_refl cs
  | .ag cs => by simp only [RV.le]; exact leL_refl cs
  | .fn f cs => by simp only [RV.le]; exact ⟨trivial, leL_refl cs⟩
  | .nf => by simp [RV.le]
  | .tu cs => by simp [RV.le]
  | .st _ => by simp [RV.le]
  | .ud => by simp [RV.le]
theorem xcall_eq {f : AV} {F : FuncId} {cs xs : List AV} {args : List RV} {r : RV} {d : Option Nat} (h : ACalls P F args r) (hf : callee? f = some (F, cs)) (hs : snapPL s.rows (xs ++ cs)) (he : snapVL s.rows (xs ++ cs) = args)
    (hfl : r.flatB = true ∨ AV.pureL (xs ++ cs) = true) (hK : K (s.put d (.r r))) : xcall P D s d f xs K := .inl (acall_of h hf hs (he ▸ leL_refl _) hfl hK)
theorem acall_eq {f : AV} {F : FuncId} {cs xs : List AV} {args : List RV} {r : RV} {K : RV → Prop} (h : ACalls P F args r) (hf : callee? f = some (F, cs)) (hs : snapPL s.rows (xs ++ cs)) (he : snapVL s.rows (xs ++ cs) = args)
    (hfl : r.flatB = true ∨ AV.pureL (xs ++ cs) = true) (hK : K r) : acall P s f xs K := acall_of h hf hs (he ▸ leL_refl _) hfl hK
end
end Go.Oc
