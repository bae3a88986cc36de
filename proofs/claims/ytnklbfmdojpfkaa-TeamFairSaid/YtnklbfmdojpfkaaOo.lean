/- A region that draws its order: one walk in the order of the text serves every order. -/
import Derived.Test.YtnklbfmdojpfkaaOn
import Derived.Orders
namespace Go.Oc
open Go Go.RowKit

def wantA (ops : Array Oper) (s : AS) (o : Oper) : Option Bool :=
  match o.guard with
  | none => some true
  | some (g, want) =>
    match ((ops[g]?).bind (·.dst) : Option Nat) with
    | none => some false
    | some t =>
      match s.tm t with
      | .r (.bo b) => some (b == want)
      | .r .ud => some false
      | _ => none
def ysk : Yi := ⟨.r .ud, []⟩
/-- In a region that draws its order a row is made only where none is. -/
def AYD (P : Program) (o : Oper) (s : AS) (y : Yi) : Prop := AY P o s y ∧ (cls o = 2 → (s.rows (o.dst.getD 0)).c = .dead ∧ o.dst.isSome = true)
def YieldsA (P : Program) (ops : Array Oper) (o : Oper) (y : Yi) (s : AS) : Prop := (wantA ops s o = some true ∧ AYD P o s y) ∨ (wantA ops s o = some false ∧ y = ysk)
def qA (P : Program) (ops : Array Oper) (i : Nat) (K : AS → Prop) (s : AS) : Prop :=
  match ops[i]? with
  | none => K s
  | some o => ∃ y, YieldsA P ops o y s ∧ K (s.app o.dst y)
def anyA (P : Program) (ops : Array Oper) (Q : AS → Prop) : Nat → Array Bool → AS → Prop
  | 0, listed, s => Region.ready .any ops listed = [] ∧ Q s
  | fuel + 1, listed, s => (Region.ready .any ops listed = [] → Q s) ∧ ∀ i ∈ Region.ready .any ops listed, qA P ops i (anyA P ops Q fuel (listed.setIfInBounds i true)) s
def NE (s : AS) : Prop := ∃ C p a w, SR C p s a w
def dstOk (ops : Array Oper) (n : Nat) : Bool := ops.all fun o => match o.dst with | some d => decide (d < n) | none => true

section
variable {P : Program} {C : Ctx} {p : Plan} {s : AS} {a : Act} {w w' : World} {o : Oper} {ops : Array Oper}

theorem app_n (s : AS) (d : Option Nat) (y : Yi) : (s.app d y).n = s.n := by cases d <;> rfl
theorem dstOk_get {n i : Nat} (h : dstOk ops n = true) (ho : ops[i]? = some o) : ∀ t, o.dst = some t → t < n := by
  intro t ht
  unfold dstOk at h
  have := Array.all_eq_true_iff_forall_mem.1 h o (Array.mem_of_getElem? ho)
  rw [ht] at this
  simpa using this

theorem wantA_sound (h : SR C p s a w) {b : Bool} (hw : wantA ops s o = some b) : Region.wanted o (yielded ops a.tmps) = b := by
  unfold wantA at hw
  unfold Region.wanted
  split at hw
  · rename_i e; simp only [e]; injection hw
  · rename_i g want e
    simp only [e]
    unfold yielded
    split at hw
    · rename_i e2
      rw [e2]
      cases hw; rfl
    · rename_i t e2
      rw [e2]
      have ht := h.tm t
      split at hw
      · rename_i b' e3
        rw [e3] at ht
        simp only [AV.rel, RV.rel] at ht
        have hs : a.tmps[t]? = some (.bool b') := by
          rw [Array.getD_eq_getD_getElem?] at ht
          cases hx : a.tmps[t]? with
          | none => rw [hx] at ht <;> simp [undef] at ht
          | some u => rw [hx] at ht; simp at ht; rw [ht]
        simp only [Option.bind_some, hs]
        cases hw
        cases b' <;> cases want <;> rfl
      · rename_i e3
        rw [e3] at ht
        simp only [AV.rel, RV.rel] at ht
        cases hw
        rw [Array.getD_eq_getD_getElem?] at ht
        cases hx : a.tmps[t]? with
        | none => simp only [Option.bind_some, hx]; rfl
        | some u =>
          rw [hx] at ht
          have hu : u = undef := ht
          subst hu
          simp only [Option.bind_some, hx, undef]; rfl
      · cases hw

theorem anyA_sound {Q : AS → Prop} {Q' : Exit → Act → World → Prop} (hQ : ∀ s a w, Q s → SRel C s a w → Q' .normal a w) : ∀ (fuel : Nat) (listed : Array Bool) (s : AS) (a : Act) (w : World) (p : Plan), dstOk ops s.n = true →
    anyA P ops Q fuel listed s → SR C p s a w → wpAny P .any ops Q' fuel listed a w
  | 0, _, s, a, w, p, _, h, hs => ⟨h.1, hQ s a w h.2 ⟨p, hs⟩⟩
  | fuel + 1, listed, s, a, w, p, hd, h, hs => by
    refine ⟨fun h0 => hQ s a w (h.1 h0) ⟨p, hs⟩, fun i hi => ?_⟩
    have hq := h.2 i hi
    unfold qA at hq
    unfold wpOp
    split at hq
    · rename_i e
      simp only [e]
      exact anyA_sound hQ fuel _ s a w p hd hq hs
    · rename_i o e
      simp only [e]
      obtain ⟨y, hy, hK⟩ := hq
      rcases hy with ⟨hw, hy, _⟩ | ⟨hw, rfl⟩
      · rw [if_pos (wantA_sound hs hw)]
        refine .inl (AY_sound hs hy (dstOk_get hd e) fun a' w' p' hs' => ?_)
        exact anyA_sound hQ fuel _ _ a' w' p' (by rw [app_n]; exact hd) hK hs'
      · rw [wantA_sound hs hw]
        simp only [Bool.false_eq_true, if_false]
        have := hs.put' (d := o.dst) (av := .r .ud) (v := undef) (by simp only [AV.rel, RV.rel]) (dstOk_get hd e)
        exact anyA_sound hQ fuel _ _ _ w p (by rw [app_n]; exact hd) hK this

/-! ### The slots that an operation looks at -/
theorem ev_put {d : Option Nat} {v : AV} {x : Operand} (h : ∀ t, d = some t → x ≠ .tmp t) : (s.put d v).ev x = s.ev x := by
  cases d with
  | none => rfl
  | some d =>
    cases x with
    | tmp t => exact upd_other _ _ (fun e => h d rfl (by rw [e]))
    | _ => rfl
theorem step_congr {s' : AS} (hr : s'.rows = s.rows) (he : ∀ x ∈ o.op.operands, s'.ev x = s.ev x) : step P o s' = step P o s := by
  have pairs : ∀ ps : Array (Nat × Operand), (∀ x ∈ (ps.toList.map (·.2)).toArray, s'.ev x = s.ev x) → (ps.toList.map fun (x : Nat × Operand) => (x.1, s'.ev x.2)) = ps.toList.map fun x => (x.1, s.ev x.2) := fun ps hp =>
    List.map_congr_left fun q hm => by rw [hp q.2 (by simpa using ⟨q.1, Array.mem_toList_iff.1 hm⟩)]
  have lists : ∀ l : Array Operand, (∀ x ∈ l, s'.ev x = s.ev x) → l.toList.map s'.ev = l.toList.map s.ev := fun l hl => List.map_congr_left fun x hx => hl x (by simpa using hx)
  have hv : s'.ver = s.ver := by funext k; simp [AS.ver, hr]
  unfold step
  split <;> rename_i ho <;> (try rw [ho] at he) <;> (try simp only [Op.operands, Call.operands] at he)
  · rw [he _ (by simp)]
  · rw [he _ (by simp)]
  · rw [he _ (by simp), he _ (by simp), he _ (by simp)]
  · rw [he _ (by simp), he _ (by simp)]
  · rw [he _ (by simp)]
  · rw [he _ (by simp)]
  · rw [he _ (by simp)]; unfold sLoad; rw [hr]
  · rw [he _ (by simp), he _ (by simp)]; unfold sStore; rw [hr, hv]
  · rw [he _ (by simp)]; unfold sBox; rw [hr, hv]
  · unfold sAlloc; rw [hr]
  · rw [he _ (by simp)]; unfold sField; rw [hv]
  · rw [he _ (by simp)]
  · rw [he _ (by simp), he _ (by simp)]; unfold sIndex; rw [hv]
  · rw [he _ (by simp), he _ (by simp)]
  · rename_i t x lo hi mx
    rw [he _ (by simp)]
    have h1 : lo.map s'.ev = lo.map s.ev := by cases lo with | none => rfl | some y => simp only [Option.map_some]; rw [he y (by simp)]
    have h2 : hi.map s'.ev = hi.map s.ev := by cases hi with | none => rfl | some y => simp only [Option.map_some]; rw [he y (by simp)]
    have h3 : mx.map s'.ev = mx.map s.ev := by cases mx with | none => rfl | some y => simp only [Option.map_some]; rw [he y (by simp)]
    rw [h1, h2, h3]; unfold sSlice sSlice3 lenA; rw [hv, hr]
  · rename_i t ps
    have := pairs ps he
    rw [this]; unfold sBuild; rw [hv]
  · rename_i t n ps
    have := pairs ps he
    rw [this]; unfold sBuildSlice; rw [hv]
  · rw [he _ (by simp), he _ (by simp)]; unfold sMakeSlice; rw [hr]
  · rename_i f first caps
    rw [lists caps (fun x hx => he x (by simp [hx]))]
  · rw [he _ (by simp)]
  · rw [he _ (by simp)]; unfold sNil; rw [hv]
  · unfold sMakeMap; rw [hr]
  · rw [he _ (by simp), he _ (by simp)]; unfold sLookup; rw [hr]
  · rw [he _ (by simp), he _ (by simp), he _ (by simp)]; unfold sMapUpdate; rw [hr]
  · rw [he _ (by simp)]; unfold sRange; rw [hr]
  · rw [he _ (by simp)]; unfold sEntry; rw [hr]
  · rename_i b args ts
    rw [lists args (fun x hx => he x (by simpa using hx))]
    unfold sBuiltin
    split
    · unfold sLen; rw [hv, hr]
    · rfl
    · rfl
    · rename_i t t' x y _ _
      have hn : news? s' y = news? s y := by unfold news?; rw [hr]
      unfold sAppend sAppendZ; rw [hr, hn]
    · rfl
    · unfold sClear; rw [hr]
    · rfl
  · rfl
theorem AY_congr {s' : AS} (hr : s'.rows = s.rows) (he : ∀ x ∈ o.op.operands, s'.ev x = s.ev x) {y : Yi} (h : AY P o s y) : AY P o s' y := by
  unfold AY at h ⊢
  split at h
  · rename_i f args ts ho
    rw [ho] at he
    simp only [Op.operands, Call.operands] at he
    obtain ⟨r, ⟨F, cs, args', hF, hsn, hle, hA, hfl⟩, rfl⟩ := h
    have h1 : s'.ev f = s.ev f := he f (by simp)
    have h2 : args.toList.map s'.ev = args.toList.map s.ev := List.map_congr_left fun x hx => he x (by simp at hx; simp [hx])
    exact ⟨r, ⟨F, cs, args', by rw [h1]; exact hF, by rw [h2, hr]; exact hsn, by rw [h2, hr]; exact hle, hA, by rw [h2]; exact hfl⟩, rfl⟩
  · rw [step_congr hr he]; exact h
theorem wantA_put {d : Option Nat} {v : AV} (h : ∀ t, d = some t → t ∉ o.looksAt ops) (rows : Nat → Row) : wantA ops (({ s with rows := rows } : AS).put d v) o = wantA ops s o := by
  unfold wantA
  cases hg : o.guard with
  | none => rfl
  | some gw =>
    obtain ⟨g, want⟩ := gw
    dsimp only
    cases ht : ((ops[g]?).bind (·.dst) : Option Nat) with
    | none => rfl
    | some t =>
      dsimp only
      have : (({ s with rows := rows } : AS).put d v).tm t = s.tm t := by
        cases d with
        | none => rfl
        | some d => exact upd_other _ _ (fun e => h d rfl (by subst e; simp [Oper.looksAt, hg, ht]))
      rw [this]

/-! ### What an operation leaves -/
theorem AY_eff {y : Yi} (h : AY P o s y) (hc : cls o ≠ 3) : (cls o ≠ 2 ∧ y.eff = []) ∨ (cls o = 2 ∧ ∃ c, y.eff = [(o.dst.getD 0, ⟨(s.rows (o.dst.getD 0)).ver + 1, c⟩)] ∧
    ∀ cs, c = .box cs → (∃ x : Operand, (s.ev x).cells? s.ver = some cs) ∨ ∃ z : List RV, cs = z.map .r) := by
  unfold AY at h
  split at h
  · rename_i f args ts ho
    obtain ⟨r, _, rfl⟩ := h
    exact .inl ⟨by simp [cls, ho], rfl⟩
  · obtain ⟨hp, rfl⟩ := h
    unfold step at hp ⊢
    split at hp <;> rename_i ho
    · exact .inl ⟨by simp [cls, ho], rfl⟩
    · exact .inl ⟨by simp [cls, ho], rfl⟩
    · refine .inl ⟨by simp [cls, ho], ?_⟩; unfold sPick at hp ⊢; split at hp <;> first | rfl | exact hp.elim
    · refine .inl ⟨by simp [cls, ho], ?_⟩; unfold sBin sEq at hp ⊢; (repeat' split at hp) <;> first | rfl | exact hp.elim
    · refine .inl ⟨by simp [cls, ho], ?_⟩; unfold sUn at hp ⊢; split at hp <;> first | rfl | exact hp.elim
    · refine .inl ⟨by simp [cls, ho], ?_⟩; unfold sConv at hp ⊢; split at hp <;> first | rfl | exact hp.elim
    · refine .inl ⟨by simp [cls, ho], ?_⟩; unfold sLoad at hp ⊢; (repeat' split at hp) <;> first | rfl | exact hp.elim
    · simp [cls, ho] at hc
    · refine .inr ⟨by simp [cls, ho], ?_⟩
      rename_i t x
      unfold sBox at hp ⊢
      split at hp
      · rename_i cs e
        exact ⟨_, rfl, fun cs' h => by injection h with h; subst h; exact .inl ⟨x, e⟩⟩
      · exact hp.elim
    · refine .inr ⟨by simp [cls, ho], ?_⟩
      unfold sAlloc at hp ⊢
      split at hp
      · exact ⟨_, rfl, fun cs' h => by injection h with h; subst h; exact .inr ⟨_, rfl⟩⟩
      · exact hp.elim
    · refine .inl ⟨by simp [cls, ho], ?_⟩; unfold sField at hp ⊢; (repeat' split at hp) <;> first | rfl | exact hp.elim
    · refine .inl ⟨by simp [cls, ho], ?_⟩; unfold sFieldV sPart at hp ⊢; (repeat' split at hp) <;> first | rfl | exact hp.elim
    · refine .inl ⟨by simp [cls, ho], ?_⟩; unfold sIndex at hp ⊢; (repeat' split at hp) <;> first | rfl | exact hp.elim
    · refine .inl ⟨by simp [cls, ho], ?_⟩; unfold sIndexV sPart at hp ⊢; (repeat' split at hp) <;> first | rfl | exact hp.elim
    · refine .inl ⟨by simp [cls, ho], ?_⟩; unfold sSlice sSlice3 at hp ⊢; (repeat' split at hp) <;> first | rfl | exact hp.elim
    · refine .inl ⟨by simp [cls, ho], ?_⟩; unfold sBuild at hp ⊢; (repeat' split at hp) <;> first | rfl | exact hp.elim
    · refine .inl ⟨by simp [cls, ho], ?_⟩
      unfold sBuildSlice at hp ⊢
      split at hp
      · rename_i n _ _ _ _ _ _ _ _ _ _ _
        split
        · rfl
        · split <;> rfl
      · exact hp.elim
    · refine .inr ⟨by simp [cls, ho], ?_⟩
      unfold sMakeSlice at hp ⊢
      split at hp
      · exact ⟨_, rfl, fun cs' h => by cases h⟩
      · exact hp.elim
    · refine .inl ⟨by simp [cls, ho], ?_⟩; split <;> rfl
    · refine .inl ⟨by simp [cls, ho], ?_⟩; unfold sExtract at hp ⊢; (repeat' split at hp) <;> first | rfl | exact hp.elim
    · refine .inl ⟨by simp [cls, ho], ?_⟩; unfold sNil at hp ⊢; (repeat' split at hp) <;> first | rfl | exact hp.elim
    · refine .inr ⟨by simp [cls, ho], ?_⟩
      unfold sMakeMap at hp ⊢
      split at hp
      · exact ⟨_, rfl, fun cs' h => by cases h⟩
      · exact hp.elim
    · refine .inl ⟨by simp [cls, ho], ?_⟩; unfold sLookup at hp ⊢; (repeat' split at hp) <;> first | rfl | exact hp.elim
    · simp [cls, ho] at hc
    · simp [cls, ho] at hc
    · simp [cls, ho] at hc
    · rename_i b args ts
      unfold sBuiltin at hp ⊢
      split at hp
      · refine .inl ⟨by simp [cls, ho], ?_⟩; unfold sLen at hp ⊢; (repeat' split at hp) <;> first | rfl | exact hp.elim
      · refine .inl ⟨by simp [cls, ho], ?_⟩; unfold sMinMax at hp ⊢; split at hp <;> first | rfl | exact hp.elim
      · refine .inl ⟨by simp [cls, ho], ?_⟩; unfold sMinMax at hp ⊢; split at hp <;> first | rfl | exact hp.elim
      · simp [cls, ho] at hc
      · simp [cls, ho] at hc
      · simp [cls, ho] at hc
      · exact hp.elim
    · exact hp.elim
/-- What does arithmetic minds no row. -/
theorem AY_cls0 {y : Yi} {rows : Nat → Row} (h : AY P o s y) (hc : cls o = 0) : AY P o { s with rows := rows } y := by
  unfold AY at h ⊢
  split at h
  · rename_i ho; simp [cls, ho] at hc
  · suffices hs : step P o { s with rows := rows } = step P o s by rw [hs]; exact h
    unfold step
    rw [ev_rows']
    split <;> rename_i ho <;> first
      | rfl
      | (simp [cls, ho] at hc; done)
      | skip
    rename_i b args ts
    unfold sBuiltin
    split <;> first
      | rfl
      | (simp [cls, ho] at hc; done)
end
end Go.Oc
