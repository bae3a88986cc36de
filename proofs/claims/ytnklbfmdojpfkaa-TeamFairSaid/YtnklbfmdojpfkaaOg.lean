/- Each operation does what 'step' says: slices, literals, what makes rows, what writes. -/
import Derived.Test.YtnklbfmdojpfkaaOf
namespace Go.Oc
open Go Go.RowKit

section
variable {P : Program} {C : Ctx} {p : Plan} {s : AS} {a : Act} {w w' : World} {o : Oper}

/-- Row k gets a new version: nowhere, where it was, or in a new block. -/
theorem SR.reRow (h : SR C p s a w) (k : Nat) (hk0 : k < 1000) (c : RowC) (hmi : c.isMi = false) (β1 : Option Nat) (g : Nat) (hg : g ≤ maxLen) (hos : w'.os = w.os) (htape : w'.tape = w.tape) (hout : w'.output = w.output) (hsize : w.heap.size ≤ w'.heap.size)
    (hblock : ∀ i, i < w.heap.size → p.β k ≠ some i → w'.heap[i]? = w.heap[i]?) (hβ1 : ∀ b, β1 = some b → b < w'.heap.size ∧ (p.β k = some b ∨ w.heap.size ≤ b))
    (hc : ∀ p' : Plan, ∀ ver', p'.R = p.R → p'.β k = β1 → p'.γ k = g → Kept w w' p p' s.ver ver' → rowRel w' p' ver' k c) :
    SR C { p with β := upd p.β k β1, γ := upd p.γ k g } { s with rows := upd s.rows k ⟨(s.rows k).ver + 1, c⟩ } a w' := by
  have hver : ∀ j, (upd s.rows k ⟨(s.rows k).ver + 1, c⟩ j).ver = if j = k then s.ver k + 1 else s.ver j := fun j => by
    unfold upd; split <;> rfl
  have hk : Kept w w' p { p with β := upd p.β k β1, γ := upd p.γ k g } s.ver (AS.ver { s with rows := upd s.rows k ⟨(s.rows k).ver + 1, c⟩ }) := by
    refine ⟨fun _ h => h, fun ad hr => World.cell?_of_block (hblock _ (h.rb _ hr) (fun e => (h.bl k _ e).2.1 hr)), fun j => ?_, fun j hj => ?_⟩
    · show s.ver j ≤ (upd s.rows k ⟨(s.rows k).ver + 1, c⟩ j).ver
      rw [hver]; split
      · rename_i e; subst e; omega
      · exact Nat.le_refl _
    · have hj' : (upd s.rows k ⟨(s.rows k).ver + 1, c⟩ j).ver = s.ver j := hj
      rw [hver] at hj'
      split at hj'
      · rename_i e; subst e; omega
      · rename_i e; exact ⟨upd_other _ _ e, upd_other _ _ e⟩
  exact {
    base := ⟨hos.trans h.base.os, htape.trans h.base.tape, hout.trans h.base.output, Nat.le_trans h.base.size hsize, fun i hi hn => by
      refine (hblock i (Nat.lt_of_lt_of_le hi h.base.size) fun e => ?_).trans (h.base.block i hi hn)
      rcases (h.bl k i e).2.2 with hb | hb
      · omega
      · exact hn hb.2⟩
    r0 := h.r0
    rn := h.rn
    rb := fun b hr => Nat.lt_of_lt_of_le (h.rb b hr) hsize
    tm := fun t => AV.rel_mono hk _ _ (h.tm t)
    sz := h.sz
    df := h.df
    rw := fun j => by
      by_cases e : j = k
      · subst e
        show rowRel _ _ _ j (upd s.rows j ⟨(s.rows j).ver + 1, c⟩ j).c
        rw [upd_same]
        exact hc _ _ rfl (upd_same _ _ _) (upd_same _ _ _) hk
      · show rowRel _ _ _ j (upd s.rows k ⟨(s.rows k).ver + 1, c⟩ j).c
        rw [upd_other _ _ e]
        exact rowRel_mono hk (upd_other _ _ e) (upd_other _ _ e) (fun b hβ => hblock b (h.bl j b hβ).1 (fun eb => e (h.ij j k b hβ eb))) _ (fun km n l cur hcc hn b hβ => hblock b (h.bl km b hβ).1 (fun eb => by
          have e3 := h.ij km k b hβ eb
          subst e3
          have hr := h.rw j
          rw [hcc] at hr
          simp only [rowRel] at hr
          obtain ⟨r, _, hle, _⟩ := hr
          have hle' : n ≤ s.ver km := hle
          have hn' : n = (upd s.rows km ⟨(s.rows km).ver + 1, c⟩ km).ver := hn
          rw [upd_same] at hn'
          have : n = s.ver km + 1 := hn'
          omega)) (h.rw j)
    bl := fun j b hβ => by
      by_cases e : j = k
      · subst e
        simp only [upd_same] at hβ
        obtain ⟨h1, h2⟩ := hβ1 b hβ
        rcases h2 with h2 | h2
        · exact ⟨h1, (h.bl j b h2).2⟩
        · exact ⟨h1, fun hr => by have := h.rb _ hr; omega, .inl (Nat.le_trans h.base.size h2)⟩
      · simp only [upd_other _ _ e] at hβ
        obtain ⟨h1, h2, h3⟩ := h.bl j b hβ
        exact ⟨Nat.lt_of_lt_of_le h1 hsize, h2, h3⟩
    ij := fun j j' b hj hj' => by
      have key : ∀ j', j' ≠ k → β1 = some b → p.β j' = some b → False := fun j' e' hb hj' => by
        rcases (hβ1 b hb).2 with h2 | h2
        · exact e' (h.ij j' k b hj' h2)
        · have := (h.bl j' b hj').1; omega
      by_cases e : j = k <;> by_cases e' : j' = k
      · rw [e, e']
      · subst e
        simp only [upd_same, upd_other _ _ e'] at hj hj'
        exact (key j' e' hj hj').elim
      · subst e'
        simp only [upd_same, upd_other _ _ e] at hj hj'
        exact (key j e hj' hj).elim
      · simp only [upd_other _ _ e, upd_other _ _ e'] at hj hj'
        exact h.ij j j' b hj hj'
    cap := fun j => by
      show upd p.γ k g j ≤ maxLen
      unfold upd; split
      · exact hg
      · exact h.cap j
    pn := fun j x hx => by
      obtain ⟨h1, h2, h3, h4⟩ := h.pn j x hx
      have e : j ≠ k := by omega
      exact ⟨(upd_other _ _ e).trans h1, (upd_other _ _ e).trans h2, by show (upd s.rows k ⟨(s.rows k).ver + 1, c⟩ j).ver = 0; rw [upd_other _ _ e]; exact h3, h4⟩
    lk := fun j km n l cur hj hn => lk_upd h k c hmi j km n l cur hj hn }

/-! ### The cells of a value -/
theorem flat1_cells {v : RV} {u : Value} {R : Nat → Prop} (h : v.rel w R u) (hf : v.flat1 = true) : u.cells = #[u] ∧ u.oneCell' = true := by
  cases v <;> simp only [RV.flat1, Bool.false_eq_true] at hf <;> simp only [RV.rel] at h
  · subst h; exact ⟨rfl, rfl⟩
  · subst h; exact ⟨rfl, rfl⟩
  · obtain ⟨A, rfl⟩ := h; exact ⟨rfl, rfl⟩
  · obtain ⟨A, c, rfl, _⟩ := h; exact ⟨rfl, rfl⟩
  · subst h; exact ⟨rfl, rfl⟩
  · obtain ⟨A, rfl, _⟩ := h; exact ⟨rfl, rfl⟩
  · obtain ⟨vs, rfl, _⟩ := h; exact ⟨rfl, rfl⟩
  · subst h; exact ⟨rfl, rfl⟩
  · subst h; exact ⟨rfl, rfl⟩
end

section
variable {P : Program} {C : Ctx} {p : Plan} {s : AS} {a : Act} {w w' : World} {o : Oper} {ver : Nat → Nat}
theorem relV_one {x : AV} {v : Value} (h : x.rel w p ver v) : AV.relV w p ver [x] [v] := by simp only [AV.relV]; exact ⟨v, [], rfl, h, rfl⟩
/-- A value whose cells are known is the value that they make. -/
theorem cells_rel {x : AV} {xs : List AV} {v : Value} (hx : x.cells? ver = some xs) (h : x.rel w p ver v) : AV.relV w p ver xs v.cells.toList ∧ ∀ u ∈ v.cells.toList, u.oneCell' = true := by
  have one : v.cells = #[v] → v.oneCell' = true → some [x] = some xs → AV.relV w p ver xs v.cells.toList ∧ ∀ u ∈ v.cells.toList, u.oneCell' = true := fun h1 h2 he => by
    injection he with he
    subst he
    rw [h1]
    exact ⟨relV_one h, by simpa using h2⟩
  unfold AV.cells? at hx
  split at hx
  · injection hx with hx
    subst hx
    simp only [AV.rel, RV.rel] at h
    obtain ⟨vs, rfl, h1, hV⟩ := h
    exact ⟨AV.relV_map_r hV, h1⟩
  · split at hx
    · rename_i v' hf
      have h' := h
      simp only [AV.rel] at h'
      obtain ⟨h1, h2⟩ := flat1_cells h' hf
      exact one h1 h2 hx
    · cases hx
  · injection hx with hx
    subst hx
    simp only [AV.rel] at h
    obtain ⟨vs, rfl, h1, hV⟩ := h
    exact ⟨hV, h1⟩
  · cases hx
  · have h' := h
    simp only [AV.rel] at h'
    obtain ⟨vs, rfl, _⟩ := h'
    exact one rfl rfl hx
  all_goals
    split at hx
    · rename_i hn
      have h' := h
      simp only [AV.rel] at h'
      first
        | (obtain ⟨b, _, rfl⟩ := h'.2 hn; exact one rfl rfl hx)
        | (rcases h'.2 hn with ⟨_, _, _, _, A, rfl⟩ | ⟨b, A, _, rfl, _⟩ <;> exact one rfl rfl hx)
    · cases hx
theorem foldl_lay : ∀ (l : List Value) (k off : Nat) (arr : Array Value), off + k + l.length ≤ arr.size →
    ((l.zipIdx k).foldl (fun cs (x : Value × Nat) => cs.setIfInBounds (off + x.2) x.1) arr).toList = arr.toList.take (off + k) ++ (l ++ arr.toList.drop (off + k + l.length))
  | [], k, off, arr, h => by simp
  | x :: l, k, off, arr, h => by
    simp only [List.length_cons] at h
    simp only [List.zipIdx_cons, List.foldl_cons]
    rw [foldl_lay l (k + 1) off _ (by simp; omega)]
    simp only [Array.toList_setIfInBounds, List.length_cons]
    have e := list_seg_step arr.toList (off + k) x l (by simp; omega)
    simp only [List.append_assoc, List.cons_append] at e
    rw [show off + (k + 1) = off + k + 1 by omega, List.cons_append]
    exact e
theorem arr_foldl_lay (v : Array Value) (off : Nat) (arr : Array Value) (h : off + v.size ≤ arr.size) :
    (v.zipIdx.foldl (fun cs (x : Value × Nat) => cs.setIfInBounds (off + x.2) x.1) arr).toList = arr.toList.take off ++ (v.toList ++ arr.toList.drop (off + v.size)) := by
  rw [← Array.foldl_toList, Array.toList_zipIdx]
  have := foldl_lay v.toList 0 off arr (by simpa using h)
  simpa using this

theorem lay_rel (place : Nat → Option (Nat × Nat)) : ∀ (parts : List (Nat × AV)) (vals : List (Nat × Value)) (cs cs' : List AV) (cells : Array Value),
    lay ver place cs parts = some cs' → AV.relV w p ver cs cells.toList → (∀ u ∈ cells.toList, u.oneCell' = true) →
    parts.map (·.1) = vals.map (·.1) → AV.relV w p ver (parts.map (·.2)) (vals.map (·.2)) →
    ∃ cells', Instr.fill place cells vals = some cells' ∧ AV.relV w p ver cs' cells'.toList ∧ ∀ u ∈ cells'.toList, u.oneCell' = true
  | [], vals, cs, cs', cells, h, hV, h1, hi, _ => by
    cases vals with
    | nil => simp only [lay] at h; injection h with h; subst h; exact ⟨cells, rfl, hV, h1⟩
    | cons _ _ => simp at hi
  | (i, x) :: parts, vals, cs, cs', cells, h, hV, h1, hi, hvs => by
    cases vals with
    | nil => simp at hi
    | cons v vals =>
      obtain ⟨i', v⟩ := v
      simp only [List.map_cons, List.cons.injEq] at hi
      obtain ⟨hi1, hi2⟩ := hi
      subst hi1
      simp only [List.map_cons, AV.relV] at hvs
      obtain ⟨u, us, he, hu, hvs⟩ := hvs
      injection he with he1 he2
      subst he1 he2
      simp only [lay] at h
      split at h
      · rename_i off sz xs hp hx
        split at h
        · rename_i hlen
          obtain ⟨hc, ho⟩ := cells_rel hx hu
          have hl := AV.relV_length hc
          have hlc := AV.relV_length hV
          simp only [Array.length_toList] at hl hlc
          have hfold := arr_foldl_lay v.cells off cells (by omega)
          have := lay_rel place parts vals _ cs' (v.cells.zipIdx.foldl (fun cs (x : Value × Nat) => cs.setIfInBounds (off + x.2) x.1) cells) h
            (by rw [hfold, show off + v.cells.size = off + sz by omega]; exact AV.relV_append (AV.relV_take _ hV) (AV.relV_append hc (AV.relV_drop _ hV)))
            (by
              rw [hfold]
              intro u hu
              simp only [List.mem_append] at hu
              rcases hu with hu | hu | hu
              · exact h1 u (List.mem_of_mem_take hu)
              · exact ho u hu
              · exact h1 u (List.mem_of_mem_drop hu))
            hi2 hvs
          obtain ⟨cells', hf, hr⟩ := this
          refine ⟨cells', ?_, hr⟩
          simp only [Instr.fill, hp]
          rw [if_neg (by simp; omega)]
          exact hf
        · cases h
      · cases h
end

section
variable {P : Program} {C : Ctx} {p : Plan} {s : AS} {a : Act} {w w' : World} {o : Oper}
theorem parts_rel (h : SR C p s a w) : ∀ ps : List (Nat × Operand), (ps.map fun x => (x.1, s.ev x.2)).map (·.1) = (ps.map fun x => (x.1, a.eval x.2)).map (·.1) ∧
    AV.relV w p s.ver ((ps.map fun x => (x.1, s.ev x.2)).map (·.2)) ((ps.map fun x => (x.1, a.eval x.2)).map (·.2))
  | [] => by simp [AV.relV]
  | x :: ps => by
    obtain ⟨h1, h2⟩ := parts_rel h ps
    refine ⟨by simp, ?_⟩
    simp only [List.map_cons, AV.relV]
    exact ⟨_, _, rfl, h.ev x.2, h2⟩

theorem zero_rel {t : TypeId} {z : List Value} (hz : zeroOf P t = some z) : AV.relV w p s.ver ((z.map RV.ofV1).map .r) z ∧ ∀ u ∈ z, u.oneCell' = true := by
  obtain ⟨i, v, _, _, _, h1, _⟩ := zeroOf_spec hz
  exact ⟨AV.relV_map_r (RV.relV_ofV1 w p.R z), h1⟩

theorem good_build {t : TypeId} {ps : Array (Nat × Operand)} (h : SR C p s a w) (ho : o.op = .build t ps) (hp : (sBuild P s t (ps.toList.map fun (i, x) => (i, s.ev x))).pre) :
    Done P C o s a w (sBuild P s t (ps.toList.map fun (i, x) => (i, s.ev x))) := by
  have hparts := parts_rel h ps.toList
  have hmap : (ps.map fun (x : Nat × Operand) => (x.1, a.eval x.2)).toList = ps.toList.map fun x => (x.1, a.eval x.2) := by simp
  unfold sBuild at hp ⊢
  split at hp
  · rename_i fs sz agg z e1
    obtain ⟨_, _, _, zv, hz, hzz⟩ := tyq_base e1
    dsimp only at hzz
    obtain ⟨fields, hu, hfs, hall⟩ := tyq_struct e1
    obtain ⟨it, v, hi, hzero, hcells, h1, _⟩ := zeroOf_spec hz
    split at hp
    · rename_i cs hlay
      subst hzz
      have hz2 := zero_rel (s := s) (w := w) (p := p) hz
      rw [← hcells] at hz2
      obtain ⟨cells', hf, hr, hr1⟩ := lay_rel _ _ _ _ _ v.cells hlay (by rw [← hcells]; exact hz2.1) hz2.2 hparts.1 hparts.2
      have hb : P.built t (ps.map fun (x : Nat × Operand) => (x.1, a.eval x.2)).toList = some cells' := by
        have hpl : fields.toList.mapM (fun f => (P.info? f.type).map fun i => (f.offset, i.size)) = some (fields.toList.map fun f => (f.offset, P.cellsOf f.type)) := by
          clear hlay hu hfs
          revert hall
          generalize fields.toList = l
          intro hall
          induction l with
          | nil => rfl
          | cons f l ih =>
            obtain ⟨j, hj⟩ := okT_info (hall f (by simp)).1
            simp only [List.mapM_cons, hj, Option.map_some, ih (fun g hg => hall g (by simp [hg]))]
            simp [cellsOf_info hj]
        simp only [Program.built, hi, hu, hzero, hpl, hmap]
        rw [← hf]
        congr 1
        funext i
        rw [hfs]
        simp [List.getElem?_map, Option.map_map, Function.comp_def]
      refine done_v h (v := .agg cells') ?_ ?_
      · simp only [execOp, ho, Sem.run_bind]
        rw [run_build w t _ cells' hb]
        simp
      · simp only [AV.rel]
        exact ⟨_, rfl, hr1, hr⟩
    · exact hp.elim
  · rename_i n esz eagg sz agg z e1
    obtain ⟨_, _, _, zv, hz, hzz⟩ := tyq_base e1
    dsimp only at hzz
    obtain ⟨e, hu, hok, hsz, hagg⟩ := tyq_arr e1
    obtain ⟨it, v, hi, hzero, hcells, h1, _⟩ := zeroOf_spec hz
    obtain ⟨ie, hie⟩ := okT_info hok
    rw [cellsOf_info hie] at hsz
    subst hsz
    split at hp
    · rename_i cs hlay
      subst hzz
      have hz2 := zero_rel (s := s) (w := w) (p := p) hz
      rw [← hcells] at hz2
      obtain ⟨cells', hf, hr, hr1⟩ := lay_rel _ _ _ _ _ v.cells hlay (by rw [← hcells]; exact hz2.1) hz2.2 hparts.1 hparts.2
      have hb : P.built t (ps.map fun (x : Nat × Operand) => (x.1, a.eval x.2)).toList = some cells' := by
        simp only [Program.built, hi, hu, hzero, hie, hmap]
        exact hf
      refine done_v h (v := .agg cells') ?_ ?_
      · simp only [execOp, ho, Sem.run_bind]
        rw [run_build w t _ cells' hb]
        simp
      · simp only [AV.rel]
        exact ⟨_, rfl, hr1, hr⟩
    · exact hp.elim
  · exact hp.elim
end
end Go.Oc
