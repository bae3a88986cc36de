/- The abstract state of a walk, how it reads a frame and a world, and the steps that keep it so. -/
import Derived.Test.YtnklbfmdojpfkaaOa
import Derived.Laws.CopyRow
namespace Go.Oc
open Go Go.RowKit

def upd {α : Type} (f : Nat → α) (k : Nat) (v : α) : Nat → α := fun j => if j = k then v else f j
theorem upd_same {α : Type} (f : Nat → α) (k : Nat) (v : α) : upd f k v k = v := by simp [upd]
theorem upd_other {α : Type} (f : Nat → α) {k j : Nat} (v : α) (h : j ≠ k) : upd f k v j = f j := by simp [upd, h]

structure AS where
  n : Nat
  tm : Nat → AV
  rows : Nat → Row

def AS.ver (s : AS) : Nat → Nat := fun k => (s.rows k).ver
def vers (rows : Nat → Row) : Nat → Nat := fun k => (rows k).ver

def RV.ofV1 : Value → RV
  | .bool b => .bo b
  | .int k n => .it k n
  | .slice none 0 0 => .ns
  | .pointer none => .np
  | .nilFunc => .nf
  | .string s => .st s
  | _ => .un
def RV.ofV : Value → RV
  | .agg cs => if cs.toList.all Value.oneCell' then .ag (cs.toList.map RV.ofV1) else .un
  | v => RV.ofV1 v
theorem RV.rel_ofV1 (w : World) (R : Nat → Prop) (v : Value) : (RV.ofV1 v).rel w R v := by
  unfold RV.ofV1
  split <;> simp [RV.rel]
theorem RV.relV_ofV1 (w : World) (R : Nat → Prop) : ∀ vs : List Value, RV.relV w R (vs.map RV.ofV1) vs
  | [] => by simp [RV.relV]
  | v :: vs => by simp only [List.map_cons, RV.relV]; exact ⟨v, vs, rfl, RV.rel_ofV1 w R v, RV.relV_ofV1 w R vs⟩
theorem RV.rel_ofV (w : World) (R : Nat → Prop) (v : Value) : (RV.ofV v).rel w R v := by
  unfold RV.ofV
  split
  · split
    · rename_i h
      simp only [RV.rel]; exact ⟨_, rfl, fun u hu => List.all_eq_true.1 h u hu, RV.relV_ofV1 w R _⟩
    · simp only [RV.rel]
  · exact RV.rel_ofV1 w R v

def AS.ev (s : AS) : Operand → AV
  | .tmp t => s.tm t
  | .const v => .r (RV.ofV v)
  | .func f => .r (.fn f [])
  | .global _ => .r .un

structure Ctx where
  w0 : World
  R0 : Nat → Prop
  bor : Nat → Prop
  pin : Nat → Option (Option Nat × Nat)

/-- Since the call began: nothing that was there has turned, but the blocks that were lent. -/
structure Since (C : Ctx) (w : World) : Prop where
  os : w.os = C.w0.os
  tape : w.tape = C.w0.tape
  output : w.output = C.w0.output
  size : C.w0.heap.size ≤ w.heap.size
  block : ∀ k, k < C.w0.heap.size → ¬ C.bor k → w.heap[k]? = C.w0.heap[k]?

mutual
def RV.relM (w : World) (R : Nat → Prop) : List (RV × RV) → List MapEntry → Prop
  | [], es => es = []
  | x :: xs, es => ∃ e es', es = e :: es' ∧ x.1.rel w R e.key ∧ x.2.rel w R e.val ∧ RV.relM w R xs es'
end

/-- A map's block. -/
def mapRel (w : World) (R : Nat → Prop) (b : Nat) (m : List (RV × RV)) : Prop :=
  ∃ es clock, w.heap[b]? = some (.map es clock) ∧ RV.relM w R m es.toList ∧ (∀ e ∈ es.toList, e.born < clock) ∧ es.toList.Pairwise (fun x y => x.born ≠ y.born)
/-- A range's block, over the map in block b. -/
def iterRel (w : World) (R : Nat → Prop) (r b : Nat) (left : List (RV × RV)) (cur : Option (RV × RV)) : Prop :=
  ∃ es clock since seen last, w.heap[r]? = some (.mapIter (some b) since seen last) ∧ w.heap[b]? = some (.map es clock) ∧ RV.relM w R left (es.toList.filter fun e => !seen.contains e.born) ∧
    (∀ e ∈ es.toList, e.born < since) ∧ es.toList.Pairwise (fun x y => x.born ≠ y.born) ∧ (since ≤ last ∧ since ≤ clock) ∧
    ∀ x, cur = some x → last = clock ∧ ∃ e ∈ es.toList, seen.back? = some e.born ∧ x.1.rel w R e.key ∧ x.2.rel w R e.val
def rowRel (w : World) (p : Plan) (ver : Nat → Nat) (k : Nat) : RowC → Prop
  | .dead => p.β k = none ∧ p.γ k = 1
  | .box cs => ∃ b cells t, p.β k = some b ∧ w.heap[b]? = some (.cells cells t (0, 0)) ∧ AV.relV w p ver cs cells.toList ∧ ∀ u ∈ cells.toList, u.oneCell' = true
  | .arr t sz es => ((p.β k = none ∧ es = [] ∧ p.γ k = 0) ∨
      ∃ b cells, p.β k = some b ∧ w.heap[b]? = some (.cells cells t (0, 0)) ∧ cells.size = p.γ k * sz ∧ es.length ≤ p.γ k ∧ RV.relE w p.R sz es ⟨b, 0, none⟩ 0)
  | .mp m => ∃ b, p.β k = some b ∧ mapRel w p.R b m
  | .mpi m => ∃ b, p.β k = some b ∧ mapRel w p.R b m
  | .mi km n left cur => ∃ r, p.β k = some r ∧ n ≤ ver km ∧ (n = ver km → ∃ b, p.β km = some b ∧ iterRel w p.R r b left cur)

structure SR (C : Ctx) (p : Plan) (s : AS) (a : Act) (w : World) : Prop where
  base : Since C w
  r0 : ∀ b, C.R0 b → p.R b
  rn : ∀ b, p.R b → C.R0 b ∨ C.w0.heap.size ≤ b
  rb : ∀ b, p.R b → b < w.heap.size
  tm : ∀ t, (s.tm t).rel w p s.ver (a.tmps.getD t undef)
  sz : a.tmps.size = s.n
  df : a.defers = []
  rw : ∀ k, rowRel w p s.ver k (s.rows k).c
  bl : ∀ k b, p.β k = some b → b < w.heap.size ∧ ¬ p.R b ∧ (C.w0.heap.size ≤ b ∨ (1000 ≤ k ∧ C.bor b))
  ij : ∀ k k' b, p.β k = some b → p.β k' = some b → k = k'
  cap : ∀ k, p.γ k ≤ maxLen
  pn : ∀ k x, C.pin k = some x → p.β k = x.1 ∧ p.γ k = x.2 ∧ s.ver k = 0 ∧ 1000 ≤ k
  lk : ∀ j km n l cur, (s.rows j).c = .mi km n l cur → n = s.ver km → (s.rows km).c.isMpi = true

def SRel (C : Ctx) (s : AS) (a : Act) (w : World) : Prop := ∃ p, SR C p s a w

section
variable {C : Ctx} {p p' : Plan} {s : AS} {a : Act} {w w' : World}

theorem SR.ev (h : SR C p s a w) (x : Operand) : (s.ev x).rel w p s.ver (a.eval x) := by
  cases x with
  | tmp t => exact h.tm t
  | const v => simp only [AS.ev, Act.eval, AV.rel]; exact RV.rel_ofV w p.R v
  | func f => simp only [AS.ev, Act.eval, AV.rel, RV.rel]; exact ⟨#[], rfl, by simp [RV.relV]⟩
  | global g => simp only [AS.ev, AV.rel, RV.rel]

theorem RV.relM_mono {R R' : Nat → Prop} (hR : ∀ b, R b → R' b) (hw : ∀ a : Addr, R a.block → w'.cell? a = w.cell? a) : ∀ (m : List (RV × RV)) (l : List MapEntry), RV.relM w R m l → RV.relM w' R' m l
  | [], _, h => by simpa only [RV.relM] using h
  | x :: xs, l, h => by
    simp only [RV.relM] at h ⊢
    obtain ⟨e, es', he, h4, h5, h6⟩ := h
    exact ⟨e, es', he, RV.rel_mono hR hw _ _ h4, RV.rel_mono hR hw _ _ h5, RV.relM_mono hR hw xs es' h6⟩
theorem mapRel_mono {R R' : Nat → Prop} (hR : ∀ b, R b → R' b) (hw : ∀ a : Addr, R a.block → w'.cell? a = w.cell? a) {b : Nat} (hb : w'.heap[b]? = w.heap[b]?) {m : List (RV × RV)} (h : mapRel w R b m) : mapRel w' R' b m := by
  obtain ⟨es, cl, h1, h2, h3⟩ := h
  exact ⟨es, cl, hb.trans h1, RV.relM_mono hR hw _ _ h2, h3⟩
theorem iterRel_mono {R R' : Nat → Prop} (hR : ∀ b, R b → R' b) (hw : ∀ a : Addr, R a.block → w'.cell? a = w.cell? a) {r b : Nat} (hr : w'.heap[r]? = w.heap[r]?) (hb : w'.heap[b]? = w.heap[b]?) {left : List (RV × RV)} {cur : Option (RV × RV)}
    (h : iterRel w R r b left cur) : iterRel w' R' r b left cur := by
  obtain ⟨es, cl, since, seen, last, h1, h2, h3, h4, h5, h6, h7⟩ := h
  refine ⟨es, cl, since, seen, last, hr.trans h1, hb.trans h2, RV.relM_mono hR hw _ _ h3, h4, h5, h6, fun x hx => ?_⟩
  obtain ⟨h8, e, he, h9, h10, h11⟩ := h7 x hx
  exact ⟨h8, e, he, h9, RV.rel_mono hR hw _ _ h10, RV.rel_mono hR hw _ _ h11⟩
theorem rowRel_mono {ver ver' : Nat → Nat} (h : Kept w w' p p' ver ver') {k : Nat} (hβ : p'.β k = p.β k) (hγ : p'.γ k = p.γ k) (hh : ∀ b, p.β k = some b → w'.heap[b]? = w.heap[b]?) :
    ∀ c : RowC, (∀ km n l cur, c = .mi km n l cur → n = ver' km → ∀ b, p.β km = some b → w'.heap[b]? = w.heap[b]?) → rowRel w p ver k c → rowRel w' p' ver' k c
  | .dead, _, hr => by simp only [rowRel] at hr ⊢; rw [hβ, hγ]; exact hr
  | .box cs, _, hr => by
    simp only [rowRel] at hr ⊢
    obtain ⟨b, cells, t, h1, h2, h3, h4⟩ := hr
    exact ⟨b, cells, t, hβ.trans h1, (hh b h1).trans h2, AV.relV_mono h cs _ h3, h4⟩
  | .arr t sz es, _, hr => by
    simp only [rowRel] at hr ⊢
    rw [hβ, hγ]
    refine hr.imp id ?_
    rintro ⟨b, cells, h1, h2, h3, h4, h5⟩
    refine ⟨b, cells, h1, (hh b h1).trans h2, h3, h4, RV.relE_mono h.R h.cell sz es _ 0 (fun j => ?_) h5⟩
    exact World.cell?_of_block (by rw [block_add]; exact hh b h1)
  | .mp m, _, hr => by
    simp only [rowRel] at hr ⊢
    obtain ⟨b, h1, h2⟩ := hr
    exact ⟨b, hβ.trans h1, mapRel_mono h.R h.cell (hh b h1) h2⟩
  | .mpi m, _, hr => by
    simp only [rowRel] at hr ⊢
    obtain ⟨b, h1, h2⟩ := hr
    exact ⟨b, hβ.trans h1, mapRel_mono h.R h.cell (hh b h1) h2⟩
  | .mi km n left cur, hm, hr => by
    simp only [rowRel] at hr ⊢
    obtain ⟨r, h1, h2, h3⟩ := hr
    refine ⟨r, hβ.trans h1, Nat.le_trans h2 (h.le km), fun e => ?_⟩
    have e1 : n = ver km := Nat.le_antisymm h2 (e ▸ h.le km)
    obtain ⟨b, hb, hi⟩ := h3 e1
    exact ⟨b, (h.same km (e ▸ e1)).1.trans hb, iterRel_mono h.R h.cell (hh r h1) (hm km n left cur rfl e b hb) hi⟩

/-- A slot gets a value. -/
theorem SR.put (h : SR C p s a w) {d : Nat} {av : AV} {v : Value} (hv : av.rel w p s.ver v) (hd : d < s.n) :
    SR C p { s with tm := upd s.tm d av } (a.put (some d) v) w where
  base := h.base
  r0 := h.r0
  rn := h.rn
  rb := h.rb
  tm := fun t => by
    show (upd s.tm d av t).rel w p s.ver ((a.tmps.setIfInBounds d v).getD t undef)
    by_cases e : t = d
    · subst e
      have : t < a.tmps.size := by rw [h.sz]; exact hd
      simp only [upd_same]
      have h2 : (a.tmps.setIfInBounds t v).getD t undef = v := by simp [Array.getD, this]
      rw [h2]; exact hv
    · rw [upd_other _ _ e]
      have h2 : (a.tmps.setIfInBounds d v).getD t undef = a.tmps.getD t undef := by
        simp only [Array.getD_eq_getD_getElem?, Array.getElem?_setIfInBounds_ne (Ne.symm e)]
      rw [h2]; exact h.tm t
  sz := by simp [Act.put, h.sz]
  df := h.df
  rw := h.rw
  bl := h.bl
  ij := h.ij
  cap := h.cap
  pn := h.pn
  lk := h.lk

theorem AV.rel_un (w : World) (p : Plan) (ver : Nat → Nat) (v : Value) : (AV.r .un).rel w p ver v := by simp [AV.rel, RV.rel]

/-- The operation's result goes to its slot, if it has one. -/
def AS.put (s : AS) (d : Option Nat) (v : AV) : AS :=
  match d with
  | some d => { s with tm := upd s.tm d v }
  | none => s
theorem SR.put' (h : SR C p s a w) {d : Option Nat} {av : AV} {v : Value} (hv : av.rel w p s.ver v) (hd : ∀ t, d = some t → t < s.n) : SR C p (s.put d av) (a.put d v) w := by
  cases d with
  | none => exact h
  | some d => exact h.put hv (hd d rfl)

theorem Since.drew (h : Since C w) : Since C w.drew := ⟨h.os, h.tape, h.output, h.size, h.block⟩
theorem Since.alloc (h : Since C w) (o : Obj) : Since C (w.alloc o) :=
  ⟨h.os, h.tape, h.output, Nat.le_trans h.size (by simp), fun k hk hb => (Below.heap_alloc w o k (Nat.lt_of_lt_of_le hk h.size)).trans (h.block k hk hb)⟩
theorem Since.below (h : Since C w) (hb : Below w.heap.size w w') : Since C w' :=
  ⟨hb.os.trans h.os, hb.tape.trans h.tape, hb.output.trans h.output, Nat.le_trans h.size hb.size, fun k hk hn => (hb.block k (Nat.lt_of_lt_of_le hk h.size)).trans (h.block k hk hn)⟩

/-- The world draws, or grows by blocks that nobody here knows; more plain data may come to be known, in new blocks. -/
theorem SR.below (h : SR C p s a w) (hb : Below w.heap.size w w') {R' : Nat → Prop} (h1 : ∀ b, p.R b → R' b) (h2 : ∀ b, R' b → p.R b ∨ w.heap.size ≤ b) (h3 : ∀ b, R' b → b < w'.heap.size) :
    SR C { p with R := R' } s a w' := by
  have hk : Kept w w' p { p with R := R' } s.ver s.ver :=
    ⟨h1, fun ad hr => hb.cell (h.rb _ hr), fun _ => Nat.le_refl _, fun _ _ => ⟨rfl, rfl⟩⟩
  exact {
    base := h.base.below hb
    r0 := fun b hr => h1 b (h.r0 b hr)
    rn := fun b hr => (h2 b hr).elim (h.rn b) (fun hl => .inr (Nat.le_trans h.base.size hl))
    rb := h3
    tm := fun t => AV.rel_mono hk _ _ (h.tm t)
    sz := h.sz
    df := h.df
    rw := fun k => rowRel_mono hk rfl rfl (fun b hβ => hb.block b (h.bl k b hβ).1) _ (fun km _ _ _ _ _ b hβ => hb.block b (h.bl km b hβ).1) (h.rw k)
    bl := fun k b hβ => ⟨Nat.lt_of_lt_of_le (h.bl k b hβ).1 hb.size, fun hr => (h2 b hr).elim (h.bl k b hβ).2.1 (fun hl => by have := (h.bl k b hβ).1; omega), (h.bl k b hβ).2.2⟩
    ij := h.ij
    cap := h.cap
    pn := h.pn
    lk := h.lk }

theorem lk_upd (h : SR C p s a w) (k : Nat) (c : RowC) (hmi : c.isMi = false) (j km n : Nat) (l : List (RV × RV)) (cur : Option (RV × RV)) (hj : (upd s.rows k ⟨(s.rows k).ver + 1, c⟩ j).c = .mi km n l cur)
    (hn : n = AS.ver { s with rows := upd s.rows k ⟨(s.rows k).ver + 1, c⟩ } km) : (upd s.rows k ⟨(s.rows k).ver + 1, c⟩ km).c.isMpi = true := by
  by_cases e : j = k
  · subst e
    rw [upd_same] at hj
    have hj' : c = .mi km n l cur := hj
    rw [hj'] at hmi; cases hmi
  · rw [upd_other _ _ e] at hj
    have hr := h.rw j
    rw [hj] at hr
    simp only [rowRel] at hr
    obtain ⟨r, _, hle, _⟩ := hr
    have hn' : n = (upd s.rows k ⟨(s.rows k).ver + 1, c⟩ km).ver := hn
    by_cases e2 : km = k
    · subst e2
      rw [upd_same] at hn'
      have : n ≤ (s.rows km).ver := hle
      have : n = (s.rows km).ver + 1 := hn'
      omega
    · rw [upd_other _ _ e2] at hn' ⊢
      exact h.lk j km n l cur hj hn'
/-- Row k anew, in a block that was just made. -/
theorem SR.newRow (h : SR C p s a w) (k : Nat) (hk0 : k < 1000) (c : RowC) (hmi : c.isMi = false) (g : Nat) (hg : g ≤ maxLen) (o : Obj)
    (hc : ∀ p' : Plan, ∀ ver', p'.R = p.R → p'.β k = some w.heap.size → p'.γ k = g → Kept w (w.alloc o) p p' s.ver ver' → rowRel (w.alloc o) p' ver' k c) :
    SR C { p with β := upd p.β k (some w.heap.size), γ := upd p.γ k g } { s with rows := upd s.rows k ⟨(s.rows k).ver + 1, c⟩ } a (w.alloc o) := by
  have hver : ∀ j, (upd s.rows k ⟨(s.rows k).ver + 1, c⟩ j).ver = if j = k then s.ver k + 1 else s.ver j := fun j => by
    unfold upd; split <;> rfl
  have hk : Kept w (w.alloc o) p { p with β := upd p.β k (some w.heap.size), γ := upd p.γ k g } s.ver (AS.ver { s with rows := upd s.rows k ⟨(s.rows k).ver + 1, c⟩ }) := by
    refine ⟨fun _ h => h, fun ad hr => World.cell?_alloc_lt w o ad (h.rb _ hr), fun j => ?_, fun j hj => ?_⟩
    · show s.ver j ≤ (upd s.rows k ⟨(s.rows k).ver + 1, c⟩ j).ver
      rw [hver]; split
      · rename_i e; subst e; omega
      · exact Nat.le_refl _
    · have hj' : (upd s.rows k ⟨(s.rows k).ver + 1, c⟩ j).ver = s.ver j := hj
      rw [hver] at hj'
      split at hj'
      · rename_i e; subst e; omega
      · rename_i e; exact ⟨upd_other _ _ e, upd_other _ _ e⟩
  exact {
    base := h.base.alloc o
    r0 := h.r0
    rn := h.rn
    rb := fun b hr => by have := h.rb b hr; simp; omega
    tm := fun t => AV.rel_mono hk _ _ (h.tm t)
    sz := h.sz
    df := h.df
    rw := fun j => by
      by_cases e : j = k
      · subst e
        show rowRel _ _ _ j (upd s.rows j ⟨(s.rows j).ver + 1, c⟩ j).c
        rw [upd_same]
        exact hc _ _ rfl (upd_same _ _ _) (upd_same _ _ _) hk
      · show rowRel _ _ _ j (upd s.rows k ⟨(s.rows k).ver + 1, c⟩ j).c
        rw [upd_other _ _ e]
        exact rowRel_mono hk (upd_other _ _ e) (upd_other _ _ e) (fun b hβ => Below.heap_alloc w o b (h.bl j b hβ).1) _ (fun km _ _ _ _ _ b hβ => Below.heap_alloc w o b (h.bl km b hβ).1) (h.rw j)
    bl := fun j b hβ => by
      by_cases e : j = k
      · subst e
        simp only [upd_same] at hβ
        injection hβ with hβ
        subst hβ
        exact ⟨by simp, fun hr => by have := h.rb _ hr; omega, .inl h.base.size⟩
      · simp only [upd_other _ _ e] at hβ
        obtain ⟨h1, h2, h3⟩ := h.bl j b hβ
        exact ⟨by simp; omega, h2, h3⟩
    ij := fun j j' b hj hj' => by
      by_cases e : j = k <;> by_cases e' : j' = k
      · rw [e, e']
      · subst e
        simp only [upd_same, upd_other _ _ e'] at hj hj'
        injection hj with hj
        have := (h.bl j' b hj').1; omega
      · subst e'
        simp only [upd_same, upd_other _ _ e] at hj hj'
        injection hj' with hj'
        have := (h.bl j b hj).1; omega
      · simp only [upd_other _ _ e, upd_other _ _ e'] at hj hj'
        exact h.ij j j' b hj hj'
    cap := fun j => by
      show upd p.γ k g j ≤ maxLen
      unfold upd; split
      · exact hg
      · exact h.cap j
    pn := fun j x hx => by
      obtain ⟨h1, h2, h3, h4⟩ := h.pn j x hx
      have e : j ≠ k := by omega
      exact ⟨(upd_other _ _ e).trans h1, (upd_other _ _ e).trans h2, by show (upd s.rows k ⟨(s.rows k).ver + 1, c⟩ j).ver = 0; rw [upd_other _ _ e]; exact h3, h4⟩
    lk := fun j km n l cur hj hn => lk_upd h k c hmi j km n l cur hj hn }

/-- Row k is written in place: its block alone has turned. -/
theorem SR.setRow (h : SR C p s a w) (k : Nat) (c : RowC) (hold : (s.rows k).c.isMpi = false) (hnew : ∀ km n l cur, c = .mi km n l cur → n = s.ver km → km ≠ k ∧ (s.rows km).c.isMpi = true) {b : Nat} (hβ : p.β k = some b) (hos : w'.os = w.os) (htape : w'.tape = w.tape) (hout : w'.output = w.output) (hsize : w'.heap.size = w.heap.size)
    (hblock : ∀ i, i ≠ b → w'.heap[i]? = w.heap[i]?)
    (hc : Kept w w' p p s.ver s.ver → rowRel w' p s.ver k c) :
    SR C p { s with rows := upd s.rows k ⟨(s.rows k).ver, c⟩ } a w' := by
  have hv : AS.ver { s with rows := upd s.rows k ⟨(s.rows k).ver, c⟩ } = s.ver := by
    funext j
    show (upd s.rows k ⟨(s.rows k).ver, c⟩ j).ver = (s.rows j).ver
    unfold upd; split
    · rename_i e; subst e; rfl
    · rfl
  obtain ⟨hb1, hb2, hb3⟩ := h.bl k b hβ
  have hk : Kept w w' p p s.ver s.ver :=
    ⟨fun _ h => h, fun ad hr => World.cell?_of_block (hblock _ (fun e => hb2 (e ▸ hr))), fun _ => Nat.le_refl _, fun _ _ => ⟨rfl, rfl⟩⟩
  exact {
    base := ⟨hos.trans h.base.os, htape.trans h.base.tape, hout.trans h.base.output, hsize ▸ h.base.size, fun i hi hn => by
      refine (hblock i fun e => ?_).trans (h.base.block i hi hn)
      subst e
      rcases hb3 with hb3 | hb3
      · omega
      · exact hn hb3.2⟩
    r0 := h.r0
    rn := h.rn
    rb := fun b hr => hsize ▸ h.rb b hr
    tm := fun t => by rw [hv]; exact AV.rel_mono hk _ _ (h.tm t)
    sz := h.sz
    df := h.df
    rw := fun j => by
      rw [hv]
      by_cases e : j = k
      · subst e
        show rowRel _ _ _ j (upd s.rows j ⟨(s.rows j).ver, c⟩ j).c
        rw [upd_same]
        exact hc hk
      · show rowRel _ _ _ j (upd s.rows k ⟨(s.rows k).ver, c⟩ j).c
        rw [upd_other _ _ e]
        exact rowRel_mono hk rfl rfl (fun b' hβ' => hblock b' (fun eb => e (h.ij j k b' hβ' (eb ▸ hβ)))) _ (fun km n l cur hcc hn b' hβ' => hblock b' (fun eb => by
          have e3 := h.ij km k b' hβ' (eb ▸ hβ)
          subst e3
          have := h.lk j km n l cur hcc hn
          rw [hold] at this; cases this)) (h.rw j)
    bl := fun j b' hβ' => by rw [hsize]; exact h.bl j b' hβ'
    ij := h.ij
    cap := h.cap
    pn := fun j x hx => by rw [hv]; exact h.pn j x hx
    lk := fun j km n l cur hj hn => by
      rw [hv] at hn
      show (upd s.rows k ⟨(s.rows k).ver, c⟩ km).c.isMpi = true
      by_cases e : j = k
      · subst e
        have hj' : (upd s.rows j ⟨(s.rows j).ver, c⟩ j).c = .mi km n l cur := hj
        rw [upd_same] at hj'
        obtain ⟨h1, h2⟩ := hnew km n l cur hj' hn
        rw [upd_other _ _ h1]; exact h2
      · have hj' : (upd s.rows k ⟨(s.rows k).ver, c⟩ j).c = .mi km n l cur := hj
        rw [upd_other _ _ e] at hj'
        have h2 := h.lk j km n l cur hj' hn
        have e2 : km ≠ k := fun e2 => by rw [e2, hold] at h2; cases h2
        rw [upd_other _ _ e2]; exact h2 }

/-- Less is known: slots may be forgotten, and rows. -/
theorem SR.forget (h : SR C p s a w) (tm' : Nat → AV) (ht : ∀ t, tm' t = s.tm t ∨ tm' t = .r .un) : SR C p { s with tm := tm' } a w :=
  { h with
    tm := fun t => by
      show (tm' t).rel w p s.ver (a.tmps.getD t undef)
      rcases ht t with e | e
      · rw [e]; exact h.tm t
      · rw [e]; exact AV.rel_un _ _ _ _ }
end
end Go.Oc
