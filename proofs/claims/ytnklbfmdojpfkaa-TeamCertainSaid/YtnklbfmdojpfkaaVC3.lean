/- Part 3 of the texts of this claim. -/
import Derived.Test.YtnklbfmdojpfkaaVC2
/- The rules of the abstract walk: operations, code, loops, functions. -/
namespace Go.Oc
open Go Go.RowKit

/-- A call by contract, and what follows. -/
def acall (P : Program) (s : AS) (f : AV) (xs : List AV) (K : RV → Prop) : Prop := ∃ r, ACallOk P s f xs r ∧ K r
/-- One operation. D: in a region that draws its order. -/
def aop (P : Program) (D : Bool) (o : Oper) (K : AS → Prop) (s : AS) : Prop :=
  match o.op with
  | .call ⟨.value f, args, _⟩ => acall P s (s.ev f) (args.toList.map s.ev) (fun r => K (s.put o.dst (.r r))) ∨ (D = true ∧ (s.rows (o.dst.getD 0)).c = .dead ∧ ocall P s o.dst (s.ev f) (args.toList.map s.ev) K)
  | .next _ false => False
  | _ => (step P o s).pre ∧ (D = true → cls o = 2 → (s.rows (o.dst.getD 0)).c = .dead ∧ o.dst.isSome = true) ∧ ((step P o s).ass → K (s.app o.dst (step P o s).y))
/-- One operation of a region whose order is that of the text: calls that write too, and steps of ranges. -/
def xop (P : Program) (D : Bool) (o : Oper) (K : AS → Prop) (s : AS) : Prop :=
  if D then aop P true o K s else
  match o.op with
  | .call ⟨.value f, args, _⟩ => acall P s (s.ev f) (args.toList.map s.ev) (fun r => K (s.put o.dst (.r r))) ∨ mcall P s o.dst (s.ev f) (args.toList.map s.ev) K ∨ ocall P s o.dst (s.ev f) (args.toList.map s.ev) K
  | .next x false => sNext s o.dst (s.ev x) K
  | _ => aop P false o K s
def aops (P : Program) (D : Bool) (ops : Array Oper) : List Oper → (AS → Prop) → AS → Prop
  | [], K, s => K s
  | o :: rest, K, s =>
    match o.guard with
    | none => xop P D o (aops P D ops rest K) s
    | some (g, want) =>
      match ((ops[g]?).bind (·.dst) : Option Nat) with
      | none => aops P D ops rest K (s.put o.dst (.r .ud))
      | some t =>
        match s.tm t with
        | .r (.bo b) => (b = want → xop P D o (aops P D ops rest K) (s.put (some t) (.r (.bo want)))) ∧ (b = !want → aops P D ops rest K ((s.put (some t) (.r (.bo (!want)))).put o.dst (.r .ud)))
        | .r .ud => aops P D ops rest K (s.put o.dst (.r .ud))
        | _ => False

def awp (P : Program) (C : Ctx) (c : Code) (Q : Exit → AS → Prop) (s : AS) : Prop := ∀ a w, SRel C s a w → c.wp P (fun e a' w' => ∃ s', SRel C s' a' w' ∧ Q e s') a w

section
variable {P : Program} {C : Ctx} {s : AS} {ops : Array Oper}

theorem upd_self {α : Type} (f : Nat → α) (k : Nat) : upd f k (f k) = f := by funext j; unfold upd; split <;> simp_all
theorem put_self {t : Nat} {v : AV} (h : s.tm t = v) : s.put (some t) v = s := by
  subst h
  simp only [AS.put, upd_self]
theorem put_n (s : AS) (d : Option Nat) (v : AV) : (s.put d v).n = s.n := by cases d <;> rfl

theorem aop_AY {D : Bool} {o : Oper} {K : AS → Prop} (h : aop P D o K s) : ∃ y, AY P o s y ∧ (D = true → mk o y → (s.rows (o.dst.getD 0)).c = .dead ∧ o.dst.isSome = true) ∧ (NE s → K (s.app o.dst y)) := by
  unfold aop at h
  split at h
  · rename_i f args ts ho
    rcases h with ⟨r, hr, hK⟩ | ⟨hD, hdead, F, cs, args', t, sz, es, m, dd, h1, h2, h3, h4, h5, h6, hK⟩
    · refine ⟨⟨.r r, []⟩, ?_, fun _ hc => by simp [mk, cls, ho] at hc, fun _ => hK⟩
      unfold AY
      rw [ho]
      exact .inl ⟨r, hr, rfl⟩
    · refine ⟨⟨.os dd ((s.rows dd).ver + 1) sz 0 m, [(dd, ⟨(s.rows dd).ver + 1, .arr t sz es⟩)]⟩, ?_, fun _ _ => ⟨hdead, by rw [h5]; rfl⟩, fun _ => hK⟩
      unfold AY
      rw [ho]
      exact .inr ⟨F, cs, args', t, sz, es, m, dd, h1, h2, h3, h4, h5, h6, rfl⟩
  · exact h.elim
  · rename_i hn _
    obtain ⟨hp, hd, hK⟩ := h
    refine ⟨(step P o s).y, ?_, fun hD hm => hd hD (by
      rcases hm with hm | ⟨hm, _⟩
      · exact hm
      · unfold vcall at hm
        split at hm
        · rename_i f args ts ho; exact (hn f args ts ho).elim
        · cases hm), fun ⟨C, p, a, w, hs⟩ => hK ?_⟩
    · unfold AY
      split
      · rename_i f args ts ho; exact (hn f args ts ho).elim
      · exact ⟨hp, rfl⟩
    obtain ⟨_, _, _, _, _, _, hass, _⟩ := step_sound hs hp
    exact hass

/-- What an operation of a region in the text's order does. -/
theorem xop_sound {p : Plan} {a : Act} {w : World} {o : Oper} {KA : AS → Prop} (hp : SR C p s a w) (h : xop P false o KA s) (hd0 : ∀ t, o.dst = some t → t < s.n) {K : Act → World → Prop} {Q : Exit → Act → World → Prop}
    (hK : ∀ a' w' p' s', SR C p' s' a' w' → s'.n = s.n → KA s' → K a' w') : o.wp P a w K Q := by
  have plain : aop P false o KA s → o.wp P a w K Q := fun h => by
    obtain ⟨y, hy, _, hKy⟩ := aop_AY h
    exact AY_sound hp hy hd0 fun a' w' p' hs' => hK a' w' p' _ hs' (app_n _ _ _) (hKy ⟨C, p, a, w, hp⟩)
  unfold xop at h
  rw [if_neg (by simp)] at h
  split at h
  · rename_i f args ts ho
    rcases h with h | h | h
    · refine plain ?_
      unfold aop
      rw [ho]; exact .inl h
    · exact mcall_sound hp ho h hd0 hK
    · exact ocall_sound hp ho h hd0 hK
  · rename_i x ho
    obtain ⟨v, w', p', s', y, hrun, hs', hn, hrel, hKy⟩ := next_sound (P := P) (ty := o.type) hp h
    unfold Oper.wp
    have : (execOp a.eval o).run P w = .ok (.value v) w' := by simp only [execOp, ho, Sem.run_bind, hrun, Result.andThen_ok, Sem.run_pure]
    rw [this]
    have hput := hs'.put' (d := o.dst) (av := .r y) (v := v) (by simp only [AV.rel]; exact hrel) (fun t ht => by rw [hn]; exact hd0 t ht)
    refine hK _ w' p' _ hput ?_ hKy
    exact (put_n _ _ _).trans hn
  · exact plain h

theorem aops_seq {Q : AS → Prop} {Q' : Exit → Act → World → Prop} (hQ : ∀ s a w, Q s → SRel C s a w → Q' .normal a w) : ∀ (l : List Oper) (s : AS) (a : Act) (w : World), dstOk l.toArray s.n = true → aops P false ops l Q s → SRel C s a w → wpList P ops Q' l a w
  | [], s, a, w, _, h, hs => hQ s a w h hs
  | o :: l, s, a, w, hd, h, hs => by
    have hd0 : ∀ t, o.dst = some t → t < s.n := dstOk_get (i := 0) hd (by simp)
    have hdl : dstOk l.toArray s.n = true := by
      unfold dstOk at hd ⊢
      simp only [List.all_toArray, List.all_cons, Bool.and_eq_true] at hd ⊢
      exact hd.2
    obtain ⟨p, hp⟩ := hs
    have run : ∀ {s1 : AS}, s1 = s → xop P false o (aops P false ops l Q) s1 → wantA ops s o = some true → wpList P ops Q' (o :: l) a w := fun e hop hw => by
      subst e
      unfold wpList
      rw [if_pos (wantA_sound hp hw)]
      refine .inl (xop_sound hp hop hd0 fun a' w' p' s' hs' hn hK => ?_)
      exact aops_seq hQ l _ a' w' (by rw [hn]; exact hdl) hK ⟨p', hs'⟩
    have skip : ∀ {s1 : AS}, s1 = s → aops P false ops l Q (s1.put o.dst (.r .ud)) → wantA ops s o = some false → wpList P ops Q' (o :: l) a w := fun e hop hw => by
      subst e
      unfold wpList
      rw [wantA_sound hp hw]
      simp only [Bool.false_eq_true, if_false]
      have := hp.put' (d := o.dst) (av := .r .ud) (v := undef) (by simp only [AV.rel, RV.rel]) hd0
      exact aops_seq hQ l _ _ w (by rw [put_n]; exact hdl) hop ⟨p, this⟩
    unfold aops at h
    split at h
    · rename_i hg
      exact run rfl h (by simp [wantA, hg])
    · rename_i g want hg
      split at h
      · rename_i ht
        exact skip rfl h (by simp [wantA, hg, ht])
      · rename_i t ht
        split at h
        · rename_i b hb
          by_cases hw : b = want
          · subst hw
            exact run (put_self hb) (h.1 rfl) (by simp [wantA, hg, ht, hb])
          · have hw' : b = !want := by cases b <;> cases want <;> simp_all
            subst hw'
            exact skip (put_self hb) (h.2 rfl) (by simp [wantA, hg, ht, hb])
        · rename_i hb
          exact skip rfl h (by simp [wantA, hg, ht, hb])
        · exact h.elim

theorem aops_lex {Q : AS → Prop} : ∀ (l : List Oper) (s : AS), dstOk l.toArray s.n = true → NE s → aops P true ops l Q s → lexA P ops Q l s
  | [], _, _, _, h => h
  | o :: l, s, hd, hne, h => by
    have hd0 : ∀ t, o.dst = some t → t < s.n := dstOk_get (i := 0) hd (by simp)
    have hdl : dstOk l.toArray s.n = true := by
      unfold dstOk at hd ⊢
      simp only [List.all_toArray, List.all_cons, Bool.and_eq_true] at hd ⊢
      exact hd.2
    have run : ∀ {s1 : AS}, s1 = s → xop P true o (aops P true ops l Q) s1 → wantA ops s o = some true → lexA P ops Q (o :: l) s := fun e hop hw => by
      subst e
      unfold xop at hop
      rw [if_pos rfl] at hop
      obtain ⟨y, hy, hdead, hK⟩ := aop_AY hop
      have hY : YieldsA P ops o y _ := .inl ⟨hw, hy, hdead rfl⟩
      exact ⟨y, hY, aops_lex l _ (by rw [app_n]; exact hdl) (hne.app hY hd0) (hK hne)⟩
    have skip : ∀ {s1 : AS}, s1 = s → aops P true ops l Q (s1.put o.dst (.r .ud)) → wantA ops s o = some false → lexA P ops Q (o :: l) s := fun e hop hw => by
      subst e
      have hY : YieldsA P ops o ysk _ := .inr ⟨hw, rfl⟩
      exact ⟨ysk, hY, aops_lex l _ (by rw [app_n]; exact hdl) (hne.app hY hd0) hop⟩
    unfold aops at h
    split at h
    · rename_i hg
      exact run rfl h (by simp [wantA, hg])
    · rename_i g want hg
      split at h
      · rename_i ht
        exact skip rfl h (by simp [wantA, hg, ht])
      · rename_i t ht
        split at h
        · rename_i b hb
          by_cases hw : b = want
          · subst hw
            exact run (put_self hb) (h.1 rfl) (by simp [wantA, hg, ht, hb])
          · have hw' : b = !want := by cases b <;> cases want <;> simp_all
            subst hw'
            exact skip (put_self hb) (h.2 rfl) (by simp [wantA, hg, ht, hb])
        · rename_i hb
          exact skip rfl h (by simp [wantA, hg, ht, hb])
        · exact h.elim

/-! ### Code -/
variable {Q : Exit → AS → Prop}
theorem awp_region {id : Nat} {l : List Oper} (hd : dstOk l.toArray s.n = true) (h : aops P false l.toArray l (Q .normal) s) : awp P C (.region id l.toArray false) Q s := fun a w hs => by
  refine wp_region_list ?_
  exact aops_seq (fun s a w hq hs => ⟨s, hs, hq⟩) l s a w hd h hs
theorem awp_draw {id : Nat} {l : List Oper} (hm : P.follows .mixedOrders = true) (hB : lexOk l.toArray = true) (hd : dstOk l.toArray s.n = true) (h : aops P true l.toArray l (Q .normal) s) : awp P C (.region id l.toArray true) Q s := fun a w hs => by
  obtain ⟨p, hp⟩ := hs
  exact region_draw hm hB hd ⟨p, hp⟩ (fun s a w hq hs => ⟨s, hs, hq⟩) (aops_lex l s hd ⟨C, p, a, w, hp⟩ h)

theorem awp_mono {c : Code} {Q' : Exit → AS → Prop} (hq : ∀ e s, Q e s → Q' e s) (h : awp P C c Q s) : awp P C c Q' s := fun a w hs =>
  wp_mono (h a w hs) fun e _ _ ⟨s', hs', hq'⟩ => ⟨s', hs', hq e s' hq'⟩

def andThen (K : AS → Prop) (Q : Exit → AS → Prop) : Exit → AS → Prop
  | .normal, s => K s
  | e, s => Q e s
theorem awp_seq {x y : Code} (h : awp P C x (andThen (awp P C y Q) Q) s) : awp P C (.seq x y) Q s := fun a w hs => by
  refine wp_seq (wp_mono (h a w hs) ?_)
  rintro e a' w' ⟨s', hs', hq⟩
  cases e <;> first | exact hq a' w' hs' | exact ⟨s', hs', hq⟩
theorem awp_skip (h : Q .normal s) : awp P C .skip Q s := fun _ _ hs => wp_skip ⟨s, hs, h⟩
theorem awp_label {l : Nat} (h : Q .normal s) : awp P C (.label l) Q s := fun _ _ hs => wp_label ⟨s, hs, h⟩
theorem awp_exit {id : Nat} (h : Q (.exit id) s) : awp P C (.exit id) Q s := fun _ _ hs => wp_exit ⟨s, hs, h⟩
theorem awp_ret (h : Q .ret s) : awp P C .ret Q s := fun _ _ hs => wp_ret ⟨s, hs, h⟩
theorem awp_cond {c : Operand} {x y : Code} {t : Bool} (hc : s.ev c = .r (.bo t)) (h1 : t = true → awp P C x Q s) (h2 : t = false → awp P C y Q s) : awp P C (.cond c x y) Q s := fun a w hs => by
  obtain ⟨p, hp⟩ := hs
  exact wp_cond_split (ev_bo hp hc) (fun ht => h1 ht a w ⟨p, hp⟩) (fun ht => h2 ht a w ⟨p, hp⟩)
def inBlk (id : Nat) (Q : Exit → AS → Prop) : Exit → AS → Prop
  | .exit id', s => if id' = id then Q .normal s else Q (.exit id') s
  | e, s => Q e s
theorem awp_block {id : Nat} {c : Code} (h : awp P C c (inBlk id Q) s) : awp P C (.block id c) Q s := fun a w hs => by
  refine wp_block (wp_mono (h a w hs) ?_)
  rintro e a' w' ⟨s', hs', hq⟩
  cases e with
  | exit id' =>
    simp only [inBlk] at hq
    simp only [Exit.inBlock]
    split
    · rename_i hid; rw [if_pos hid] at hq; exact ⟨s', hs', hq⟩
    · rename_i hid; rw [if_neg hid] at hq; exact ⟨s', hs', hq⟩
  | _ => exact ⟨s', hs', hq⟩

/-- A loop: I n holds at the head of each round, and n goes down. -/
theorem awp_loop {c : Code} (I : Nat → AS → Prop) (n : Nat) (h0 : I n s) (round : ∀ n s, I n s → awp P C c (andThen (fun s' => ∃ m, m < n ∧ I m s') Q) s) : awp P C (.loop c) Q s := fun a w hs => by
  intro b k cs
  have key : ∀ n s a w, I n s → SRel C s a w → ∃ e a' w', (∃ s', SRel C s' a' w' ∧ Q e s') ∧ Arrives P (lone (b.at a (.code c :: .inLoop c :: k)) cs w) b k cs e a' w' := by
    intro n
    induction n using Nat.strongRecOn with
    | _ n ih =>
      intro s a w hI hs
      obtain ⟨e, a₁, w₁, ⟨s₁, hs₁, hq⟩, harr⟩ := round n s hI a w hs b (.inLoop c :: k) cs
      cases e with
      | normal =>
        obtain ⟨m, hlt, hI₁⟩ := hq
        obtain ⟨e₂, a₂, w₂, hq₂, harr₂⟩ := ih m hlt s₁ a₁ w₁ hI₁ hs₁
        exact ⟨e₂, a₂, w₂, hq₂, .of_steps (Steps.trans harr (.one step_inLoop)) harr₂⟩
      | exit id => exact ⟨_, a₁, w₁, ⟨s₁, hs₁, hq⟩, .pass (x := .inLoop c) rfl (fun _ _ => .inl (by simp)) harr⟩
      | goto l => exact ⟨_, a₁, w₁, ⟨s₁, hs₁, hq⟩, .pass (x := .inLoop c) rfl (fun _ _ => .inl (by simp)) harr⟩
      | ret => exact ⟨_, a₁, w₁, ⟨s₁, hs₁, hq⟩, .pass (x := .inLoop c) rfl (fun _ _ => .inl (by simp)) harr⟩
      | panic ch => exact ⟨_, a₁, w₁, ⟨s₁, hs₁, hq⟩, .pass (x := .inLoop c) rfl (fun _ _ => .inl (by simp)) harr⟩
      | outgrown => exact ⟨_, a₁, w₁, ⟨s₁, hs₁, hq⟩, .pass (x := .inLoop c) rfl (fun _ _ => .inl (by simp)) harr⟩
  obtain ⟨e, a', w', hq, harr⟩ := key n s a w h0 hs
  exact ⟨e, a', w', hq, .of_steps (.one step_loop) harr⟩

/-! ### Less is known -/
/-- What fits s fits s'. -/
def Sub (s s' : AS) : Prop := ∀ C a w, SRel C s a w → SRel C s' a w
theorem Sub.refl (s : AS) : Sub s s := fun _ _ _ h => h
theorem Sub.trans {s1 s2 s3 : AS} (h : Sub s1 s2) (k : Sub s2 s3) : Sub s1 s3 := fun C a w hs => k C a w (h C a w hs)
theorem awp_sub {c : Code} {s' : AS} (h : Sub s s') (hq : awp P C c Q s') : awp P C c Q s := fun a w hs => hq a w (h C a w hs)
/-- The slots that are kept. -/
def look (l : List (Nat × AV)) : Nat → AV
  | j => match l with
    | [] => .r .un
    | (k, v) :: l => if j = k then v else look l j
theorem sub_look {n : Nat} {tm : Nat → AV} {rows : Nat → Row} (l : List (Nat × AV)) (h : ∀ p ∈ l, tm p.1 = p.2) : Sub ⟨n, tm, rows⟩ ⟨n, look l, rows⟩ := fun C a w ⟨p, hp⟩ => by
  refine ⟨p, hp.forget (look l) fun t => ?_⟩
  induction l with
  | nil => exact .inr (by simp [look])
  | cons q l ih =>
    obtain ⟨k, v⟩ := q
    by_cases e : t = k
    · subst e
      refine .inl ?_
      have := h (t, v) (by simp)
      simp only [look, if_true]
      exact this.symm
    · have := ih (fun q hq => h q (by simp [hq]))
      simpa [look, e] using this
/-- A row is given up. -/
theorem sub_kill (s : AS) (k : Nat) (hk0 : k < 1000) : Sub s { s with rows := upd s.rows k ⟨(s.rows k).ver + 1, .dead⟩ } := fun C a w ⟨p, hp⟩ =>
  ⟨_, hp.reRow (w' := w) k hk0 .dead rfl none 1 (by simp [maxLen]) rfl rfl rfl (Nat.le_refl _) (fun _ _ _ => rfl) (fun _ h => by cases h) (fun p' ver' _ hβ hγ _ => by simp only [rowRel]; exact ⟨hβ, hγ⟩)⟩
/-- A slot that holds a slice without elements and without room gets a row of its own, still nowhere. -/
theorem sub_adopt (s : AS) (t k e sz : Nat) (hk0 : k < 1000) (h : s.tm t = .r .ns) :
    Sub s { s with tm := upd s.tm t (.os k ((s.rows k).ver + 1) sz 0 0), rows := upd s.rows k ⟨(s.rows k).ver + 1, .arr e sz []⟩ } := fun C a w ⟨p, hp⟩ => by
  have h1 := hp.reRow (w' := w) k hk0 (.arr e sz []) rfl none 0 (Nat.zero_le _) rfl rfl rfl (Nat.le_refl _) (fun _ _ _ => rfl) (fun _ h => by cases h) (fun p' ver' _ hβ hγ _ => by simp [rowRel, hβ, hγ])
  refine ⟨_, { h1 with tm := fun j => ?_ }⟩
  show AV.rel w _ _ (upd s.tm t _ j) _
  by_cases hj : j = t
  · subst hj
    rw [upd_same]
    have := hp.tm j
    rw [h] at this
    simp only [AV.rel, RV.rel] at this
    obtain ⟨A, hA⟩ := this
    simp only [AV.rel, AS.ver, upd_same]
    exact ⟨Nat.le_refl _, fun _ => .inl ⟨trivial, trivial, trivial, trivial, A, hA⟩⟩
  · rw [upd_other _ _ hj]
    exact h1.tm j
end

/-! ### Functions -/
def argTm (xs : List RV) : Nat → AV := fun t => match xs[t]? with | some x => .r x | none => .r .ud
def start (n : Nat) (xs : List RV) : AS := ⟨n, argTm xs, fun _ => ⟨0, .dead⟩⟩
/-- A result: a slot, or what a variable holds. -/
def resA (P : Program) (s : AS) : ResultVar → Res
  | .tmp t => .val (s.tm t)
  | .cell a t => sLoad P s t (s.tm a)
def resOk (P : Program) (s : AS) : List ResultVar → List RV → Prop
  | [], rs => rs = []
  | v :: vs, rs => (resA P s v).pre ∧ snapP s.rows (resA P s v).y.av ∧ ∃ r rs', rs = r :: rs' ∧ RV.le (snapV s.rows (resA P s v).y.av) r ∧ resOk P s vs rs'
def resV : List RV → RV
  | [r] => r
  | rs => .tu rs
/-- What the body must come to. -/
def fpost (P : Program) (fn : Func) (rs : List RV) : Exit → AS → Prop
  | .normal, s => resOk P s fn.results.toList rs
  | .ret, s => resOk P s fn.results.toList rs
  | _, _ => False

section
variable {P : Program}
def resOp (tmps : Array Value) : ResultVar → Sem Value
  | .tmp t => pure (tmps.getD t undef)
  | .cell a t => do loadVar t (← asAddr (tmps.getD a undef))
theorem results_eq (fn : Func) (tmps : Array Value) : results fn tmps = (do
    let vs ← fn.results.mapM (resOp tmps)
    pure (if h : vs.size = 1 then vs[0] else .tuple vs)) := by
  unfold results
  congr 1
theorem run_result {C : Ctx} {p : Plan} {s : AS} {a : Act} {w : World} (hs : SR C p s a w) (rv : ResultVar) (hp : (resA P s rv).pre) :
    ∃ v, (resOp a.tmps rv).run P w = .ok v w ∧ (resA P s rv).y.av.rel w p s.ver v := by
  cases rv with
  | tmp t => exact ⟨_, rfl, hs.tm t⟩
  | cell ad t =>
    obtain ⟨x, v, hv, hrun, hrel, _⟩ := load_ok (x := .tmp ad) hs hp
    have hv' : a.tmps.getD ad undef = .pointer (some x) := hv
    exact ⟨v, by simp only [resOp, hv', asAddr, Sem.run_bind, Sem.run_pure, Result.andThen_ok, hrun], hrel⟩
theorem run_resList {C : Ctx} {p : Plan} {s : AS} {a : Act} {w : World} (hs : SR C p s a w) : ∀ (vs : List ResultVar) (rs : List RV), resOk P s vs rs →
    ∃ us, (vs.mapM (resOp a.tmps)).run P w = .ok us w ∧ RV.relV w p.all rs us
  | [], rs, h => by simp only [resOk] at h; subst h; exact ⟨[], rfl, by simp [RV.relV]⟩
  | v :: vs, rs, h => by
    obtain ⟨hp, hsn, r, rs', rfl, hle, hrest⟩ := h
    obtain ⟨u, hu, hrel⟩ := run_result hs v hp
    obtain ⟨us, hus, hV⟩ := run_resList hs vs rs' hrest
    refine ⟨u :: us, ?_, by simp only [RV.relV]; exact ⟨u, us, rfl, le_rel _ _ _ hle (snap_rel hs _ _ hsn hrel), hV⟩⟩
    simp only [List.mapM_cons, Sem.run_bind, hu, Result.andThen_ok, hus, Sem.run_pure]
theorem run_results {C : Ctx} {p : Plan} {s : AS} {a : Act} {w : World} (hs : SR C p s a w) {fn : Func} {rs : List RV} (h : resOk P s fn.results.toList rs) : ∃ v, (results fn a.tmps).run P w = .ok v w ∧ (resV rs).rel w p.all v := by
  obtain ⟨us, hus, hV⟩ := run_resList hs _ _ h
  have hm : (fn.results.mapM (resOp a.tmps)).run P w = .ok us.toArray w := by
    rw [Array.mapM_eq_mapM_toList]
    simp only [Sem.run_map, hus, Result.andThen_ok]
  have hl := RV.relV_length hV
  refine ⟨if h : us.toArray.size = 1 then us.toArray[0] else .tuple us.toArray, ?_, ?_⟩
  · rw [results_eq, Sem.run_bind, hm]
    simp only [Result.andThen_ok, Sem.run_pure]
  · match rs, us, hl, hV with
    | [r], [u], _, hV =>
      simp only [RV.relV] at hV
      obtain ⟨u', us', e, h1, _⟩ := hV
      injection e with e1 e2
      subst e1
      simpa [resV] using h1
    | [], us, hl, hV =>
      have : us = [] := List.eq_nil_of_length_eq_zero (by simpa using hl)
      subst this
      simp only [resV, RV.rel]
      exact ⟨#[], rfl, hV⟩
    | r1 :: r2 :: rs, us, hl, hV =>
      have : ¬ us.toArray.size = 1 := by simp at hl ⊢; omega
      rw [dif_neg this]
      simp only [resV, RV.rel]
      exact ⟨us.toArray, rfl, hV⟩

/-- **A function's contract, out of its body.** -/
theorem acalls_of {f : FuncId} {fn : Func} {c : Code} {n : Nat} {args rs : List RV} {r : RV} (hf : P.funcs[f]? = some fn) (hb : fn.body = some c) (hc : callable P f = true) (hn : fn.ntmps = n) (hargs : args.length ≤ n) (hr : resV rs = r)
    (h : ∀ C, awp P C c (fpost P fn rs) (start n args)) : ACalls P f args r := by
  refine ⟨hc, fun w R vs hR hV => ?_⟩
  have hlen := RV.relV_length hV
  simp only [Array.length_toList] at hlen
  let C : Ctx := ⟨w, R, fun _ => False, fun _ => none⟩
  let p : Plan := ⟨R, fun _ => none, fun _ => 1⟩
  have hs : SR C p (start n args) { tmps := vs ++ Array.replicate (fn.ntmps - vs.size) undef, defers := [] } w := {
    base := ⟨rfl, rfl, rfl, Nat.le_refl _, fun _ _ _ => rfl⟩
    r0 := fun _ h => h
    rn := fun _ h => .inl h
    rb := hR
    tm := fun t => by
      show (argTm args t).rel _ _ _ _
      unfold argTm
      split
      · rename_i x e
        obtain ⟨u, hu, hx⟩ := RV.relV_get hV e
        have : (vs ++ Array.replicate (fn.ntmps - vs.size) undef).getD t undef = u := by
          have ht : t < vs.size := by have := (List.getElem?_eq_some_iff.1 hu).1; simpa using this
          rw [Array.getD_eq_getD_getElem?, Array.getElem?_append_left ht]
          simp only [Array.getElem?_toList] at hu
          rw [hu]; rfl
        rw [this]
        simpa only [AV.rel] using hx
      · rename_i e
        have ht : args.length ≤ t := by simpa using e
        have : (vs ++ Array.replicate (fn.ntmps - vs.size) undef).getD t undef = undef := by
          rw [Array.getD_eq_getD_getElem?, Array.getElem?_append_right (by omega)]
          simp [Array.getElem?_replicate]
          split <;> rfl
        rw [this]
        simp only [AV.rel, RV.rel]
    sz := by simp only [Array.size_append, Array.size_replicate, start]; omega
    df := rfl
    rw := fun k => by simp [start, rowRel, p]
    bl := fun k b h => by simp [p] at h
    ij := fun k k' b h => by simp [p] at h
    cap := fun k => by simp [p, maxLen]
    pn := fun k x h => by cases h
    lk := fun j km n l cur h _ => by cases h }
  refine calls_of_wp hf hb (wp_mono (h C _ w ⟨p, hs⟩) ?_)
  rintro e a' w' ⟨s', ⟨p', hs'⟩, hq⟩
  have fin : resOk P s' fn.results.toList rs → ∃ v, (results fn a'.tmps).run P w' = .ok v w' ∧ ∃ v' R', Ending.returned v = .returned v' ∧ Below w.heap.size w w' ∧ (∀ b, R b → R' b) ∧ (∀ b, R' b → R b ∨ w.heap.size ≤ b) ∧ (∀ b, R' b → b < w'.heap.size) ∧ r.rel w' R' v' := fun hres => by
    obtain ⟨v, hv, hrel⟩ := run_results hs' hres
    rw [hr] at hrel
    refine ⟨v, hv, v, p'.all, rfl, ⟨hs'.base.os, hs'.base.tape, hs'.base.output, hs'.base.size, fun k hk => hs'.base.block k hk (fun h => h)⟩, fun b hb => .inl (hs'.r0 b hb), fun b hb => ?_, fun b hb => ?_, hrel⟩
    · rcases hb with hb | ⟨k, hk⟩
      · exact hs'.rn b hb
      · exact .inr ((hs'.bl k b hk).2.2.resolve_right (fun h => h.2))
    · rcases hb with hb | ⟨k, hk⟩
      · exact hs'.rb b hb
      · exact (hs'.bl k b hk).1
  cases e with
  | normal => exact ⟨hs'.df, fin hq⟩
  | ret => exact ⟨hs'.df, fin hq⟩
  | _ => exact hq.elim
end
end Go.Oc
