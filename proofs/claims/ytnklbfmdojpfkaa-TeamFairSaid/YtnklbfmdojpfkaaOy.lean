/- What is reckoned out is so: a call's answer is what the function returns. -/
import Derived.Test.YtnklbfmdojpfkaaOx
namespace Go.Oc
open Go Go.RowKit

section
variable {P : Program}
theorem norm_mem : ∀ {L : List CS} {t : CS}, t ∈ L → (Exit.normal, t) ∈ norm L
  | [], _, h => by simp at h
  | x :: l, t, h => by
    rcases List.mem_cons.1 h with rfl | h
    · simp [norm]
    · simp [norm, norm_mem h]
theorem blk_mem {id : Nat} : ∀ {L : Outs} {e : Exit} {t : CS}, (e, t) ∈ L → (leave id e, t) ∈ blk id L
  | [], _, _, h => by simp at h
  | (e', t') :: l, e, t, h => by
    rcases List.mem_cons.1 h with h | h
    · injection h with h1 h2; subst h1 h2; simp [blk]
    · simp [blk, blk_mem h]
theorem nth_look : ∀ (xs : List AV) (k t : Nat), look (argA k xs) (k + t) = nth xs t
  | [], _, _ => by simp [argA, look_nil, nth]
  | x :: xs, k, 0 => by simp [argA, look_cons, nth]
  | x :: xs, k, t + 1 => by
    have := nth_look xs (k + 1) t
    rw [show k + 1 + t = k + (t + 1) from by omega] at this
    simp only [argA, look_cons, nth, this]
    rw [if_neg (by omega)]
theorem argL_A : ∀ (xs : List RV) (k : Nat), argL k xs = argA k (xs.map .r)
  | [], _ => rfl
  | x :: xs, k => by simp only [argL, argA, List.map_cons, argL_A xs]
theorem rowsOf_at : ∀ (L : List (Nat × RowC)) (k : Nat), rowAt (rowsOf L) k = ⟨0, lookc L k⟩
  | [], _ => rfl
  | (j, c) :: L, k => by
    simp only [rowsOf, rowAt, lookc_cons, rowsOf_at L k]
    split <;> rfl
theorem start_as {n : Nat} {xs : List AV} {L : List (Nat × RowC)} : (CS.mk n xs (rowsOf L)).as = st n (argA 0 xs) (fun _ => 0) L := by
  simp only [CS.as, st, AS.mk.injEq, true_and]
  refine ⟨?_, funext fun k => rowsOf_at L k⟩
  funext t
  have := nth_look xs 0 t
  rw [Nat.zero_add] at this
  exact this.symm
theorem start_as0 {n : Nat} {xs : List RV} : (CS.mk n (xs.map .r) []).as = st n (argL 0 xs) (fun _ => 0) [] := by
  rw [argL_A]
  exact start_as (L := [])
theorem as_putRows {L' : List (Nat × RowC)} {ver : Nat → Nat} {ρ : List (Nat × Nat)} : ∀ (l : List (Nat × Nat)) (s : CS), (putRows s L' ver ρ l).as = { s.as with rows := backRows ρ ver L' l s.as.rows }
  | [], s => rfl
  | (pk, ck) :: l, s => by
    simp only [putRows, as_putRows l, as_row, backRows]
    rfl
theorem putRows_num {L' : List (Nat × RowC)} {ver : Nat → Nat} {ρ : List (Nat × Nat)} : ∀ (l : List (Nat × Nat)) (s : CS), (putRows s L' ver ρ l).n = s.n
  | [], s => rfl
  | (pk, ck) :: l, s => by simp only [putRows, putRows_num l]; rfl

theorem killOps_sub : ∀ (l : List Oper) (s : CS), Sub s.as (killOps l s).as ∧ (killOps l s).n = s.n
  | [], s => ⟨Sub.refl _, rfl⟩
  | o :: l, s => by
    unfold killOps
    split
    · rename_i h
      simp only [Bool.and_eq_true, decide_eq_true_eq] at h
      obtain ⟨h1, h2⟩ := killOps_sub l (s.row (o.dst.getD 0) ⟨(rowAt s.rows (o.dst.getD 0)).ver + 1, .dead⟩)
      refine ⟨Sub.trans ?_ h1, h2⟩
      rw [as_row]
      exact sub_kill s.as (o.dst.getD 0) h.2
    · exact killOps_sub l s
theorem killD_sub (D : Bool) (l : List Oper) (s : CS) : Sub s.as (killD D l s).as ∧ (killD D l s).n = s.n := by
  cases D with
  | true => exact killOps_sub l s
  | false => exact ⟨Sub.refl _, rfl⟩
/-- What the walk of one code promises. -/
def Good (P : Program) (ex : Code → CS → Option Outs) : Prop := ∀ c t L, codeOk t.n c = true → ex c t = some L → (∀ x ∈ L, x.2.n = t.n) ∧ ∀ C Q, (∀ x ∈ L, Q x.1 x.2.as) → awp P C c Q t.as

theorem callA_ok {ex : Code → CS → Option Outs} (hex : Good P ex) {F : FuncId} {fn : Func} {c : Code} {args : List RV} {r : RV} (hF : P.funcs[F]? = some fn) (hb : fn.body = some c) (hok : fnOk P F = true) (h : callA P ex fn c args = some r) : ACalls P F args r := by
  unfold fnOk at hok
  simp only [hF, hb, Bool.and_eq_true] at hok
  unfold callA at h
  split at h
  · rename_i hlen
    split at h
    · rename_i L hL
      split at h
      · rename_i rs hrs
        injection h with h
        have hag := agree_ok hrs
        refine acalls_of hF hb hok.2 rfl hlen h fun C => awp_sub (sub_look (argL 0 args) fun p hp => ?_) ?_
        · obtain ⟨i, x, rfl, e⟩ := argL_mem p hp
          simp only [argTm, Nat.zero_add, e]
        · have := ((hex c _ L hok.1 hL).2 C (fpost P fn rs) fun x hx => ?_)
          · rw [start_as0] at this
            exact this
          · have := hag x hx
            obtain ⟨e, t⟩ := x
            cases e <;> exact this
      · cases h
    · cases h
  · cases h
theorem callO_ok {ex : Code → CS → Option Outs} (hex : Good P ex) {F : FuncId} {fn : Func} {c : Code} {args : List RV} {ty sz m : Nat} {es : List (List RV)} (hF : P.funcs[F]? = some fn) (hb : fn.body = some c) (hok : fnOk P F = true)
    (h : callO P ex fn c args = some (ty, sz, es, m)) : OCalls P F args ty sz es m := by
  unfold fnOk at hok
  simp only [hF, hb, Bool.and_eq_true] at hok
  unfold callO at h
  split at h
  · rename_i hlen
    split at h
    · rename_i rv e t hres hL
      split at h
      · rename_i he
        split at h
        · rename_i hp
          split at h
          · rename_i j n sz1 off m1 hav
            split at h
            · rename_i n' ty1 sz' es1 hrow
              split at h
              · rename_i hc
                simp only [Bool.and_eq_true, beq_iff_eq, List.all_eq_true] at hc
                obtain ⟨⟨⟨h1, h2⟩, h3⟩, h4⟩ := hc
                subst h1 h2 h3
                injection h with h
                simp only [Prod.mk.injEq] at h
                obtain ⟨rfl, rfl, rfl, rfl⟩ := h
                refine ocalls_0 rv hF hb hok.2 rfl hres hlen h4 fun C => ?_
                have := ((hex c _ _ hok.1 hL).2 C (opostL P rv ty1 sz1 es1 m1) fun x hx => ?_)
                · rw [start_as0] at this
                  exact this
                · simp only [List.mem_singleton] at hx
                  subst hx
                  have key : resC (resA P t.as rv) fun v => ∃ j n, v = .os j n sz1 0 m1 ∧ t.as.rows j = ⟨n, .arr ty1 sz1 es1⟩ := ⟨hp, j, n, hav, hrow⟩
                  cases e <;> first | exact key | cases he
              · cases h
            · cases h
          · cases h
        · cases h
      · cases h
    · cases h
  · cases h
theorem callM_ok {ex : Code → CS → Option Outs} (hex : Good P ex) {F : FuncId} {fn : Func} {c : Code} {L L' : List (Nat × RowC)} {args : List AV} {r : AV} (hF : P.funcs[F]? = some fn) (hb : fn.body = some c) (hok : fnOk P F = true)
    (h : callM P ex fn c L args = some (L', r)) : MCalls P F L L' args r := by
  unfold fnOk at hok
  simp only [hF, hb, Bool.and_eq_true] at hok
  unfold callM at h
  split at h
  · rename_i hlen
    simp only [Bool.and_eq_true, decide_eq_true_eq] at hlen
    split at h
    · rename_i e t hL
      split at h
      · rename_i he
        split at h
        · rename_i L1 rs hfin hres
          injection h with h
          simp only [Prod.mk.injEq] at h
          obtain ⟨rfl, rfl⟩ := h
          refine mcalls_st (rs := rs) L L1 fn.results.toList hF hb hok.2 rfl rfl hlen.1 rfl hlen.2 fun C => ?_
          have := ((hex c _ _ hok.1 hL).2 C (mpostL P fn.results.toList rs L L1) fun x hx => ?_)
          · rw [start_as] at this
            exact this
          · simp only [List.mem_singleton] at hx
            subst hx
            have key : resM P L t.as fn.results.toList rs ∧ mfin L t.as.rows L L1 := ⟨resListM_ok hres, finM_ok hfin⟩
            cases e <;> first | exact key | cases he
        · cases h
      · cases h
    · cases h
  · cases h
theorem callC_ok {fs : List (FuncId × Nat)} (hfs : allOk P fs = true) {ex : Code → CS → Option Outs} (hex : Good P ex) : (callC P fs ex).ok P := fun D s d f xs t h => by
  unfold callC at h
  split at h
  · cases h
  · rename_i F cs hcal
    split at h
    · rename_i m fn hm hF
      have hok := allOk_get hfs hm
      split at h
      · cases h
      · rename_i c hb
        split at h
        · rename_i hmode
          simp only [Bool.and_eq_true, beq_iff_eq, Bool.not_eq_true'] at hmode
          split at h
          · rename_i dd
            split at h
            · rename_i hsn
              simp only [Bool.and_eq_true, decide_eq_true_eq] at hsn
              split at h
              · rename_i ty sz es m' hO
                injection h with h; subst h
                refine ⟨put_num _ _ _, fun K hK => .inr ⟨hmode.2, .inr ⟨F, cs, _, ty, sz, es, m', dd, hcal, snapBL_ok _ hsn.1, leL_refl _, callO_ok hex hF hb hok hO, rfl, hsn.2, ?_⟩⟩⟩
                rw [as_put, as_row] at hK
                exact hK
              · cases h
            · cases h
          · cases h
        · split at h
          · rename_i hmode
            simp only [Bool.and_eq_true, beq_iff_eq, Bool.not_eq_true'] at hmode
            dsimp only at h
            split at h
            · rename_i args L hargs hL
              split at h
              · rename_i L' r hM
                split at h
                · rename_i hap
                  simp only [Bool.and_eq_true] at hap
                  injection h with h; subst h
                  refine ⟨(put_num _ _ _).trans (putRows_num _ _), fun K hK => .inr ⟨hmode.2, .inl ⟨F, cs, _, L, L', args, r, hcal, hargs, lendRows_ok hL, hap.1, hap.2, callM_ok hex hF hb hok hM, ?_⟩⟩⟩
                  rw [as_put, as_putRows] at hK
                  exact hK
                · cases h
              · cases h
            · cases h
          · split at h
            · rename_i hsn
              split at h
              · rename_i r hA
                split at h
                · rename_i hfl
                  simp only [Bool.or_eq_true] at hfl
                  injection h with h; subst h
                  refine ⟨put_num _ _ _, fun K hK => .inl ⟨r, ⟨F, cs, _, hcal, snapBL_ok _ hsn, leL_refl _, callA_ok hex hF hb hok hA, hfl⟩, ?_⟩⟩
                  rw [as_put] at hK
                  exact hK
                · cases h
              · cases h
            · cases h
    · cases h

theorem bindL_mem {α β : Type} {x : Option (List α)} {f : α → Option (List β)} {zs : List β} (h : bindL x f = some zs) {z : β} (hz : z ∈ zs) : ∃ l, x = some l ∧ ∃ a ∈ l, ∃ ys, f a = some ys ∧ z ∈ ys := by
  unfold bindL at h
  split at h
  · cases h
  · rename_i l
    refine ⟨l, rfl, ?_⟩
    induction l generalizing zs with
    | nil => injection h with h; subst h; simp at hz
    | cons b l ih =>
      unfold bindL.go at h
      split at h
      · cases h
      · rename_i ys hys
        split at h
        · cases h
        · rename_i ws hws
          injection h with h; subst h
          rcases List.mem_append.1 hz with hz | hz
          · exact ⟨b, by simp, ys, hys, hz⟩
          · obtain ⟨a, ha, y2, h1, h2⟩ := ih hz hws
            exact ⟨a, by simp [ha], y2, h1, h2⟩
theorem runOps_num {call : Caller} (hcall : call.ok P) {D : Bool} {ops : Array Oper} : ∀ (l : List Oper) {s : CS} {L : List CS}, runOps P call D ops l s = some L → ∀ t ∈ L, t.n = s.n
  | [], s, L, h => by
    unfold runOps at h
    injection h with h; subst h
    intro t ht
    simp only [List.mem_singleton] at ht; rw [ht]
  | o :: l, s, L, h => by
    have go : bindL (opC P call D o s) (runOps P call D ops l) = some L → ∀ t ∈ L, t.n = s.n := fun h t ht => by
      obtain ⟨l1, h1, a, ha, ys, h2, h3⟩ := bindL_mem h ht
      rw [runOps_num hcall l h2 t h3, (opC_ok hcall h1 (K := fun _ => True) fun _ _ => trivial).2 a ha]
    have sk : runOps P call D ops l (s.put o.dst (.r .ud)) = some L → ∀ t ∈ L, t.n = s.n := fun h t ht => by
      rw [runOps_num hcall l h t ht, put_num]
    unfold runOps at h
    split at h
    · exact go h
    · split at h
      · exact sk h
      · split at h
        · split at h
          · exact go h
          · exact sk h
        · exact sk h
        · cases h
theorem norm_mem' : ∀ {L : List CS} {x : Exit × CS}, x ∈ norm L → x.1 = .normal ∧ x.2 ∈ L
  | [], _, h => by simp [norm] at h
  | t :: l, x, h => by
    simp only [norm, List.mem_cons] at h
    rcases h with rfl | h
    · exact ⟨rfl, by simp⟩
    · have := norm_mem' h
      exact ⟨this.1, by simp [this.2]⟩
theorem blk_mem' {id : Nat} : ∀ {L : Outs} {x : Exit × CS}, x ∈ blk id L → ∃ e, (e, x.2) ∈ L
  | [], _, h => by simp [blk] at h
  | (e', t') :: l, x, h => by
    simp only [blk, List.mem_cons] at h
    rcases h with rfl | h
    · exact ⟨e', by simp⟩
    · obtain ⟨e, he⟩ := blk_mem' h
      exact ⟨e, by simp [he]⟩
theorem kappa_ok {ops : Array Oper} {s : CS} : ∀ l : List Oper, keysOk (kappa ops s l) s.as
  | [] => fun p hp => by simp [kappa] at hp
  | o :: l => fun p hp => by
    simp only [kappa, List.mem_append, List.mem_map] at hp
    rcases hp with ⟨t, _, rfl⟩ | hp
    · rfl
    · exact kappa_ok l p hp
theorem exec_ok (hm : P.follows .mixedOrders = true) {fs : List (FuncId × Nat)} (hfs : allOk P fs = true) : ∀ k, Good P (exec P fs k) := by
  intro k
  induction k using Nat.strongRecOn with
  | _ k ih =>
    cases k with
    | zero => intro c t L _ h; cases c <;> simp [exec] at h
    | succ k =>
      intro c t L hok h
      cases c with
      | skip => simp only [exec, Option.some.injEq] at h; subst h; exact ⟨by simp, fun C Q hQ => awp_skip (hQ _ (List.mem_singleton.2 rfl))⟩
      | label l => simp only [exec, Option.some.injEq] at h; subst h; exact ⟨by simp, fun C Q hQ => awp_label (hQ _ (List.mem_singleton.2 rfl))⟩
      | exit id => simp only [exec, Option.some.injEq] at h; subst h; exact ⟨by simp, fun C Q hQ => awp_exit (hQ _ (List.mem_singleton.2 rfl))⟩
      | ret => simp only [exec, Option.some.injEq] at h; subst h; exact ⟨by simp, fun C Q hQ => awp_ret (hQ _ (List.mem_singleton.2 rfl))⟩
      | region id ops D =>
        simp only [codeOk] at hok
        simp only [exec] at h
        split at h
        · rename_i hdr
          split at h
          · rename_i L' hL
            injection h with h; subst h
            have hcall := callC_ok hfs (ih k (Nat.lt_succ_self k))
            have hk := killD_sub D ops.toList t
            refine ⟨fun x hx => (runOps_num hcall _ hL _ (norm_mem' hx).2).trans hk.2, fun C Q hQ => awp_sub hk.1 ?_⟩
            have := runOps_ok hcall (K := Q .normal) _ hL fun t ht _ => hQ _ (norm_mem ht)
            have hd : dstOk ops.toList.toArray (killD D ops.toList t).as.n = true := by rw [show (killD D ops.toList t).as.n = t.n from hk.2]; exact hok
            cases D with
            | false => exact awp_region (l := ops.toList) hd this
            | true =>
              simp only [drawOk, Bool.not_true, Bool.false_or, Bool.or_eq_true] at hdr
              rcases hdr with hlex | hlex
              · exact awp_draw (l := ops.toList) hm hlex hd this
              · exact awp_draw2 (l := ops.toList) hm hlex hd (kappa_ok _) this
          · cases h
        · cases h
      | seq a b =>
        simp only [codeOk, Bool.and_eq_true] at hok
        simp only [exec] at h
        obtain ⟨l1, h1, h2⟩ := bindL_spec h
        have ga := ih k (Nat.lt_succ_self k) a t l1 hok.1 h1
        refine ⟨fun x hx => ?_, fun C Q hQ => ?_⟩
        · obtain ⟨l1', h1', y, hy, ys, h3, h4⟩ := bindL_mem h hx
          rw [h1] at h1'; injection h1' with h1'; subst h1'
          have hn := ga.1 y hy
          obtain ⟨e, u⟩ := y
          cases e <;> first
            | (have := (ih k (Nat.lt_succ_self k) b u ys (by rw [hn]; exact hok.2) h3).1 x h4; rw [this]; exact hn)
            | (simp only [Option.some.injEq] at h3; subst h3; simp only [List.mem_singleton] at h4; rw [h4]; exact hn)
        · refine awp_seq (ga.2 C _ fun x hx => ?_)
          obtain ⟨ys, h3, h4⟩ := h2 x hx
          have hn := ga.1 x hx
          obtain ⟨e, u⟩ := x
          cases e <;> first
            | exact (ih k (Nat.lt_succ_self k) b u ys (by rw [hn]; exact hok.2) h3).2 C Q fun x hx => hQ x (h4 x hx)
            | (simp only [Option.some.injEq] at h3; subst h3; exact hQ _ (h4 _ (by simp)))
      | cond c a b =>
        simp only [codeOk, Bool.and_eq_true] at hok
        simp only [exec] at h
        split at h
        · rename_i tt hc
          cases tt with
          | true =>
            have g := ih k (Nat.lt_succ_self k) a t L hok.1 h
            exact ⟨g.1, fun C Q hQ => awp_cond hc (fun _ => g.2 C Q hQ) (fun e => by cases e)⟩
          | false =>
            have g := ih k (Nat.lt_succ_self k) b t L hok.2 h
            exact ⟨g.1, fun C Q hQ => awp_cond hc (fun e => by cases e) (fun _ => g.2 C Q hQ)⟩
        · cases h
      | block id c =>
        simp only [codeOk] at hok
        simp only [exec] at h
        split at h
        · rename_i L' hL
          injection h with h; subst h
          have g := ih k (Nat.lt_succ_self k) c t L' hok hL
          refine ⟨fun x hx => ?_, fun C Q hQ => ?_⟩
          · obtain ⟨e, he⟩ := blk_mem' hx
            exact g.1 (e, x.2) he
          · refine awp_block (g.2 C _ fun x hx => ?_)
            obtain ⟨e, u⟩ := x
            have := hQ _ (blk_mem hx)
            cases e with
            | exit id' =>
              simp only [leave] at this
              simp only [inBlk]
              split <;> rename_i e <;> simp only [e, if_true, if_false] at this <;> exact this
            | _ => exact this
        · cases h
      | loop c =>
        simp only [codeOk] at hok
        have num : ∀ j, j ≤ k + 1 → ∀ (u : CS) (L' : Outs), u.n = t.n → exec P fs j (.loop c) u = some L' → ∀ x ∈ L', x.2.n = t.n := by
          intro j
          induction j with
          | zero => intro _ u L' _ hL; simp [exec] at hL
          | succ j ihj =>
            intro hj u L' hu hL x hx
            simp only [exec] at hL
            obtain ⟨l1, h1, y, hy, ys, h3, h4⟩ := bindL_mem hL hx
            have hn := (ih j (by omega) c u l1 (by rw [hu]; exact hok) h1).1 y hy
            obtain ⟨e, v⟩ := y
            cases e <;> first
              | exact ihj (by omega) v ys (by rw [← hu]; exact hn) h3 x h4
              | (simp only [Option.some.injEq] at h3; subst h3; simp only [List.mem_singleton] at h4; rw [h4, ← hu]; exact hn)
        refine ⟨num (k + 1) (Nat.le_refl _) t L rfl h, fun C Q hQ => ?_⟩
        refine awp_loop (fun j s => j ≤ k + 1 ∧ ∃ u L', s = u.as ∧ u.n = t.n ∧ exec P fs j (.loop c) u = some L' ∧ ∀ x ∈ L', Q x.1 x.2.as) (k + 1) ⟨Nat.le_refl _, t, L, rfl, rfl, h, hQ⟩ ?_
        rintro j s ⟨hj, u, L', rfl, hu, hL, hQ'⟩
        cases j with
        | zero => simp [exec] at hL
        | succ j =>
          simp only [exec] at hL
          obtain ⟨l1, h1, h2⟩ := bindL_spec hL
          have g := ih j (by omega) c u l1 (by rw [hu]; exact hok) h1
          refine g.2 C _ fun x hx => ?_
          obtain ⟨ys, h3, h4⟩ := h2 x hx
          have hn := g.1 x hx
          obtain ⟨e, v⟩ := x
          cases e <;> first
            | exact ⟨j, Nat.lt_succ_self j, by omega, v, ys, rfl, by rw [← hu]; exact hn, h3, fun x hx => hQ' x (h4 x hx)⟩
            | (simp only [Option.some.injEq] at h3; subst h3; exact hQ' _ (h4 _ (by simp)))
      | _ => simp [exec] at h
theorem evalA_ok (hm : P.follows .mixedOrders = true) {fs : List (FuncId × Nat)} (hfs : allOk P fs = true) {k : Nat} {F : FuncId} {args : List RV} {r : RV} (hF : fnOk P F = true) (h : evalA P fs k F args = some r) : ACalls P F args r := by
  unfold evalA at h
  split at h
  · rename_i fn hf
    split at h
    · rename_i c hb
      exact callA_ok (exec_ok hm hfs k) hf hb hF h
    · cases h
  · cases h
end
end Go.Oc
