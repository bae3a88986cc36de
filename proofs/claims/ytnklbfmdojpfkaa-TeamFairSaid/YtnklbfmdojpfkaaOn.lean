/- An operation that does not look at a row does not mind what becomes of it. -/
import Derived.Test.YtnklbfmdojpfkaaOm
namespace Go.Oc
open Go Go.RowKit

/- The value does not lead to row d at version nv. -/
mutual
def AV.nr (d nv : Nat) : AV → Prop
  | .r _ => True
  | .pt k n _ => ¬ (k = d ∧ n = nv)
  | .pe k n _ _ _ => ¬ (k = d ∧ n = nv)
  | .os k n _ _ _ => ¬ (k = d ∧ n = nv)
  | .mp k n => ¬ (k = d ∧ n = nv)
  | .mi k n => ¬ (k = d ∧ n = nv)
  | .fn _ cs => AV.nrL d nv cs
  | .ag cs => AV.nrL d nv cs
  | .tu cs => AV.nrL d nv cs
def AV.nrL (d nv : Nat) : List AV → Prop
  | [] => True
  | x :: xs => AV.nr d nv x ∧ AV.nrL d nv xs
end

theorem nr_map_r (d nv : Nat) : ∀ cs : List RV, AV.nrL d nv (cs.map .r)
  | [] => by simp [AV.nrL]
  | c :: cs => by simp only [List.map_cons, AV.nrL, AV.nr]; exact ⟨trivial, nr_map_r d nv cs⟩
theorem nrL_append {d nv : Nat} : ∀ {xs ys : List AV}, AV.nrL d nv xs → AV.nrL d nv ys → AV.nrL d nv (xs ++ ys)
  | [], _, _, h => by simpa using h
  | x :: xs, ys, h, h' => by simp only [List.cons_append, AV.nrL] at h ⊢; exact ⟨h.1, nrL_append h.2 h'⟩
theorem nrL_drop {d nv : Nat} : ∀ {xs : List AV} (n : Nat), AV.nrL d nv xs → AV.nrL d nv (xs.drop n)
  | [], n, _ => by simp [AV.nrL]
  | x :: xs, 0, h => h
  | x :: xs, n + 1, h => by simp only [AV.nrL] at h; exact nrL_drop n h.2

section
variable {w : World} {p : Plan} {ver : Nat → Nat} {d nv : Nat}
mutual
theorem rel_nr (hn : nv = ver d + 1 ∨ (nv = ver d ∧ p.β d = none ∧ p.γ d = 1)) : ∀ (x : AV) (v : Value), x.rel w p ver v → x.nr d nv
  | .r _, _, _ => by simp only [AV.nr]
  | .pt k n off, v, h => by
    simp only [AV.rel] at h; simp only [AV.nr]
    rintro ⟨rfl, rfl⟩
    rcases hn with hn | ⟨hn, hβ, _⟩
    · omega
    · obtain ⟨b, hb, _⟩ := h.2 hn; rw [hβ] at hb; cases hb
  | .pe k n sz idx off, v, h => by
    simp only [AV.rel] at h; simp only [AV.nr]
    rintro ⟨rfl, rfl⟩
    rcases hn with hn | ⟨hn, hβ, _⟩
    · omega
    · obtain ⟨b, hb, _⟩ := h.2 hn; rw [hβ] at hb; cases hb
  | .os k n sz off m, v, h => by
    simp only [AV.rel] at h; simp only [AV.nr]
    rintro ⟨rfl, rfl⟩
    rcases hn with hn | ⟨hn, hβ, hγ⟩
    · omega
    · rcases h.2 hn with ⟨_, h0, _⟩ | ⟨b, A, hb, _⟩
      · omega
      · rw [hβ] at hb; cases hb
  | .mp k n, v, h => by
    simp only [AV.rel] at h; simp only [AV.nr]
    rintro ⟨rfl, rfl⟩
    rcases hn with hn | ⟨hn, hβ, _⟩
    · omega
    · obtain ⟨b, hb, _⟩ := h.2 hn; rw [hβ] at hb; cases hb
  | .mi k n, v, h => by
    simp only [AV.rel] at h; simp only [AV.nr]
    rintro ⟨rfl, rfl⟩
    rcases hn with hn | ⟨hn, hβ, _⟩
    · omega
    · obtain ⟨b, hb, _⟩ := h.2 hn; rw [hβ] at hb; cases hb
  | .fn f cs, v, h => by
    simp only [AV.rel] at h; simp only [AV.nr]
    obtain ⟨vs, _, hV⟩ := h
    exact rel_nrL hn cs _ hV
  | .ag cs, v, h => by
    simp only [AV.rel] at h; simp only [AV.nr]
    obtain ⟨vs, _, _, hV⟩ := h
    exact rel_nrL hn cs _ hV
  | .tu cs, v, h => by
    simp only [AV.rel] at h; simp only [AV.nr]
    obtain ⟨vs, _, hV⟩ := h
    exact rel_nrL hn cs _ hV
theorem rel_nrL (hn : nv = ver d + 1 ∨ (nv = ver d ∧ p.β d = none ∧ p.γ d = 1)) : ∀ (xs : List AV) (vs : List Value), AV.relV w p ver xs vs → AV.nrL d nv xs
  | [], _, _ => by simp only [AV.nrL]
  | x :: xs, vs, h => by
    simp only [AV.relV] at h
    obtain ⟨u, us, _, h1, h2⟩ := h
    simp only [AV.nrL]
    exact ⟨rel_nr hn x u h1, rel_nrL hn xs us h2⟩
end
end

/-- 0: arithmetic and the like; 1: looks at rows; 2: makes a row; 3: the rest. -/
def cls (o : Oper) : Nat :=
  match o.op with
  | .move _ | .assign _ | .pick .. | .binOp .. | .unOp .. | .convert .. | .field .. | .index .. | .makeFunc .. | .extract .. => 0
  | .call ⟨.builtin .min, _, _⟩ | .call ⟨.builtin .max, _, _⟩ => 0
  | .load .. | .fieldAddr .. | .indexAddr .. | .slice .. | .build .. | .buildSlice .. | .nilCheck _ | .lookup .. => 1
  | .call ⟨.builtin .len, _, _⟩ => 1
  | .call ⟨.value _, _, _⟩ => 1
  | .box .. | .alloc _ | .makeSlice .. | .makeMap .. => 2
  | _ => 3

section
variable {P : Program} {s : AS} {rows' : Nat → Row} {d : Nat}

theorem cells_indep {ver ver' : Nat → Nat} {nv : Nat} (hnv : nv = ver d) (hv : ∀ k, k ≠ d → ver' k = ver k) {x : AV} (hx : x.nr d nv) {xs : List AV} (h : x.cells? ver = some xs) : x.cells? ver' = some xs := by
  unfold AV.cells? at h ⊢
  split at h <;> first
    | exact h
    | (split at h
       · rename_i e
         simp only [AV.nr] at hx
         have hk : ∀ k, ¬ (k = d ∧ ver k = nv) → k ≠ d := fun k hk e => hk ⟨e, by rw [e, hnv]⟩
         subst e
         rw [if_pos (hv _ (hk _ hx)).symm]; exact h
       · cases h)
theorem lay_indep {ver ver' : Nat → Nat} {nv : Nat} (hnv : nv = ver d) (hv : ∀ k, k ≠ d → ver' k = ver k) (place : Nat → Option (Nat × Nat)) : ∀ (parts : List (Nat × AV)) (cs cs' : List AV), (∀ p ∈ parts, p.2.nr d nv) →
    lay ver place cs parts = some cs' → lay ver' place cs parts = some cs'
  | [], _, _, _, h => h
  | (i, x) :: rest, cs, cs', hp, h => by
    simp only [lay] at h ⊢
    split at h
    · rename_i o sz xs e1 e2
      rw [e1, cells_indep hnv hv (hp (i, x) (by simp)) e2]
      dsimp only
      split at h
      · rename_i hc
        rw [if_pos hc]
        exact lay_indep hnv hv place rest _ _ (fun p hp' => hp p (by simp [hp'])) h
      · cases h
    · cases h
theorem layE_indep {ver ver' : Nat → Nat} {nv : Nat} (hnv : nv = ver d) (hv : ∀ k, k ≠ d → ver' k = ver k) (esz : Nat) : ∀ (parts : List (Nat × AV)) (es es' : List (List RV)), (∀ p ∈ parts, p.2.nr d nv) →
    layE ver esz es parts = some es' → layE ver' esz es parts = some es'
  | [], _, _, _, h => h
  | (i, x) :: rest, es, es', hp, h => by
    simp only [layE] at h ⊢
    split at h
    · rename_i xs e1
      cases e2 : x.cells? ver with
      | none => simp [e2] at e1
      | some ys =>
        simp only [e2, Option.bind_some] at e1
        rw [cells_indep hnv hv (hp (i, x) (by simp)) e2, Option.bind_some, e1]
        dsimp only
        split at h
        · rename_i hc
          rw [if_pos hc]
          exact layE_indep hnv hv esz rest _ _ (fun p hp' => hp p (by simp [hp'])) h
        · cases h
    · cases h

theorem snap1_indep (hr : ∀ k, k ≠ d → rows' k = s.rows k) {x : AV} (hx : x.nr d (s.rows d).ver) (h : snap1P s.rows x) : snap1P rows' x ∧ snap1V rows' x = snap1V s.rows x := by
  cases x with
  | r x => exact ⟨trivial, rfl⟩
  | os k n sz off m =>
    have hk : k ≠ d := fun e => by simp only [AV.nr] at hx; exact hx ⟨e, by rw [h.1, e]⟩
    simp only [snap1P, snap1V, hr k hk] at h ⊢
    exact ⟨h, trivial⟩
  | _ => exact ⟨trivial, rfl⟩
theorem snap1L_indep (hr : ∀ k, k ≠ d → rows' k = s.rows k) : ∀ {xs : List AV}, AV.nrL d (s.rows d).ver xs → snap1PL s.rows xs → snap1PL rows' xs ∧ xs.map (snap1V rows') = xs.map (snap1V s.rows)
  | [], _, _ => ⟨trivial, rfl⟩
  | x :: xs, hx, h => by
    simp only [AV.nrL] at hx
    simp only [snap1PL] at h ⊢
    obtain ⟨h1, h2⟩ := snap1_indep hr hx.1 h.1
    obtain ⟨h3, h4⟩ := snap1L_indep hr hx.2 h.2
    exact ⟨⟨h1, h3⟩, by simp only [List.map_cons, h2, h4]⟩
mutual
theorem snap_indep (hr : ∀ k, k ≠ d → rows' k = s.rows k) (hbox : ∀ k cs, (s.rows k).c = .box cs → AV.nrL d (s.rows d).ver cs) : ∀ (x : AV), x.nr d (s.rows d).ver → snapP s.rows x → snapP rows' x ∧ snapV rows' x = snapV s.rows x
  | .r _, _, _ => by simp [snapP, snapV]
  | .os k n sz off m, hx, h => by
    simp only [snapP] at h
    have hk : k ≠ d := fun e => by simp only [AV.nr] at hx; exact hx ⟨e, by rw [h.1, e]⟩
    simp only [snapP, snapV, hr k hk]
    exact ⟨h, trivial⟩
  | .pt k n off, hx, h => by
    simp only [snapP] at h
    have hk : k ≠ d := fun e => by simp only [AV.nr] at hx; exact hx ⟨e, by rw [h.1, e]⟩
    simp only [snapP, snapV, hr k hk]
    obtain ⟨h0, h⟩ := h
    split at h
    · rename_i cs e
      obtain ⟨h3, h4⟩ := snap1L_indep hr (nrL_drop off (hbox k cs e)) h
      exact ⟨⟨h0, h3⟩, by rw [h4]⟩
    · exact h.elim
  | .pe k n sz idx off, hx, h => by
    simp only [snapP] at h
    have hk : k ≠ d := fun e => by simp only [AV.nr] at hx; exact hx ⟨e, by rw [h.1, e]⟩
    simp only [snapP, snapV, hr k hk]
    exact ⟨h, trivial⟩
  | .fn f cs, hx, h => by
    simp only [AV.nr] at hx
    simp only [snapP, snapV] at h ⊢
    obtain ⟨h1, h2⟩ := snapL_indep hr hbox cs hx h
    exact ⟨h1, by rw [h2]⟩
  | .ag cs, hx, h => by
    simp only [AV.nr] at hx
    simp only [snapP, snapV] at h ⊢
    obtain ⟨h1, h2⟩ := snapL_indep hr hbox cs hx h
    exact ⟨h1, by rw [h2]⟩
  | .tu cs, hx, h => by
    simp only [AV.nr] at hx
    simp only [snapP, snapV] at h ⊢
    obtain ⟨h1, h2⟩ := snapL_indep hr hbox cs hx h
    exact ⟨h1, by rw [h2]⟩
  | .mp _ _, _, h => by simp [snapP] at h
  | .mi _ _, _, h => by simp [snapP] at h
theorem snapL_indep (hr : ∀ k, k ≠ d → rows' k = s.rows k) (hbox : ∀ k cs, (s.rows k).c = .box cs → AV.nrL d (s.rows d).ver cs) : ∀ (xs : List AV), AV.nrL d (s.rows d).ver xs → snapPL s.rows xs → snapPL rows' xs ∧ snapVL rows' xs = snapVL s.rows xs
  | [], _, _ => by simp [snapPL, snapVL]
  | x :: xs, hx, h => by
    simp only [AV.nrL] at hx
    simp only [snapPL, snapVL] at h ⊢
    obtain ⟨h1, h2⟩ := snap_indep hr hbox x hx.1 h.1
    obtain ⟨h3, h4⟩ := snapL_indep hr hbox xs hx.2 h.2
    exact ⟨⟨h1, h3⟩, by rw [h2, h4]⟩
end

theorem ev_rows (x : Operand) : ({ s with rows := rows' } : AS).ev x = s.ev x := by cases x <;> rfl
theorem ev_rows' : ({ s with rows := rows' } : AS).ev = s.ev := funext ev_rows

theorem nr_evs (hnr : ∀ x : Operand, (s.ev x).nr d (s.rows d).ver) : ∀ l : List Operand, AV.nrL d (s.rows d).ver (l.map s.ev)
  | [] => by simp [AV.nrL]
  | x :: l => by simp only [List.map_cons, AV.nrL]; exact ⟨hnr x, nr_evs hnr l⟩

/-- What does not look at row d yields the same whatever becomes of it. -/
theorem AY_indep {o : Oper} {y : Yi} (hr : ∀ k, k ≠ d → rows' k = s.rows k) (hnr : ∀ x : Operand, (s.ev x).nr d (s.rows d).ver) (hbox : ∀ k cs, (s.rows k).c = .box cs → AV.nrL d (s.rows d).ver cs)
    (hc : cls o ≠ 3) (hd : cls o = 2 → o.dst.getD 0 ≠ d) (h : AY P o s y) : AY P o { s with rows := rows' } y := by
  have hv : ∀ k, k ≠ d → (rows' k).ver = (s.rows k).ver := fun k hk => by rw [hr k hk]
  have hvv : ∀ k, k ≠ d → ({ s with rows := rows' } : AS).ver k = s.ver k := hv
  unfold AY at h ⊢
  split at h
  · rename_i f args ts ho
    obtain ⟨r, ⟨F, cs, args', hF, hsn, hle, hA, hfl⟩, rfl⟩ := h
    have hcs : AV.nrL d (s.rows d).ver cs := by
      have hx := hnr f
      unfold callee? at hF
      split at hF
      · injection hF with hF; injection hF with h1 h2; subst h2; exact nr_map_r _ _ _
      · rename_i e; injection hF with hF; injection hF with h1 h2; subst h2; rw [e] at hx; simpa only [AV.nr] using hx
      · cases hF
    obtain ⟨h1, h2⟩ := snapL_indep hr hbox _ (nrL_append (nr_evs hnr args.toList) hcs) hsn
    refine ⟨r, ⟨F, cs, args', by rw [ev_rows]; exact hF, by rw [ev_rows']; exact h1, ?_, hA, by rw [ev_rows']; exact hfl⟩, rfl⟩
    rw [ev_rows']
    show RV.leL (snapVL rows' _) _
    rw [h2]; exact hle
  · rename_i hncall
    obtain ⟨hpre, rfl⟩ := h
    suffices hs : step P o { s with rows := rows' } = step P o s by rw [hs]; exact ⟨hpre, rfl⟩
    unfold step at hpre ⊢
    rw [ev_rows']
    have nrparts : ∀ ps : List (Nat × Operand), ∀ q ∈ ps.map (fun x => (x.1, s.ev x.2)), q.2.nr d (s.rows d).ver := fun ps q hq => by
      obtain ⟨x, _, rfl⟩ := List.mem_map.1 hq
      exact hnr x.2
    split at hpre
    · rfl
    · rfl
    · rfl
    · rfl
    · rfl
    · rfl
    · -- load
      rename_i t x ho
      have hx := hnr x
      unfold sLoad at hpre ⊢
      split at hpre
      · rfl
      · rename_i T k n off e1 e2
        rw [e2] at hx
        dsimp only
        split at hpre
        · rename_i n' cs e3
          have hk : k ≠ d := fun e => by simp only [AV.nr] at hx; exact hx ⟨e, by rw [hpre.1, ← e, e3]⟩
          rw [hr k hk, e3]
        · exact hpre.elim
      · rename_i T k n sz idx off e1 e2
        rw [e2] at hx
        dsimp only
        split at hpre
        · rename_i n' t' sz' es e3
          have hk : k ≠ d := fun e => by simp only [AV.nr] at hx; exact hx ⟨e, by rw [hpre.1, ← e, e3]⟩
          rw [hr k hk, e3]
        · exact hpre.elim
      · exact hpre.elim
    · rename_i ho; simp [cls, ho] at hc
    · -- box
      rename_i t x ho
      have hdd := hd (by simp [cls, ho])
      unfold sBox at hpre ⊢
      split at hpre
      · rename_i cs e
        rw [cells_indep (ver' := AS.ver { s with rows := rows' }) (d := d) rfl hvv (hnr x) e]
        dsimp only
        rw [hr _ hdd]
      · exact hpre.elim
    · rename_i t ho
      have hdd := hd (by simp [cls, ho])
      unfold sAlloc
      dsimp only
      rw [hr _ hdd]
    · -- fieldAddr
      rename_i t x f ho
      have hx := hnr x
      unfold sField at hpre ⊢
      split at hpre
      · split at hpre
        · split at hpre
          · rfl
          · rename_i k n off e
            rw [e] at hx
            have hk : k ≠ d := fun e2 => by simp only [AV.nr] at hx; exact hx ⟨e2, by rw [show n = s.ver k from hpre, e2]; rfl⟩
            try dsimp only
            rw [hvv k hk]
          · rename_i k n sz idx off e
            rw [e] at hx
            have hk : k ≠ d := fun e2 => by simp only [AV.nr] at hx; exact hx ⟨e2, by rw [show n = s.ver k from hpre, e2]; rfl⟩
            try dsimp only
            rw [hvv k hk]
          · exact hpre.elim
        · exact hpre.elim
      · exact hpre.elim
    · rfl
    · -- indexAddr
      rename_i t x i ho
      have hx := hnr x
      unfold sIndex at hpre ⊢
      split at hpre
      · split at hpre
        · rfl
        · rename_i k n sz off m e
          rw [e] at hx
          have hk : k ≠ d := fun e2 => by simp only [AV.nr] at hx; exact hx ⟨e2, by rw [show n = s.ver k from hpre.1, e2]; rfl⟩
          try dsimp only
          rw [hvv k hk]
        · exact hpre.elim
      · split at hpre
        · rfl
        · rename_i k n off e
          rw [e] at hx
          have hk : k ≠ d := fun e2 => by simp only [AV.nr] at hx; exact hx ⟨e2, by rw [show n = s.ver k from hpre.1, e2]; rfl⟩
          try dsimp only
          rw [hvv k hk]
        · rename_i k n sz idx off e
          rw [e] at hx
          have hk : k ≠ d := fun e2 => by simp only [AV.nr] at hx; exact hx ⟨e2, by rw [show n = s.ver k from hpre.1, e2]; rfl⟩
          try dsimp only
          rw [hvv k hk]
        · exact hpre.elim
      · exact hpre.elim
    · rfl
    · -- slice
      rename_i t x lo hi mx ho
      have hx := hnr x
      unfold sSlice at hpre ⊢
      split at hpre
      · split at hpre
        · rfl
        · rename_i k n sz off m e
          rw [e] at hx
          split at hpre
          · rename_i l q e4 e5
            have hk : k ≠ d := fun e2 => by simp only [AV.nr] at hx; exact hx ⟨e2, by rw [show n = s.ver k from hpre.1, e2]; rfl⟩
            try dsimp only
            rw [hvv k hk, hr k hk]
          · exact hpre.elim
        · rfl
        · exact hpre.elim
      · try dsimp only
        unfold sSlice3 at hpre ⊢
        have hl : ∀ c m, lenA s (s.ev x) = some (c, m) → c → lenA { s with rows := rows' } (s.ev x) = some (c, m) := fun c m hl hc => by
          unfold lenA at hl ⊢
          split at hl
          · exact hl
          · exact hl
          · rename_i k n _ _ _ e
            rw [e] at hx
            injection hl with hl; injection hl with h1 h2
            have hn : n = s.ver k := by rw [← h1] at hc; exact hc
            have hk : k ≠ d := fun e2 => by simp only [AV.nr] at hx; exact hx ⟨e2, by rw [hn, e2]; rfl⟩
            rw [hvv k hk, h1, h2]
          · cases hl
        split at hpre
        · rename_i c m l q km z g1 g2 g3 g4
          rw [hl c m g1 hpre.1]
          have g2' : bound (lo.map s.ev) 0 = some l := g2
          have g3' : bound (hi.map s.ev) (-1) = some q := g3
          rw [g2', g3']
        · exact hpre.elim
      · exact hpre.elim
    · -- build
      rename_i t ps ho
      have hq := nrparts ps.toList
      unfold sBuild at hpre ⊢
      split at hpre
      · split at hpre
        · rename_i cs e
          try dsimp only
          rw [lay_indep (ver' := AS.ver { s with rows := rows' }) (d := d) rfl hvv _ _ _ _ hq e]
        · exact hpre.elim
      · split at hpre
        · rename_i cs e
          try dsimp only
          rw [lay_indep (ver' := AS.ver { s with rows := rows' }) (d := d) rfl hvv _ _ _ _ hq e]
        · exact hpre.elim
      · exact hpre.elim
    · -- buildSlice
      rename_i t n ps ho
      have hq := nrparts ps.toList
      unfold sBuildSlice at hpre ⊢
      split at hpre
      · split at hpre
        · rename_i h0; dsimp only; rw [if_pos h0, if_pos h0]
        · rename_i h0
          try dsimp only
          rw [if_neg h0, if_neg h0]
          split at hpre
          · rename_i es e
            rw [layE_indep (ver' := AS.ver { s with rows := rows' }) (d := d) rfl hvv _ _ _ _ hq e]
            have e' : layE s.ver _ _ (List.map (fun x => (x.1, s.ev x.2)) ps.toList) = some es := e
            rw [e']
          · exact hpre.elim
      · exact hpre.elim
    · rename_i t l c ho
      have hdd := hd (by simp [cls, ho])
      unfold sMakeSlice
      try dsimp only
      rw [hr _ hdd]
    · rfl
    · rfl
    · -- nilCheck
      rename_i x ho
      have hx := hnr x
      unfold sNil at hpre ⊢
      split at hpre
      · rfl
      · rename_i k n off e
        rw [e] at hx
        have hk : k ≠ d := fun e2 => by simp only [AV.nr] at hx; exact hx ⟨e2, by rw [show n = s.ver k from hpre, e2]; rfl⟩
        try dsimp only
        rw [hvv k hk]
      · rename_i k n sz idx off e
        rw [e] at hx
        have hk : k ≠ d := fun e2 => by simp only [AV.nr] at hx; exact hx ⟨e2, by rw [show n = s.ver k from hpre, e2]; rfl⟩
        try dsimp only
        rw [hvv k hk]
      · rfl
      · rfl
      · exact hpre.elim
    · rename_i t ho
      have hdd := hd (by simp [cls, ho])
      unfold sMakeMap
      try dsimp only
      rw [hr _ hdd]
    · -- lookup
      rename_i t x i ok ho
      have hx := hnr x
      unfold sLookup at hpre ⊢
      split at hpre
      · rename_i ke e k n key e1 e2 e3
        rw [e2] at hx
        try dsimp only
        split at hpre
        · rename_i m z e4 e5
          have hn : n = (s.rows k).ver := by
            split at hpre
            · exact hpre.1
            · exact hpre.1
            · exact hpre.elim
          have hk : k ≠ d := fun e2 => by simp only [AV.nr] at hx; exact hx ⟨e2, by rw [hn, e2]⟩
          rw [hr k hk, e4, e5]
        · exact hpre.elim
      · exact hpre.elim
    · rename_i ho; simp [cls, ho] at hc
    · rename_i ho; simp [cls, ho] at hc
    · rename_i ho; simp [cls, ho] at hc
    · -- builtins
      rename_i b args ts ho
      unfold sBuiltin at hpre ⊢
      split at hpre
      · rename_i t x e2 e3
        obtain ⟨x', hx', hxe⟩ := arr1 e3
        have hx := hnr x'
        rw [← hxe] at hx
        try dsimp only
        unfold sLen at hpre ⊢
        split at hpre
        · rfl
        · rfl
        · rename_i k n _ _ m e4
          have hk : k ≠ d := fun e2 => by simp only [AV.nr] at hx; exact hx ⟨e2, by rw [show n = s.ver k from hpre, e2]; rfl⟩
          try dsimp only
          rw [hvv k hk]
        · rename_i k n e4
          try dsimp only
          split at hpre
          · rename_i m e6
            have hk : k ≠ d := fun e2 => by simp only [AV.nr] at hx; exact hx ⟨e2, by rw [show n = (s.rows k).ver from hpre, e2]⟩
            rw [hr k hk, e6]
          · exact hpre.elim
        · rfl
        · rfl
        · exact hpre.elim
      · rfl
      · rfl
      · simp [cls, ho] at hc
      · simp [cls, ho] at hc
      · simp [cls, ho] at hc
      · exact hpre.elim
    · exact hpre.elim
end
end Go.Oc
