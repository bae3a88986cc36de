/- Each operation does what 'step' says: maps. -/
import Derived.Test.YtnklbfmdojpfkaaOj
import Derived.Maps.RangeRun
namespace Go.Oc
open Go Go.RowKit
open Go.ChangeMaps (setBlock)
set_option linter.unusedSimpArgs false

section
variable {P : Program} {C : Ctx} {p : Plan} {s : AS} {a : Act} {w w' : World} {o : Oper} {R : Nat → Prop}

theorem relM_get : ∀ {m : List (RV × RV)} {l : List MapEntry} {i : Nat} {x : RV × RV}, RV.relM w R m l → m[i]? = some x → ∃ e, l[i]? = some e ∧ x.1.rel w R e.key ∧ x.2.rel w R e.val
  | [], _, _, _, _, h => by simp at h
  | y :: m, l, i, x, hm, h => by
    simp only [RV.relM] at hm
    obtain ⟨e, es', rfl, h1, h2, h3⟩ := hm
    cases i with
    | zero => simp at h; subst h; exact ⟨e, rfl, h1, h2⟩
    | succ i => simpa using relM_get h3 (by simpa using h)
theorem relM_get' : ∀ {m : List (RV × RV)} {l : List MapEntry} {i : Nat} {e : MapEntry}, RV.relM w R m l → l[i]? = some e → ∃ x, m[i]? = some x ∧ x.1.rel w R e.key ∧ x.2.rel w R e.val
  | [], _, _, _, hm, h => by simp only [RV.relM] at hm; subst hm; simp at h
  | y :: m, l, i, e, hm, h => by
    simp only [RV.relM] at hm
    obtain ⟨e', es', rfl, h1, h2, h3⟩ := hm
    cases i with
    | zero => simp at h; subst h; exact ⟨y, rfl, h1, h2⟩
    | succ i => simpa using relM_get' h3 (by simpa using h)
theorem relM_set {x : RV × RV} {e : MapEntry} (h1 : x.1.rel w R e.key) (h2 : x.2.rel w R e.val) : ∀ {m : List (RV × RV)} {l : List MapEntry} {i : Nat}, RV.relM w R m l → RV.relM w R (m.set i x) (l.set i e)
  | [], l, i, hm => by simp only [RV.relM] at hm; subst hm; simp [RV.relM]
  | y :: m, l, i, hm => by
    simp only [RV.relM] at hm
    obtain ⟨e', es', rfl, g1, g2, g3⟩ := hm
    cases i with
    | zero => simp only [List.set_cons_zero, RV.relM]; exact ⟨e, es', rfl, h1, h2, g3⟩
    | succ i => simp only [List.set_cons_succ, RV.relM]; exact ⟨e', _, rfl, g1, g2, relM_set h1 h2 g3⟩
theorem relM_snoc {x : RV × RV} {e : MapEntry} (h1 : x.1.rel w R e.key) (h2 : x.2.rel w R e.val) : ∀ {m : List (RV × RV)} {l : List MapEntry}, RV.relM w R m l → RV.relM w R (m ++ [x]) (l ++ [e])
  | [], l, hm => by simp only [RV.relM] at hm; subst hm; simp only [List.nil_append, RV.relM]; exact ⟨e, [], rfl, h1, h2, rfl⟩
  | y :: m, l, hm => by
    simp only [RV.relM] at hm
    obtain ⟨e', es', rfl, g1, g2, g3⟩ := hm
    simp only [List.cons_append, RV.relM]
    exact ⟨e', _, rfl, g1, g2, relM_snoc h1 h2 g3⟩
theorem relM_erase : ∀ {m : List (RV × RV)} {l : List MapEntry} {i : Nat}, RV.relM w R m l → RV.relM w R (m.eraseIdx i) (l.eraseIdx i)
  | [], l, i, hm => by simp only [RV.relM] at hm; subst hm; simp [RV.relM]
  | y :: m, l, i, hm => by
    simp only [RV.relM] at hm
    obtain ⟨e', es', rfl, g1, g2, g3⟩ := hm
    cases i with
    | zero => simpa using g3
    | succ i => simp only [List.eraseIdx_cons_succ, RV.relM]; exact ⟨e', _, rfl, g1, g2, relM_erase g3⟩

theorem findK_run {kk ka : IntKind} {n : Int} : ∀ {m : List (RV × RV)} {l : List MapEntry} {i : Nat} {r : Option (Nat × RV)}, RV.relM w R m l → findK (.it ka n) m i = some r →
    ∃ r', Instr.findNow (.int kk) (.int ka n) l i = some r' ∧ (r = none → r' = none) ∧
      ∀ j v, r = some (j, v) → i ≤ j ∧ ∃ e, l[j - i]? = some e ∧ r' = some (j, e.val) ∧ e.key = .int ka n ∧ v.rel w R e.val ∧ ∃ x, m[j - i]? = some x
  | [], l, i, r, hm, h => by
    simp only [RV.relM] at hm
    subst hm
    simp only [findK, Option.some.injEq] at h
    subst h
    exact ⟨none, rfl, fun _ => rfl, fun j v h => by cases h⟩
  | y :: m, l, i, r, hm, h => by
    simp only [RV.relM] at hm
    obtain ⟨e, es', rfl, g1, g2, g3⟩ := hm
    obtain ⟨y1, y2⟩ := y
    simp only at g1 g2
    simp only [findK] at h
    cases y1 <;> simp only [sameK, reduceCtorEq] at h
    rename_i kb b
    simp only [RV.rel] at g1
    by_cases hk : ka = kb
    · subst hk
      simp only [if_true] at h
      cases hnb : (n == b)
      · simp only [hnb] at h
        obtain ⟨r', h1, h2, h3⟩ := findK_run g3 h
        refine ⟨r', ?_, h2, fun j v hj => ?_⟩
        · simp only [Instr.findNow, g1, Instr.sameNow, if_true, hnb]; exact h1
        · obtain ⟨h4, e', h5, h6, h7, h8, x, hx⟩ := h3 j v hj
          refine ⟨by omega, e', ?_, h6, h7, h8, x, ?_⟩
          · rw [show j - i = (j - (i + 1)) + 1 from by omega]; simpa using h5
          · rw [show j - i = (j - (i + 1)) + 1 from by omega]; simpa using hx
      · simp only [hnb, Option.some.injEq] at h
        subst h
        have hb : n = b := by simpa using hnb
        subst hb
        refine ⟨some (i, e.val), ?_, (fun h => by cases h), fun j v hj => ?_⟩
        · simp only [Instr.findNow, g1, Instr.sameNow, if_true, hnb]
        · simp only [Option.some.injEq, Prod.mk.injEq] at hj
          obtain ⟨rfl, rfl⟩ := hj
          exact ⟨Nat.le_refl _, e, by simp, rfl, g1, g2, _, by simp; rfl⟩
    · simp [hk] at h

theorem run_checkKey_int {k : TypeId} {kk : IntKind} (hk : P.underlying k = some (.int kk)) (e : Bool) (ka : IntKind) (n : Int) : (Instr.checkKey e 10000 k (.int ka n)).run P w = .ok () w := by
  have : ∀ d : Nat, (Instr.checkKey e (d + 1) k (.int ka n)).run P w = .ok () w := fun d => by simp [Instr.checkKey, run_underlying hk]
  exact this 9999
theorem run_getMap {b : Nat} {es : Array MapEntry} {cl : Nat} (h : w.heap[b]? = some (.map es cl)) : (getObj b).run P w = .ok (.map es cl) w := by simp [getObj, Sem.run, h]
theorem run_getIter {b : Nat} {m : Option Nat} {s0 l0 : Nat} {seen : Array Nat} (h : w.heap[b]? = some (.mapIter m s0 seen l0)) : (getObj b).run P w = .ok (.mapIter m s0 seen l0) w := by simp [getObj, Sem.run, h]
theorem run_setMap {b : Nat} {es : Array MapEntry} {cl : Nat} (h : w.heap[b]? = some (.map es cl)) (ob : Obj) : (setObj b ob).run P w = .ok () (setBlock w b ob) := by simp [setObj, Sem.run, h, setBlock]
theorem setBlock_same {b : Nat} (h : b < w.heap.size) (o' : Obj) : (setBlock w b o').heap[b]? = some o' := by simp [setBlock, h]
theorem setBlock_other {b i : Nat} (h : i ≠ b) (o' : Obj) : (setBlock w b o').heap[i]? = w.heap[i]? := by simp [setBlock, Ne.symm h]
theorem setBlock_size {b : Nat} (o' : Obj) : (setBlock w b o').heap.size = w.heap.size := by simp [setBlock]
theorem run_findKey_now {k : TypeId} {kk : IntKind} (hk : P.underlying k = some (.int kk)) {v : Value} {l : List MapEntry} {r : Option (Nat × Value)} (h : Instr.findNow (.int kk) v l 0 = some r) : (Instr.findKey k v l).run P w = .ok r w := by
  simp [Instr.findKey, run_underlying hk, h]
theorem allIt_get : ∀ {xs : List RV} {i : Nat} {x : RV}, allIt xs = true → xs[i]? = some x → ∃ k n, x = .it k n
  | [], _, _, _, h => by simp at h
  | y :: xs, i, x, ha, h => by
    cases y <;> simp only [allIt, Bool.false_eq_true] at ha
    cases i with
    | zero => simp at h; subst h; exact ⟨_, _, rfl⟩
    | succ i => exact allIt_get ha (by simpa using h)
theorem allIt_val {R' : Nat → Prop} {w' : World} : ∀ {xs : List RV} {us vs : List Value}, allIt xs = true → RV.relV w R xs us → RV.relV w' R' xs vs → us = vs
  | [], us, vs, _, h1, h2 => by simp only [RV.relV] at h1 h2; rw [h1, h2]
  | y :: xs, us, vs, ha, h1, h2 => by
    cases y <;> simp only [allIt, Bool.false_eq_true] at ha
    simp only [RV.relV] at h1 h2
    obtain ⟨u, us', rfl, e1, h1⟩ := h1
    obtain ⟨v, vs', rfl, e2, h2⟩ := h2
    simp only [RV.rel] at e1 e2
    rw [e1, e2, allIt_val ha h1 h2]
theorem allIt_stays : ∀ {xs : List RV} {us : List Value} (d : Nat), allIt xs = true → RV.relV w R xs us → ((us.zip us).all fun (x, y) => Instr.sameBits (d + 1) x y) = true
  | [], us, d, _, h => by simp only [RV.relV] at h; subst h; rfl
  | y :: xs, us, d, ha, h => by
    cases y <;> simp only [allIt, Bool.false_eq_true] at ha
    simp only [RV.relV] at h
    obtain ⟨u, us', rfl, e, h⟩ := h
    simp only [RV.rel] at e
    subst e
    simp only [List.zip_cons_cons, List.all_cons, Bool.and_eq_true]
    exact ⟨by simp [Instr.sameBits], allIt_stays d ha h⟩
/-- A key's value is what the key says, wherever it is looked at. -/
theorem keyOk_val {kn : Option Nat} {key : RV} {R' : Nat → Prop} {w' : World} {u v : Value} (hk : keyOk kn key = true) (h1 : key.rel w R u) (h2 : key.rel w' R' v) : u = v := by
  cases kn <;> cases key <;> simp only [keyOk, Bool.false_eq_true, Bool.and_eq_true] at hk
  · simp only [RV.rel] at h1 h2; rw [h1, h2]
  · simp only [RV.rel] at h1 h2
    obtain ⟨us, rfl, _, h1⟩ := h1
    obtain ⟨vs, rfl, _, h2⟩ := h2
    have := allIt_val hk.2 h1 h2
    congr 1
    exact Array.toList_inj.1 this
theorem cmpL_true : ∀ {as bs : List RV}, cmpL as bs = some true → as = bs
  | [], [], _ => rfl
  | [], _ :: _, h => by simp [cmpL] at h
  | a :: as, [], h => by cases a <;> simp [cmpL] at h
  | a :: as, b :: bs, h => by
    cases a <;> cases b <;> simp only [cmpL, reduceCtorEq] at h
    split at h
    · rename_i e
      subst e
      split at h
      · rename_i r e2
        simp only [Option.some.injEq, Bool.and_eq_true, beq_iff_eq] at h
        obtain ⟨rfl, rfl⟩ := h
        rw [cmpL_true e2]
      · cases h
    · cases h
theorem findAsking_run {kt : TypeId} {n : Nat} (ht : eqT P kt = some n) {as : List RV} (hl : as.length = n) {xs : Array Value} {q : Plan} (hx : RV.relV w q.R as xs.toList) (ha : allIt as = true) :
    ∀ {m : List (RV × RV)} {l : List MapEntry} {i : Nat} {r : Option (Nat × RV)}, RV.relM w q.R m l → findK (.ag as) m i = some r →
    ∃ r', (Instr.findAsking kt (.agg xs) l i).run P w = .ok r' w ∧ (r = none → r' = none) ∧
      ∀ j v, r = some (j, v) → i ≤ j ∧ ∃ e, l[j - i]? = some e ∧ r' = some (j, e.val) ∧ e.key = .agg xs ∧ v.rel w q.R e.val ∧ ∃ x, m[j - i]? = some x
  | [], l, i, r, hm, h => by
    simp only [RV.relM] at hm
    subst hm
    simp only [findK, Option.some.injEq] at h
    subst h
    exact ⟨none, by simp [Instr.findAsking], fun _ => rfl, fun j v h => by cases h⟩
  | y :: m, l, i, r, hm, h => by
    simp only [RV.relM] at hm
    obtain ⟨e, es', rfl, g1, g2, g3⟩ := hm
    obtain ⟨y1, y2⟩ := y
    simp only at g1 g2
    simp only [findK] at h
    cases y1 <;> simp only [sameK, reduceCtorEq] at h
    rename_i bs
    simp only [RV.rel] at g1
    obtain ⟨ys, ek, _, hy⟩ := g1
    cases hc : cmpL as bs with
    | none => simp [hc] at h
    | some c =>
      obtain ⟨hrun, _⟩ := eqT_run (w := w) ht hx hy hl hc
      have hrun' : (Op.equal kt (.agg xs) e.key).run P w = .ok c w := by rw [ek]; exact hrun
      cases c
      · simp only [hc] at h
        obtain ⟨r', h1, h2, h3⟩ := findAsking_run ht hl hx ha g3 h
        refine ⟨r', ?_, h2, fun j v hj => ?_⟩
        · simp only [Instr.findAsking, Sem.run_bind, hrun', Result.andThen_ok, Bool.false_eq_true, if_false]; exact h1
        · obtain ⟨h4, e', h5, h6, h7, h8, x, hx⟩ := h3 j v hj
          refine ⟨by omega, e', ?_, h6, h7, h8, x, ?_⟩
          · rw [show j - i = (j - (i + 1)) + 1 from by omega]; simpa using h5
          · rw [show j - i = (j - (i + 1)) + 1 from by omega]; simpa using hx
      · simp only [hc, Option.some.injEq] at h
        subst h
        have hb := cmpL_true hc
        subst hb
        refine ⟨some (i, e.val), ?_, (fun h => by cases h), fun j v hj => ?_⟩
        · simp only [Instr.findAsking, Sem.run_bind, hrun', Result.andThen_ok, if_true, Sem.run_pure]
        · simp only [Option.some.injEq, Prod.mk.injEq] at hj
          obtain ⟨rfl, rfl⟩ := hj
          refine ⟨Nat.le_refl _, e, by simp, rfl, ?_, g2, _, by simp; rfl⟩
          rw [ek]
          congr 1
          exact Array.toList_inj.1 (allIt_val ha hy hx)
theorem findKey_run {kt : TypeId} {kn : Option Nat} (hk : keyN P kt = some kn) {key : RV} (hok : keyOk kn key = true) {q : Plan} {kv : Value} (hkv : key.rel w q.R kv) {m : List (RV × RV)} {l : List MapEntry} {r : Option (Nat × RV)}
    (hm : RV.relM w q.R m l) (h : findK key m 0 = some r) :
    ∃ r', (Instr.findKey kt kv l).run P w = .ok r' w ∧ (r = none → r' = none) ∧
      ∀ j v, r = some (j, v) → ∃ e, l[j]? = some e ∧ r' = some (j, e.val) ∧ e.key = kv ∧ v.rel w q.R e.val ∧ ∃ x, m[j]? = some x := by
  cases kn with
  | none =>
    obtain ⟨kk, hkk⟩ := keyN_none hk
    cases key <;> simp only [keyOk, Bool.false_eq_true] at hok
    rename_i ka n
    simp only [RV.rel] at hkv
    subst hkv
    obtain ⟨r', h1, h2, h3⟩ := findK_run (kk := kk) hm h
    refine ⟨r', run_findKey_now hkk h1, h2, fun j v hj => ?_⟩
    obtain ⟨_, e, h4, h5, h6, h7, h8⟩ := h3 j v hj
    exact ⟨e, by simpa using h4, h5, h6, h7, by simpa using h8⟩
  | some n =>
    have ht := keyN_some hk
    cases key <;> simp only [keyOk, Bool.false_eq_true, Bool.and_eq_true, decide_eq_true_eq] at hok
    rename_i as
    simp only [RV.rel] at hkv
    obtain ⟨xs, rfl, _, hx⟩ := hkv
    obtain ⟨r', h1, h2, h3⟩ := findAsking_run ht hok.1 hx hok.2 hm h
    have hd : ∃ d, P.underlying kt = some d ∧ ∀ a b, Instr.sameNow d (.agg a) b = none := by
      unfold eqT at ht
      split at ht
      · rename_i fs hu; exact ⟨_, hu, fun _ _ => rfl⟩
      · rename_i m' e' hu; exact ⟨_, hu, fun _ _ => rfl⟩
      · cases ht
    obtain ⟨d, hd, hs⟩ := hd
    refine ⟨r', ?_, h2, fun j v hj => ?_⟩
    · cases l with
      | nil =>
        cases m with
        | nil => simp only [findK, Option.some.injEq] at h; subst h; rw [h2 rfl]; simp [Instr.findKey, run_underlying hd, Instr.findNow]
        | cons y m => simp only [RV.relM] at hm; obtain ⟨_, _, hh, _⟩ := hm; cases hh
      | cons e l => simp only [Instr.findKey, Sem.run_bind, run_underlying hd, Result.andThen_ok, Instr.findNow, hs]; exact h1
    · obtain ⟨_, e, h4, h5, h6, h7, h8⟩ := h3 j v hj
      exact ⟨e, by simpa using h4, h5, h6, h7, by simpa using h8⟩
theorem run_checkKey {kt : TypeId} {kn : Option Nat} (hk : keyN P kt = some kn) {key : RV} (hok : keyOk kn key = true) {kv : Value} (hkv : key.rel w R kv) (e : Bool) : (Instr.checkKey e 10000 kt kv).run P w = .ok () w := by
  have hint : ∀ (d : Nat) (k : TypeId) (kk : IntKind) (v : Value), P.underlying k = some (.int kk) → (∃ ka n, v = .int ka n) → (Instr.checkKey e (d + 1) k v).run P w = .ok () w := fun d k kk v hkk ⟨ka, n, hv⟩ => by
    subst hv; simp [Instr.checkKey, run_underlying hkk]
  cases kn with
  | none =>
    obtain ⟨kk, hkk⟩ := keyN_none hk
    cases key <;> simp only [keyOk, Bool.false_eq_true] at hok
    simp only [RV.rel] at hkv
    exact hint 9999 kt kk kv hkk ⟨_, _, hkv⟩
  | some n =>
    have ht := keyN_some hk
    cases key <;> simp only [keyOk, Bool.false_eq_true, Bool.and_eq_true, decide_eq_true_eq] at hok
    rename_i as
    simp only [RV.rel] at hkv
    obtain ⟨xs, rfl, _, hx⟩ := hkv
    have hget : ∀ i, i < n → ∃ ka q, xs[i]? = some (.int ka q) := fun i hi => by
      have hi2 : i < as.length := by omega
      obtain ⟨u, hu, hr⟩ := RV.relV_get (i := i) hx (List.getElem?_eq_getElem hi2)
      obtain ⟨ka, q, e3⟩ := allIt_get hok.2 (List.getElem?_eq_getElem hi2)
      rw [e3] at hr
      simp only [RV.rel] at hr
      subst hr
      exact ⟨ka, q, by simpa using hu⟩
    unfold eqT at ht
    split at ht
    · rename_i fs hu
      split at ht
      · rename_i hc
        injection ht with ht
        simp only [Bool.and_eq_true, List.all_eq_true, bne_iff_ne, ne_eq, beq_iff_eq, Bool.not_eq_true'] at hc
        obtain ⟨⟨⟨h1, h2⟩, _⟩, _⟩ := hc
        have : ∀ d : Nat, (Instr.checkKey e (d + 2) kt (.agg xs)).run P w = .ok () w := fun d => by
          rw [show d + 2 = (d + 1) + 1 from rfl, Instr.checkKey]
          simp only [Sem.run_bind, run_underlying hu, Result.andThen_ok]
          rw [← Array.forIn_toList]
          have hoffs : ∀ f ∈ fs.toList, f.offset < n := fun f hf => by
            have : f.offset ∈ fs.toList.map (·.offset) := List.mem_map.2 ⟨f, hf, rfl⟩
            rw [h2] at this
            have := List.mem_range.1 this
            omega
          clear h2
          generalize fs.toList = L at h1 hoffs
          induction L with
          | nil => simp
          | cons f L ih =>
            obtain ⟨g1, g2⟩ := h1 f (by simp)
            split at g2
            · rename_i k ek
              obtain ⟨ka, q, hq⟩ := hget _ (hoffs f (by simp))
              simp only [List.forIn_cons, ne_eq, g1, not_false_eq_true, if_true, Sem.run_bind, run_part_int ek hq, Result.andThen_ok, hint d f.type k _ ek ⟨ka, q, rfl⟩, Sem.run_pure]
              exact ih (fun y hy => h1 y (by simp [hy])) (fun y hy => hoffs y (by simp [hy]))
            · cases g2
        exact this 9998
      · cases ht
    · rename_i m' e' hu
      split at ht
      · rename_i k he
        split at ht
        · rename_i hc
          injection ht with ht
          simp only [Bool.and_eq_true, beq_iff_eq, Bool.not_eq_true', true_and] at hc
          obtain ⟨⟨h2, h3⟩, _⟩ := hc
          obtain ⟨i0, hi0⟩ := Option.isSome_iff_exists.1 h3
          have hsz : ∀ w : World, (sizeOf e').run P w = .ok 1 w := fun w => by
            rw [← h2]; exact run_sizeOf w hi0
          have : ∀ d : Nat, (Instr.checkKey e (d + 2) kt (.agg xs)).run P w = .ok () w := fun d => by
            rw [show d + 2 = (d + 1) + 1 from rfl, Instr.checkKey]
            simp only [Sem.run_bind, run_underlying hu, Result.andThen_ok]
            simp only [Std.Legacy.Range.forIn_eq_forIn_range', Std.Legacy.Range.size, Nat.sub_zero, Nat.add_one_sub_one, Nat.div_one]
            have hjs : ∀ j ∈ List.range' 0 m', j < n := fun j hj => by
              have := List.mem_range'_1.1 hj
              omega
            generalize List.range' 0 m' = is at hjs
            induction is with
            | nil => simp
            | cons j is ih =>
              obtain ⟨ka, q, hq⟩ := hget _ (hjs j (by simp))
              simp only [List.forIn_cons, Sem.run_bind, hsz, Result.andThen_ok, Nat.mul_one, run_part_int he hq, hint d e' k _ he ⟨ka, q, rfl⟩, Sem.run_pure]
              exact ih (fun y hy => hjs y (by simp [hy]))
          exact this 9998
        · cases ht
      · simp at ht
    · cases ht
theorem stays_key {kn : Option Nat} {key : RV} (hok : keyOk kn key = true) {kv : Value} (hkv : key.rel w R kv) : (Instr.keyThatStays kv kv).run P w = .ok kv w := by
  have : Instr.sameBits 10000 kv kv = true := by
    cases kn <;> cases key <;> simp only [keyOk, Bool.false_eq_true, Bool.and_eq_true] at hok
    · simp only [RV.rel] at hkv
      subst hkv
      have : ∀ (d : Nat) ka n, Instr.sameBits (d + 1) (.int ka n) (.int ka n) = true := fun d ka n => by simp [Instr.sameBits]
      exact this 9999 _ _
    · simp only [RV.rel] at hkv
      obtain ⟨xs, rfl, _, hx⟩ := hkv
      have : ∀ d : Nat, Instr.sameBits (d + 2) (.agg xs) (.agg xs) = true := fun d => by
        simp only [Instr.sameBits, beq_self_eq_true, Bool.true_and]
        exact allIt_stays d hok.2 hx
      exact this 9998
  simp [Instr.keyThatStays, this]

theorem good_makeMap {t : TypeId} (h : SR C p s a w) (ho : o.op = .makeMap t none) (hp : (sMakeMap P s (o.dst.getD 0) t).pre) : Done P C o s a w (sMakeMap P s (o.dst.getD 0) t) := by
  unfold sMakeMap at hp ⊢
  split at hp
  · have hn := h.newRow (o.dst.getD 0) hp (.mp []) rfl 0 (Nat.zero_le _) (.map #[] 0) (fun p' ver' _ hβ _ hk => by
      simp only [rowRel]
      exact ⟨_, hβ, #[], 0, heap_alloc_new w _, by simp [RV.relM], by simp, by simp⟩)
    refine ⟨_, .map (some w.heap.size), _, _, ?_, .inl rfl, trivial, by rw [rows_one]; exact hn, ?_⟩
    · simp [execOp, ho, Instr.makeMap]
    · rw [rows_one]
      simp only [AV.rel, vers, upd_same]
      exact ⟨Nat.le_refl _, fun _ => ⟨_, rfl, rfl⟩⟩
  · exact hp.elim

theorem zv_run {e : TypeId} {z : RV} (h : zv P e = some z) : ∃ v, (zeroValue e).run P w = .ok v w ∧ z.rel w R v := by
  unfold zv at h
  cases hi : P.info? e with
  | none => simp [hi] at h
  | some i =>
    cases hz : i.zero with
    | none => simp [hi, hz] at h
    | some v =>
      simp only [hi, Option.bind_some, hz, Option.map_some, Option.some.injEq] at h
      subst h
      exact ⟨v, by simp [zeroValue, typeInfo, hi, hz], RV.rel_ofV w R v⟩

theorem good_lookup {t : TypeId} {x i : Operand} {ok : Bool} (h : SR C p s a w) (ho : o.op = .lookup t x i ok) (hp : (sLookup P s t (s.ev x) (s.ev i) ok).pre) : Done P C o s a w (sLookup P s t (s.ev x) (s.ev i) ok) := by
  unfold sLookup at hp ⊢
  split at hp
  · rename_i kt e kn k n key e1 e2 e3
    obtain ⟨hu, hkn⟩ := mapT_spec e1
    split at hp
    · rename_i m z e4 e5
      have hx := h.ev x
      rw [e2] at hx
      simp only [AV.rel] at hx
      have hi := valR_rel e3 (h.ev i)
      have fin : ∀ {r : Option (Nat × RV)}, findK key m 0 = some r → n = (s.rows k).ver → keyOk kn key = true →
          ∃ v b, (Instr.lookup t (a.eval x) (a.eval i) ok).run P w = .ok (if ok then .tuple #[v, .bool b] else v) w ∧ (r = none → z.rel w p.R v ∧ b = false) ∧ ∀ j u, r = some (j, u) → u.rel w p.R v ∧ b = true := fun {r} hf hn hit => by
        have hck := run_checkKey (P := P) hkn hit hi
        obtain ⟨b, hβ, hv⟩ := hx.2 hn
        obtain ⟨b', hβ', es, cl, hh, hM, _⟩ := mapOf_row h e4
        rw [hβ] at hβ'
        injection hβ' with hβ'
        subst hβ'
        obtain ⟨r', hk2, hf2, hf3⟩ := findKey_run (P := P) hkn hit hi hM hf
        cases r with
        | none =>
          obtain rfl := hf2 rfl
          obtain ⟨v, hz, hzr⟩ := zv_run (w := w) (R := p.R) e5
          refine ⟨v, false, ?_, fun _ => ⟨hzr, rfl⟩, fun j u h => by cases h⟩
          simp only [Instr.lookup, Sem.run_bind, run_underlying hu, Result.andThen_ok, hv, run_getMap hh, hck, hk2, hz, Sem.run_pure]
        | some y =>
          obtain ⟨j, u⟩ := y
          obtain ⟨e', _, rfl, _, hrel, _⟩ := hf3 j u rfl
          refine ⟨e'.val, true, ?_, (fun h => by cases h), fun j' u' h => by
            simp only [Option.some.injEq, Prod.mk.injEq] at h
            rw [← h.2]; exact ⟨hrel, rfl⟩⟩
          simp only [Instr.lookup, Sem.run_bind, run_underlying hu, Result.andThen_ok, hv, run_getMap hh, hck, hk2, Sem.run_pure]
      have rel2 : ∀ {y : RV} {v : Value} {b : Bool}, y.rel w p.R v → (if ok then AV.r (.tu [y, .bo b]) else AV.r y).rel w p s.ver (if ok then .tuple #[v, .bool b] else v) := fun {y v b} hy => by
        cases ok
        · simpa [AV.rel] using hy
        · simp only [if_true, AV.rel, RV.rel, RV.relV]
          exact ⟨_, rfl, v, _, rfl, hy, _, _, rfl, rfl, rfl⟩
      split at hp
      · rename_i j v e6
        obtain ⟨u, b, hrun, _, h2⟩ := fin e6 hp.1 hp.2
        obtain ⟨h3, rfl⟩ := h2 j v rfl
        exact done_when h (v := if ok then .tuple #[u, .bool true] else u) (by simp only [execOp, ho, Sem.run_bind, hrun, Result.andThen_ok, Sem.run_pure]) (rel2 h3)
      · rename_i e6
        obtain ⟨u, b, hrun, h2, _⟩ := fin e6 hp.1 hp.2
        obtain ⟨h3, rfl⟩ := h2 rfl
        exact done_when h (v := if ok then .tuple #[u, .bool false] else u) (by simp only [execOp, ho, Sem.run_bind, hrun, Result.andThen_ok, Sem.run_pure]) (rel2 h3)
      · exact hp.elim
    · exact hp.elim
  · exact hp.elim

theorem born_set {l : List MapEntry} {i : Nat} {e e' : MapEntry} (h : l[i]? = some e) (hb : e'.born = e.born) : (l.set i e').map (·.born) = l.map (·.born) := by
  apply List.ext_getElem?
  intro j
  rw [List.getElem?_map, List.getElem?_map, List.getElem?_set]
  split
  · rename_i e1
    subst e1
    rw [h]
    split
    · simp [hb]
    · rename_i h2; exact absurd (List.getElem?_eq_some_iff.1 h).1 h2
  · rfl
theorem pairwise_born {l l' : List MapEntry} (h : l'.map (·.born) = l.map (·.born)) (hp : l.Pairwise (fun x y => x.born ≠ y.born)) : l'.Pairwise (fun x y => x.born ≠ y.born) := by
  have h1 : (l.map (·.born)).Pairwise (· ≠ ·) := List.pairwise_map.2 hp
  rw [← h] at h1
  exact List.pairwise_map.1 h1
theorem lt_born {l l' : List MapEntry} {cl : Nat} (h : l'.map (·.born) = l.map (·.born)) (hp : ∀ e ∈ l, e.born < cl) : ∀ e ∈ l', e.born < cl := fun e he => by
  have : e.born ∈ l'.map (·.born) := List.mem_map.2 ⟨e, he, rfl⟩
  rw [h] at this
  obtain ⟨e2, h2, h3⟩ := List.mem_map.1 this
  rw [← h3]; exact hp e2 h2

theorem good_mapUpdate {t : TypeId} {x i y : Operand} (h : SR C p s a w) (ho : o.op = .mapUpdate t x i y) (hp : (sMapUpdate P s t (s.ev x) (s.ev i) (s.ev y)).pre) : Done P C o s a w (sMapUpdate P s t (s.ev x) (s.ev i) (s.ev y)) := by
  unfold sMapUpdate at hp ⊢
  split at hp
  · rename_i kt et kn k n key v e1 e2 e3 e4
    obtain ⟨hu, hkn⟩ := mapT_spec e1
    split at hp
    · rename_i n' m e5
      have hx := h.ev x
      rw [e2] at hx
      simp only [AV.rel] at hx
      have hi := valR_rel e3 (h.ev i)
      have hy := valR_rel e4 (h.ev y)
      have hn2 : n' = (s.rows k).ver := by rw [e5]
      have hrow := h.rw k
      rw [e5] at hrow
      simp only [rowRel] at hrow
      obtain ⟨b, hβ, es, cl, hh, hM, hlt, hpw⟩ := hrow
      have hbs : b < w.heap.size := (h.bl k b hβ).1
      have fin : ∀ {es' : Array MapEntry} {cl' : Nat} {m' : List (RV × RV)}, (Instr.mapUpdate t (a.eval x) (a.eval i) (a.eval y)).run P w = .ok () (setBlock w b (.map es' cl')) →
          (∀ w2 : World, (∀ ad : Addr, p.R ad.block → w2.cell? ad = w.cell? ad) → RV.relM w2 p.R m' es'.toList) → (∀ e ∈ es'.toList, e.born < cl') → es'.toList.Pairwise (fun x y => x.born ≠ y.born) →
          Done P C o s a w ⟨n = n' ∧ keyOk kn key = true, True, ⟨.r .ud, [(k, ⟨n', .mp m'⟩)]⟩⟩ := fun {es' cl' m'} hrun hM' hlt' hpw' => by
        have hset := h.setRow (w' := setBlock w b (.map es' cl')) k (.mp m') (by rw [e5]; rfl) (fun _ _ _ _ h => by cases h) hβ rfl rfl rfl (setBlock_size _) (fun i hi => setBlock_other hi _) (fun hk => by
          simp only [rowRel]
          exact ⟨b, hβ, es', cl', setBlock_same hbs _, hM' _ hk.cell, hlt', hpw'⟩)
        refine ⟨.skip, undef, setBlock w b (.map es' cl'), p, ?_, .inr ⟨rfl, rfl⟩, trivial, ?_, ?_⟩
        · simp only [execOp, ho, Sem.run_bind, hrun, Result.andThen_ok, Sem.run_pure]
        · rw [rows_one, hn2]; exact hset
        · simp only [AV.rel, RV.rel]
      have hR0 : ∀ b, p.R b → p.R b := fun _ h => h
      have keyrel : ∀ (w2 : World), (∀ ad : Addr, p.R ad.block → w2.cell? ad = w.cell? ad) → key.rel w2 p.R (a.eval i) := fun w2 hw => RV.rel_mono hR0 hw _ _ hi
      split at hp
      · rename_i j u e6
        obtain ⟨hn, hit⟩ : n = n' ∧ keyOk kn key = true := hp
        have hck := run_checkKey (P := P) hkn hit hi false
        obtain ⟨b2, hβ2, hv⟩ := hx.2 (by rw [hn, hn2]; rfl)
        rw [hβ] at hβ2
        injection hβ2 with hβ2
        subst hβ2
        obtain ⟨r', hk2, _, hf3⟩ := findKey_run (P := P) hkn hit hi hM e6
        obtain ⟨e', he', rfl, hkey, _, _⟩ := hf3 j u rfl
        have heq : es[j]? = some e' := by simpa using he'
        have hjlt : j < es.size := (Array.getElem?_eq_some_iff.1 heq).1
        have hmod : (es.modify j fun e => { e with key := a.eval i, val := a.eval y }).toList = es.toList.set j { e' with key := a.eval i, val := a.eval y } := by
          apply List.ext_getElem?
          intro z
          rw [Array.getElem?_toList, Array.getElem?_modify, List.getElem?_set]
          split
          · rename_i e7; subst e7
            rw [heq]
            simp [hjlt]
          · simp
        have hb' := born_set (e' := { e' with key := a.eval i, val := a.eval y }) he' rfl
        refine fin (es' := es.modify j fun e => { e with key := a.eval i, val := a.eval y }) (cl' := cl) ?_ (fun w2 hw => ?_) (fun e he => ?_) ?_
        · simp only [Instr.mapUpdate, Sem.run_bind, run_underlying hu, Result.andThen_ok, hv, run_getMap hh, hck, hk2, heq, Option.map_some, Option.getD_some, hkey, stays_key (P := P) hit hi, run_setMap hh]
        · rw [hmod]
          exact relM_set (x := (key, v)) (keyrel _ hw) (RV.rel_mono hR0 hw _ _ hy) (RV.relM_mono hR0 hw _ _ hM)
        · rw [hmod] at he
          exact lt_born hb' hlt e he
        · rw [hmod]
          exact pairwise_born hb' hpw
      · rename_i e6
        obtain ⟨hn, hit⟩ : n = n' ∧ keyOk kn key = true := hp
        have hck := run_checkKey (P := P) hkn hit hi false
        obtain ⟨b2, hβ2, hv⟩ := hx.2 (by rw [hn, hn2]; rfl)
        rw [hβ] at hβ2
        injection hβ2 with hβ2
        subst hβ2
        obtain ⟨r', hk2, hf2, _⟩ := findKey_run (P := P) hkn hit hi hM e6
        obtain rfl := hf2 rfl
        refine fin (es' := es.push { key := a.eval i, val := a.eval y, born := cl }) (cl' := cl + 1) ?_ (fun w2 hw => ?_) (fun e he => ?_) ?_
        · simp only [Instr.mapUpdate, Sem.run_bind, run_underlying hu, Result.andThen_ok, hv, run_getMap hh, hck, hk2, run_setMap hh]
        · rw [Array.toList_push]
          exact relM_snoc (x := (key, v)) (keyrel _ hw) (RV.rel_mono hR0 hw _ _ hy) (RV.relM_mono hR0 hw _ _ hM)
        · rw [Array.toList_push] at he
          rcases List.mem_append.1 he with he | he
          · have := hlt e he; omega
          · simp at he; subst he; simp
        · rw [Array.toList_push]
          refine List.pairwise_append.2 ⟨hpw, by simp, fun x hx y hy => ?_⟩
          simp at hy; subst hy
          have := hlt x hx
          simp only; omega
      · exact hp.elim
    · exact hp.elim
  · exact hp.elim

/-- A range's row, in a block that was just made. -/
theorem newRow_mi (h : SR C p s a w) (d : Nat) (hd : d < 1000) (k : Nat) (hkd : k ≠ d) (m : List (RV × RV)) {b : Nat} (hβ : p.β k = some b) (ob : Obj) (hl : (s.rows k).c.isMpi = true)
    (hi : iterRel (w.alloc ob) p.R w.heap.size b m none) :
    SR C { p with β := upd p.β d (some w.heap.size), γ := upd p.γ d 0 } { s with rows := upd s.rows d ⟨(s.rows d).ver + 1, .mi k (s.rows k).ver m none⟩ } a (w.alloc ob) := by
  have h1 := h.newRow d hd (.mpi []) rfl 0 (Nat.zero_le _) ob
  have hver : ∀ c j, (upd s.rows d ⟨(s.rows d).ver + 1, c⟩ j).ver = if j = d then s.ver d + 1 else s.ver j := fun c j => by
    unfold upd; split <;> rfl
  have hk : Kept w (w.alloc ob) p { p with β := upd p.β d (some w.heap.size), γ := upd p.γ d 0 } s.ver (AS.ver { s with rows := upd s.rows d ⟨(s.rows d).ver + 1, .mi k (s.rows k).ver m none⟩ }) := by
    refine ⟨fun _ h => h, fun ad hr => World.cell?_alloc_lt w ob ad (h.rb _ hr), fun j => ?_, fun j hj => ?_⟩
    · show s.ver j ≤ (upd s.rows d _ j).ver
      rw [hver]; split
      · rename_i e; subst e; omega
      · exact Nat.le_refl _
    · have hj' : (upd s.rows d ⟨(s.rows d).ver + 1, .mi k (s.rows k).ver m none⟩ j).ver = s.ver j := hj
      rw [hver] at hj'
      split at hj'
      · rename_i e; subst e; omega
      · rename_i e; exact ⟨upd_other _ _ e, upd_other _ _ e⟩
  exact {
    base := h.base.alloc ob
    r0 := h.r0
    rn := h.rn
    rb := fun b hr => by have := h.rb b hr; simp; omega
    tm := fun t => AV.rel_mono hk _ _ (h.tm t)
    sz := h.sz
    df := h.df
    rw := fun j => by
      by_cases e : j = d
      · subst e
        show rowRel _ _ _ j (upd s.rows j ⟨(s.rows j).ver + 1, .mi k (s.rows k).ver m none⟩ j).c
        rw [upd_same]
        simp only [rowRel]
        refine ⟨w.heap.size, upd_same _ _ _, ?_, fun _ => ⟨b, (upd_other _ _ hkd).trans hβ, hi⟩⟩
        show (s.rows k).ver ≤ (upd s.rows j _ k).ver
        rw [upd_other _ _ hkd]
        exact Nat.le_refl _
      · show rowRel _ _ _ j (upd s.rows d ⟨(s.rows d).ver + 1, .mi k (s.rows k).ver m none⟩ j).c
        rw [upd_other _ _ e]
        exact rowRel_mono hk (upd_other _ _ e) (upd_other _ _ e) (fun b hβ => Below.heap_alloc w ob b (h.bl j b hβ).1) _ (fun km _ _ _ _ _ b hβ => Below.heap_alloc w ob b (h.bl km b hβ).1) (h.rw j)
    bl := fun j b hβ => by
      by_cases e : j = d
      · subst e
        simp only [upd_same] at hβ
        injection hβ with hβ
        subst hβ
        exact ⟨by simp, fun hr => by have := h.rb _ hr; omega, .inl h.base.size⟩
      · simp only [upd_other _ _ e] at hβ
        obtain ⟨h1, h2, h3⟩ := h.bl j b hβ
        exact ⟨by simp; omega, h2, h3⟩
    ij := fun j j' b hj hj' => by
      by_cases e : j = d <;> by_cases e' : j' = d
      · rw [e, e']
      · subst e
        simp only [upd_same, upd_other _ _ e'] at hj hj'
        injection hj with hj
        have := (h.bl j' b hj').1; omega
      · subst e'
        simp only [upd_same, upd_other _ _ e] at hj hj'
        injection hj' with hj'
        have := (h.bl j b hj).1; omega
      · simp only [upd_other _ _ e, upd_other _ _ e'] at hj hj'
        exact h.ij j j' b hj hj'
    cap := fun j => by
      show upd p.γ d 0 j ≤ maxLen
      unfold upd; split
      · exact Nat.zero_le _
      · exact h.cap j
    pn := fun j x hx => by
      obtain ⟨h1, h2, h3, h4⟩ := h.pn j x hx
      have e : j ≠ d := by omega
      exact ⟨(upd_other _ _ e).trans h1, (upd_other _ _ e).trans h2, by show (upd s.rows d _ j).ver = 0; rw [upd_other _ _ e]; exact h3, h4⟩
    lk := fun j km n l cur hj hn => by
      show (upd s.rows d ⟨(s.rows d).ver + 1, .mi k (s.rows k).ver m none⟩ km).c.isMpi = true
      have hj' : (upd s.rows d ⟨(s.rows d).ver + 1, .mi k (s.rows k).ver m none⟩ j).c = .mi km n l cur := hj
      have hn' : n = (upd s.rows d ⟨(s.rows d).ver + 1, .mi k (s.rows k).ver m none⟩ km).ver := hn
      by_cases e : j = d
      · subst e
        rw [upd_same] at hj'
        injection hj' with g1 g2 g3 g4
        subst g1
        rw [upd_other _ _ hkd]
        exact hl
      · rw [upd_other _ _ e] at hj'
        have hr := h.rw j
        rw [hj'] at hr
        simp only [rowRel] at hr
        obtain ⟨r, _, hle, _⟩ := hr
        by_cases e2 : km = d
        · subst e2
          rw [upd_same] at hn'
          have : n ≤ (s.rows km).ver := hle
          have : n = (s.rows km).ver + 1 := hn'
          omega
        · rw [upd_other _ _ e2] at hn' ⊢
          exact h.lk j km n l cur hj' hn' }

/-- Two rows anew: the map is locked, the range stands before its first step. -/
theorem good_range {t : TypeId} {x : Operand} (h : SR C p s a w) (ho : o.op = .range t x) (hp : (sRange P s (o.dst.getD 0) t (s.ev x)).pre) : Done P C o s a w (sRange P s (o.dst.getD 0) t (s.ev x)) := by
  unfold sRange at hp ⊢
  split at hp
  · rename_i ke k n e1 e2
    obtain ⟨kt, et, kn⟩ := ke
    obtain ⟨hu, _⟩ := mapT_spec e1
    split at hp
    · rename_i n' m e5
      obtain ⟨hn, hd0, hdk⟩ : n = n' ∧ o.dst.getD 0 < 1000 ∧ o.dst.getD 0 ≠ k := hp
      have hx := h.ev x
      rw [e2] at hx
      simp only [AV.rel] at hx
      have hn2 : n' = (s.rows k).ver := by rw [e5]
      have hrow := h.rw k
      rw [e5] at hrow
      simp only [rowRel] at hrow
      obtain ⟨b, hβ, hmap⟩ := hrow
      obtain ⟨b2, hβ2, hv⟩ := hx.2 (by rw [hn, hn2]; rfl)
      rw [hβ] at hβ2
      injection hβ2 with hβ2
      subst hβ2
      have hset := h.setRow (w' := w) k (.mpi m) (by rw [e5]; rfl) (fun _ _ _ _ h => by cases h) hβ rfl rfl rfl rfl (fun i _ => rfl) (fun _ => by simp only [rowRel]; exact ⟨b, hβ, hmap⟩)
      have hv1 : ∀ j, (upd s.rows k ⟨(s.rows k).ver, .mpi m⟩ j).ver = (s.rows j).ver := fun j => by
        unfold upd; split
        · rename_i e; subst e; rfl
        · rfl
      obtain ⟨es, cl, hh, hM, hlt, hpw⟩ := hmap
      have hd := hset
      -- the range's own row
      have hkv : k ≠ o.dst.getD 0 := Ne.symm hdk
      have key := newRow_mi hd (o.dst.getD 0) hd0 k hkv m hβ (.mapIter (some b) cl #[] cl) (by show (upd s.rows k ⟨(s.rows k).ver, .mpi m⟩ k).c.isMpi = true; rw [upd_same]; rfl) (by
        refine ⟨es, cl, cl, #[], cl, heap_alloc_new w _, (Below.heap_alloc w _ b (h.bl k b hβ).1).trans hh, ?_, hlt, hpw, ⟨Nat.le_refl _, Nat.le_refl _⟩, fun x hx => by cases hx⟩
        have : es.toList.filter (fun e => !(#[] : Array Nat).contains e.born) = es.toList := by simp
        rw [this]
        exact RV.relM_mono (fun _ h => h) (fun ad hr => World.cell?_alloc_lt w _ ad (h.rb _ hr)) _ _ hM)
      have hd1 : (upd s.rows k ⟨(s.rows k).ver, .mpi m⟩ (o.dst.getD 0)).ver = (s.rows (o.dst.getD 0)).ver := hv1 _
      have hd2 : (upd s.rows k ⟨(s.rows k).ver, .mpi m⟩ k).ver = (s.rows k).ver := hv1 k
      simp only [hd1, hd2] at key
      subst hn2
      refine ⟨.value (.pointer (some ⟨w.heap.size, 0, none⟩)), .pointer (some ⟨w.heap.size, 0, none⟩), w.alloc (.mapIter (some b) cl #[] cl),
        { p with β := upd p.β (o.dst.getD 0) (some w.heap.size), γ := upd p.γ (o.dst.getD 0) 0 }, ?_, .inl rfl, trivial, key, ?_⟩
      · simp only [execOp, ho, Sem.run_bind, hv, Instr.range, run_underlying hu, Result.andThen_ok, run_getMap hh, Sem.run_pure]
        rfl
      · simp only [AV.rel]
        have e8 : vers ((Yi.mk (.mi (o.dst.getD 0) ((s.rows (o.dst.getD 0)).ver + 1)) [(k, ⟨(s.rows k).ver, .mpi m⟩), (o.dst.getD 0, ⟨(s.rows (o.dst.getD 0)).ver + 1, .mi k (s.rows k).ver m none⟩)]).rows s.rows) (o.dst.getD 0)
            = (s.rows (o.dst.getD 0)).ver + 1 := by
          show (upd (upd s.rows k _) (o.dst.getD 0) _ (o.dst.getD 0)).ver = _
          rw [upd_same]
        rw [e8]
        exact ⟨Nat.le_refl _, fun _ => ⟨_, upd_same _ _ _, rfl⟩⟩
    · exact hp.elim
  · exact hp.elim

theorem ev_mi {x : Operand} {k n : Nat} (h : SR C p s a w) (e : s.ev x = .mi k n) (hn : n = (s.rows k).ver) : ∃ b, p.β k = some b ∧ a.eval x = .pointer (some ⟨b, 0, none⟩) := by
  have := h.ev x; rw [e] at this; simp only [AV.rel] at this; exact this.2 hn
theorem good_entry {x : Operand} (h : SR C p s a w) (ho : o.op = .entry x) (hp : (sEntry s (s.ev x)).pre) : Done P C o s a w (sEntry s (s.ev x)) := by
  unfold sEntry at hp ⊢
  split at hp
  · rename_i k n e1
    split at hp
    · rename_i n' km nm l e e2
      obtain ⟨hn, hnm⟩ : n = n' ∧ nm = (s.rows km).ver := hp
      have hrow := h.rw k
      rw [e2] at hrow
      simp only [rowRel] at hrow
      obtain ⟨r, hβ, _, hi⟩ := hrow
      obtain ⟨b, hβ2, es, cl, since, seen, last, hr, hh, hM, hlt, hpw, _, hcur⟩ := hi hnm
      obtain ⟨hcl, y, hy, hback, hk1, hk2⟩ := hcur e rfl
      obtain ⟨r', hβ', hv⟩ := ev_mi h e1 (by rw [e2]; exact hn)
      rw [hβ] at hβ'
      injection hβ' with hβ'
      subst hβ'
      have hf : es.find? (·.born == y.born) = some y := by
        rw [← Array.find?_toList]
        exact find_born y es.toList (List.pairwise_map.2 hpw) hy
      refine done_when h (v := .tuple #[y.key, y.val]) ?_ ?_
      · simp only [execOp, ho, Sem.run_bind, hv, Instr.entry, run_getIter hr, run_getMap hh, Result.andThen_ok, hback, hcl, bne_self_eq_false, Bool.false_eq_true, if_false, hf, Sem.run_pure]
      · simp only [AV.rel, RV.rel, RV.relV]
        exact ⟨_, rfl, _, _, rfl, hk1, _, _, rfl, hk2, rfl⟩
    · exact hp.elim
  · exact hp.elim

theorem filter_push {seen : Array Nat} {l : List MapEntry} {i : Nat} {e : MapEntry} (hpw : l.Pairwise (fun x y => x.born ≠ y.born)) (hi : (l.filter fun e => !seen.contains e.born)[i]? = some e) :
    l.filter (fun x => !(seen.push e.born).contains x.born) = (l.filter fun e => !seen.contains e.born).eraseIdx i := by
  have h1 : l.filter (fun x => !(seen.push e.born).contains x.born) = (l.filter fun e => !seen.contains e.born).filter (fun x => !(x.born == e.born)) := by
    rw [List.filter_filter]
    congr 1
    funext x
    by_cases hx : x.born = e.born <;> simp [hx, Bool.and_comm]
  rw [h1]
  refine Go.ChangeMaps.filter_eq_eraseIdx (fun x => x.born == e.born) _ i e hi (by simp) ?_
  exact (hpw.filter _).imp fun {a b} hab ⟨h1, h2⟩ => hab (by
    have h1 : a.born = e.born := by simpa using h1
    have h2 : b.born = e.born := by simpa using h2
    rw [h1, h2])
/-- A range's step: it is over, or some entry comes. -/
theorem next_sound {x : Operand} {ty : TypeId} (h : SR C p s a w) {d : Option Nat} {K : AS → Prop} (hK : sNext s d (s.ev x) K) :
    ∃ v w' p' s' y, (Instr.next (a.eval x) false ty).run P w = .ok v w' ∧ SR C p' s' a w' ∧ s'.n = s.n ∧ RV.rel w' p'.R y v ∧ K (s'.put d (.r y)) := by
  unfold sNext at hK
  split at hK
  · rename_i k n e1
    split at hK
    · rename_i n' km nm left cur e2
      obtain ⟨hn, hnm, hkk, hK1, hK2⟩ := hK
      have hrow := h.rw k
      rw [e2] at hrow
      simp only [rowRel] at hrow
      obtain ⟨r, hβ, _, hi⟩ := hrow
      obtain ⟨b, hβ2, es, cl, since, seen, last, hr, hh, hM, hlt, hpw, ⟨hsl, hsc⟩, hcur⟩ := hi hnm
      obtain ⟨r', hβ', hv⟩ := ev_mi h e1 (by rw [e2]; exact hn)
      rw [hβ] at hβ'
      injection hβ' with hβ'
      subst hβ'
      have hbr : b ≠ r := fun e => hkk (h.ij k km r hβ (e ▸ hβ2))
      rw [hv]
      rcases run_next_at (P := P) w ty r b since last seen es cl hr hh hlt hsl with ⟨h0, hrun⟩ | ⟨e, he, w1, hw1, hrun⟩
      · have hl : left = [] := by
          have h1 := relM_length hM
          have h2 : (es.toList.filter fun e => !seen.contains e.born).length = 0 := by
            have : (leftOf es seen).toList = es.toList.filter fun e => !seen.contains e.born := by simp [leftOf]
            rw [← this]; simpa using h0
          exact List.eq_nil_of_length_eq_zero (by omega)
        exact ⟨_, w, p, s, .tu [.bo false], hrun, h, rfl, by simp only [RV.rel, RV.relV]; exact ⟨_, rfl, _, _, rfl, rfl, rfl⟩, hK1 hl⟩
      · have he2 : e ∈ es.toList.filter fun e => !seen.contains e.born := by
          have : (leftOf es seen).toList = es.toList.filter fun e => !seen.contains e.born := by simp [leftOf]
          rw [← this]; exact he
        obtain ⟨i, hi2⟩ := List.getElem?_of_mem he2
        obtain ⟨y, hy, hy1, hy2⟩ := relM_get' hM hi2
        have hees : e ∈ es.toList := (List.mem_filter.1 he2).1
        obtain ⟨p1, h1, hp1R, hp1β⟩ : ∃ p1, SR C p1 s a w1 ∧ p1.R = p.R ∧ p1.β = p.β := by
          rcases hw1 with rfl | rfl
          · exact ⟨p, h, rfl, rfl⟩
          · exact ⟨_, h.below (w' := w.drew) ((Below.refl _ _).drew) (fun _ h => h) (fun _ h => .inl h) h.rb, rfl, rfl⟩
        have hheap : w1.heap = w.heap := by rcases hw1 with rfl | rfl <;> rfl
        have hcell : ∀ ad, w1.cell? ad = w.cell? ad := by rcases hw1 with rfl | rfl <;> exact fun _ => rfl
        have hrs : r < w1.heap.size := by rw [hheap]; exact (h.bl k r hβ).1
        have hset := h1.setRow (w' := setBlock w1 r (.mapIter (some b) since (seen.push e.born) cl)) k (.mi km nm (left.eraseIdx i) (some y)) (by rw [e2]; rfl)
          (fun km' n'' l' cur' hc hn' => by
            injection hc with g1 g2 g3 g4
            subst g1
            exact ⟨Ne.symm hkk, h.lk k km nm left cur (by rw [e2]) hnm⟩) (by rw [hp1β]; exact hβ) rfl rfl rfl (setBlock_size _) (fun i hi => setBlock_other hi _) (fun hk => by
          simp only [rowRel]
          refine ⟨r, by rw [hp1β]; exact hβ, Nat.le_of_eq hnm, fun _ => ⟨b, by rw [hp1β]; exact hβ2, es, cl, since, seen.push e.born, cl, setBlock_same hrs _, ?_, ?_, hlt, hpw, ⟨hsc, hsc⟩, ?_⟩⟩
          · rw [setBlock_other hbr, hheap]; exact hh
          · rw [filter_push hpw hi2, hp1R]
            exact relM_erase (RV.relM_mono (fun _ h => h) (fun ad hr => (hk.cell ad (by rw [hp1R]; exact hr)).trans (hcell ad)) _ _ hM)
          · intro x hx
            injection hx with hx
            subst hx
            rw [hp1R]
            have hc2 : ∀ ad : Addr, p.R ad.block → (setBlock w1 r (.mapIter (some b) since (seen.push e.born) cl)).cell? ad = w.cell? ad := fun ad hr => (hk.cell ad (by rw [hp1R]; exact hr)).trans (hcell ad)
            exact ⟨rfl, e, hees, by simp, RV.rel_mono (fun _ h => h) hc2 _ _ hy1, RV.rel_mono (fun _ h => h) hc2 _ _ hy2⟩)
        have hc3 : ∀ ad : Addr, p.R ad.block → (setBlock w1 r (.mapIter (some b) since (seen.push e.born) cl)).cell? ad = w.cell? ad := fun ad hr =>
          (World.cell?_of_block (setBlock_other (fun e => (h.bl k r hβ).2.1 (by rw [← e]; exact hr)) _)).trans (hcell ad)
        refine ⟨_, _, p1, _, .tu [.bo true, y.1, y.2], hrun, hset, rfl, ?_, ?_⟩
        · simp only [RV.rel, RV.relV]
          rw [hp1R]
          exact ⟨_, rfl, _, _, rfl, rfl, _, _, rfl, RV.rel_mono (fun _ h => h) hc3 _ _ hy1, _, _, rfl, RV.rel_mono (fun _ h => h) hc3 _ _ hy2, rfl⟩
        · have := hK2 i y hy
          rw [show n' = (s.rows k).ver from by rw [e2]] at this
          exact this
    · exact hK.elim
  · exact hK.elim
end
end Go.Oc
