/- For every input the law of the prizes of a knock-out, 'TopKnockPrizes', returns true, and each argument reads afterwards as it read before; without conditions. -/
import Derived.Test.YtaniakoadbkadaaV68
import Derived.Test.YtaniakoadbkadaaV65
import Derived.Test.YtaniakoadbkadaaV66
import Derived.ChangeShapes
import Derived.WideShapes
import Derived.OpenShut
import Derived.ShutString
import Derived.ChangeOld
import Derived.Carry
import Derived.Below
import Derived.Test.YtaniakoadbkadaaRows
import Derived.JoinedOf
/- Maps whose elements are assigned with an operator: entries and their stamps; regions that look an element up and enter it in any order. -/
namespace Go.Oc
open Go Go.RowKit
set_option linter.unusedVariables false
set_option linter.unusedSimpArgs false
section
variable {P : Program} {C : Ctx} {s : AS} {Q : Exit → AS → Prop}
/-- A map, with the times of birth of its entries. -/
theorem awp_openR {c : Code} (k : Nat) {m : List (RV × RV)} (hc : (s.rows k).c = .mp m) (h : ∀ bs cl, bs.length = m.length → awp P C c Q { s with rows := upd s.rows k ⟨(s.rows k).ver, .mpx m bs cl⟩ }) : awp P C c Q s := fun a w ⟨p, hs⟩ => by
  have hrow := hs.rw k
  rw [hc] at hrow
  simp only [rowRel] at hrow
  obtain ⟨b, hβ, es, cl, h1, h2, h3, h4⟩ := hrow
  have hset := hs.setRow (w' := w) k (.mpx m (es.toList.map (·.born)) cl) (by rw [hc]; rfl) (fun _ _ _ _ h => by cases h) hβ rfl rfl rfl rfl (fun i _ => rfl) (fun _ => by
    simp only [rowRel]
    exact ⟨b, es, hβ, h1, h2, rfl, h3, h4⟩)
  exact h _ cl (by rw [List.length_map]; exact relM_length h2) a w ⟨p, hset⟩
theorem sub_shutR (k : Nat) {m : List (RV × RV)} {bs : List Nat} {cl : Nat} (hc : (s.rows k).c = .mpx m bs cl) : Sub s { s with rows := upd s.rows k ⟨(s.rows k).ver, .mp m⟩ } := fun C a w ⟨p, hs⟩ => by
  have hrow := hs.rw k
  rw [hc] at hrow
  simp only [rowRel] at hrow
  obtain ⟨b, es, hβ, h1, h2, _, h3, h4⟩ := hrow
  exact ⟨p, hs.setRow (w' := w) k (.mp m) (by rw [hc]; rfl) (fun _ _ _ _ h => by cases h) hβ rfl rfl rfl rfl (fun i _ => rfl) (fun _ => by
    simp only [rowRel]
    exact ⟨b, hβ, es, cl, h1, h2, h3, h4⟩)⟩
variable {n : Nat} {l : List (Nat × AV)} {vs : Nat → Nat} {cs : List (Nat × RowC)}
theorem st_row (k : Nat) (c : RowC) : ({ st n l vs cs with rows := upd (st n l vs cs).rows k ⟨((st n l vs cs).rows k).ver, c⟩ } : AS) = st n l vs (insc cs k c) := by
  simp only [st, AS.mk.injEq, true_and]
  funext j
  rw [lookc_insc]
  unfold upd
  split
  · rename_i e; subst e; rfl
  · rfl
theorem awp_open {c : Code} (k : Nat) {m : List (RV × RV)} (hc : lookc cs k = .mp m) (h : ∀ bs cl, bs.length = m.length → awp P C c Q (st n l vs (insc cs k (.mpx m bs cl)))) : awp P C c Q (st n l vs cs) :=
  awp_openR k hc fun bs cl hl => by rw [st_row]; exact h bs cl hl
theorem sub_shut (k : Nat) {m : List (RV × RV)} {bs : List Nat} {cl : Nat} (hc : lookc cs k = .mpx m bs cl) : Sub (st n l vs cs) (st n l vs (insc cs k (.mp m))) := by
  have := sub_shutR (s := st n l vs cs) k hc
  rwa [st_row] at this
end
/-! ### An element is looked up and entered, in any order -/
theorem keyOk_same {kn : Option Nat} {key : RV} (h : keyOk kn key = true) : sameK key key = some true := by
  have hag : ∀ xs : List RV, allIt xs = true → cmpL xs xs = some true := fun xs => by
    induction xs with
    | nil => intro _; rfl
    | cons x xs ih =>
      intro hx
      cases x <;> simp only [allIt, Bool.false_eq_true] at hx
      simp [cmpL, ih hx]
  cases kn <;> cases key <;> simp only [keyOk, Bool.false_eq_true, Bool.and_eq_true] at h
  · simp [sameK]
  · simp only [sameK]; exact hag _ h.2
theorem findK_new {key z : RV} (hs : sameK key key = some true) : ∀ {m : List (RV × RV)} {i : Nat}, findK key m i = some none → ∃ j, findK key (m ++ [(key, z)]) i = some (some (j, z))
  | [], i, _ => ⟨i, by simp [findK, hs]⟩
  | e :: m, i, h => by
    simp only [findK, List.cons_append] at h ⊢
    split at h
    · cases h
    · exact findK_new hs h
    · cases h
def entOk (ops : Array Oper) (x y : Oper) : Bool :=
  match x.op, y.op with
  | .lookup t (.tmp p) (.tmp q) false, .mapEntry t' (.tmp p') (.tmp q') => t == t' && p == p' && q == q' && x.guard.isNone && y.guard.isNone && x.apart ops y
  | _, _ => false
section
variable {P : Program} {s : AS} {ops : Array Oper}
theorem exchangeE {oi oj : Oper} {y z : Yi} (hp : entOk ops oi oj = true) (hy : YieldsA P ops oi y s) (hz : YieldsA P ops oj z (s.app oi.dst y)) :
    YieldsA P ops oj z s ∧ YieldsA P ops oi y (s.app oj.dst z) ∧ (s.app oj.dst z).app oi.dst y = (s.app oi.dst y).app oj.dst z := by
  unfold entOk at hp
  split at hp
  · rename_i t p q t' p' q' e1 e2
    simp only [Bool.and_eq_true, beq_iff_eq] at hp
    obtain ⟨⟨⟨⟨⟨rfl, rfl⟩, rfl⟩, g1⟩, g2⟩, hap⟩ := hp
    obtain ⟨hap1, hap2, hap3⟩ := Oper.apart_spec hap
    have wi : ∀ s : AS, wantA ops s oi = some true := fun s => by unfold wantA; rw [Option.isNone_iff_eq_none.1 g1]
    have wj : ∀ s : AS, wantA ops s oj = some true := fun s => by unfold wantA; rw [Option.isNone_iff_eq_none.1 g2]
    have mi : ∀ y, ¬ mk oi y := fun y => by simp [mk, cls, vcall, e1]
    have mj : ∀ y, ¬ mk oj y := fun y => by simp [mk, cls, vcall, e2]
    have hy2 : (sLookup P s t (s.tm p) (s.tm q) false).pre ∧ y = (sLookup P s t (s.tm p) (s.tm q) false).y := by
      rcases hy with ⟨_, hy, _⟩ | ⟨hw, _⟩
      · unfold AY at hy; rw [e1] at hy; simpa only [step, e1, AS.ev] using hy
      · rw [wi] at hw; cases hw
    have hz2 : (sMapEntry P (s.app oi.dst y) t ((s.app oi.dst y).tm p) ((s.app oi.dst y).tm q)).pre ∧ z = (sMapEntry P (s.app oi.dst y) t ((s.app oi.dst y).tm p) ((s.app oi.dst y).tm q)).y := by
      rcases hz with ⟨_, hz, _⟩ | ⟨hw, _⟩
      · unfold AY at hz; rw [e2] at hz; simpa only [step, e2, AS.ev] using hz
      · rw [wj] at hw; cases hw
    have hyE : y.eff = [] := by
      rw [hy2.2]
      have h0 := hy2.1
      unfold sLookup at h0 ⊢
      (repeat' split at h0) <;> first | rfl | exact h0.elim
    have hyR : (s.app oi.dst y).rows = s.rows := by rw [app_rows]; simp [Yi.rows, hyE]
    have np : ∀ d, oi.dst = some d → p ≠ d ∧ q ≠ d := fun d hd => by
      have := hap1 d hd
      have e : oj.looksAt ops = oj.looksAt ops := rfl
      constructor
      · intro hc; subst hc; exact this (List.mem_append_left _ (List.mem_filterMap.2 ⟨.tmp p, by rw [e2]; simp [Op.operands], rfl⟩))
      · intro hc; subst hc; exact this (List.mem_append_left _ (List.mem_filterMap.2 ⟨.tmp q, by rw [e2]; simp [Op.operands], rfl⟩))
    have nq : ∀ d, oj.dst = some d → p ≠ d ∧ q ≠ d := fun d hd => by
      have := hap3 d hd
      constructor
      · intro hc; subst hc; exact this (List.mem_append_left _ (List.mem_filterMap.2 ⟨.tmp p, by rw [e1]; simp [Op.operands], rfl⟩))
      · intro hc; subst hc; exact this (List.mem_append_left _ (List.mem_filterMap.2 ⟨.tmp q, by rw [e1]; simp [Op.operands], rfl⟩))
    have tmo : ∀ (d : Option Nat) (y : Yi) (t : Nat), (∀ d', d = some d' → t ≠ d') → (s.app d y).tm t = s.tm t := fun d y t h => by
      rw [app_tm]
      cases d with
      | none => rfl
      | some d => exact upd_other _ _ (h d rfl)
    have t1 := tmo oi.dst y p fun d hd => (np d hd).1
    have t2 := tmo oi.dst y q fun d hd => (np d hd).2
    have t3 := tmo oj.dst z p fun d hd => (nq d hd).1
    have t4 := tmo oj.dst z q fun d hd => (nq d hd).2
    have hcong : ∀ s' : AS, s'.rows = s.rows → sMapEntry P s' t (s.tm p) (s.tm q) = sMapEntry P s t (s.tm p) (s.tm q) := fun s' h => by unfold sMapEntry; rw [h]
    rw [t1, t2, hcong _ hyR] at hz2
    have hzs : YieldsA P ops oj z s := .inl ⟨wj _, by unfold AY; rw [e2]; simpa only [step, e2, AS.ev] using hz2, fun h => absurd h (mj _)⟩
    have hlook : (sLookup P (s.app oj.dst z) t (s.tm p) (s.tm q) false).pre ∧ (sLookup P (s.app oj.dst z) t (s.tm p) (s.tm q) false).y = (sLookup P s t (s.tm p) (s.tm q) false).y := by
      obtain ⟨h1, h2⟩ := hz2
      have h0 := hy2.1
      have hr : (s.app oj.dst z).rows = z.rows s.rows := app_rows _ _ _
      unfold sMapEntry at h1 h2
      split at h1
      · rename_i kt et kn k n key a1 a2 a3
        rw [a1, a2, a3] at h2
        simp only at h2
        unfold sLookup at h0 ⊢
        rw [a1, a2, a3] at h0 ⊢
        simp only at h0 ⊢
        split at h1
        · rename_i n' m bs cl zz a4 a5
          rw [a4, a5] at h2
          simp only at h2
          rw [hr]
          rw [a4, a5] at h0 ⊢
          simp only [mapOf] at h0 ⊢
          split at h1
          · rename_i j v a6
            rw [a6] at h2
            simp only at h2
            have hz : z.rows s.rows k = ⟨n', .mpx m bs cl⟩ := by rw [h2]; simp [Yi.rows, upd_same]
            rw [hz]
            simp only [mapOf, a6]
            exact ⟨⟨h1.1, h1.2⟩, by first | rfl | trivial⟩
          · rename_i a6
            rw [a6] at h2
            simp only at h2
            have hz : z.rows s.rows k = ⟨n', .mpx (m ++ [(key, zz)]) (bs ++ [cl]) (cl + 1)⟩ := by rw [h2]; simp [Yi.rows, upd_same]
            rw [hz]
            obtain ⟨j, hj⟩ := findK_new (z := zz) (keyOk_same h1.2) a6
            simp only [mapOf, hj]
            exact ⟨⟨h1.1, h1.2⟩, by first | rfl | trivial⟩
          · exact h1.elim
        · exact h1.elim
      · exact h1.elim
    refine ⟨hzs, .inl ⟨wi _, ?_, fun h => absurd h (mi _)⟩, ?_⟩
    · unfold AY
      rw [e1]
      simp only [step, e1, AS.ev, t3, t4]
      exact ⟨hlook.1, by rw [hlook.2]; exact hy2.2⟩
    · refine AS.ext (by simp only [app_n]) ?_ ?_
      · rw [app_tm, app_tm, app_tm, app_tm]
        cases hi : oi.dst with
        | none => cases oj.dst <;> rfl
        | some d =>
          cases hj : oj.dst with
          | none => rfl
          | some d' =>
            have : d ≠ d' := fun e => hap2 d hi (by rw [hj, e])
            exact upd_comm _ (Ne.symm this) _ _
      · rw [app_rows, app_rows, app_rows, app_rows]
        simp [Yi.rows, hyE]
  · cases hp
def pairE (ops : Array Oper) (x y : Oper) : Bool := okPair ops x y || entOk ops x y
theorem exchangeB {oi oj : Oper} {y z : Yi} (hp : pairE ops oi oj = true) (hne : NE s) (hy : YieldsA P ops oi y s) (hz : YieldsA P ops oj z (s.app oi.dst y)) :
    YieldsA P ops oj z s ∧ YieldsA P ops oi y (s.app oj.dst z) ∧ (s.app oj.dst z).app oi.dst y = (s.app oi.dst y).app oj.dst z := by
  unfold pairE at hp
  rcases Bool.or_eq_true _ _ ▸ hp with h | h
  · exact exchange h hne hy hz
  · exact exchangeE h hy hz
def lexOkE (ops : Array Oper) : Bool :=
  (List.range ops.size).all fun i => (deps ops i).all (fun e => decide (e < i)) &&
    (List.range ops.size).all fun j => !decide (i < j) || waits ops ops.size j i ||
      (match ops[i]?, ops[j]? with | some x, some y => pairE ops x y | _, _ => true)
theorem anyA_firstE {Q : AS → Prop} {n i : Nat} {oi : Oper} {y : Yi} (hi : ops[i]? = some oi) (hdst : dstOk ops n = true) : ∀ (fuel : Nat) (listed : Array Bool) (s : AS), s.n = n → NE s → down ops listed →
    (∀ j oj, ops[j]? = some oj → j ≠ i → listed.getD j true = false → waits ops ops.size j i = false → pairE ops oi oj = true) →
    i ∈ Region.ready .any ops listed → YieldsA P ops oi y s → anyA P ops Q fuel (listed.setIfInBounds i true) (s.app oi.dst y) → anyA P ops Q (fuel + 1) listed s := by
  intro fuel
  induction fuel with
  | zero =>
    intro listed s hn hne hdown _ hr hy H
    refine ⟨fun h => (by rw [h] at hr; cases hr), fun j hj => ?_⟩
    by_cases hji : j = i
    · subst hji; unfold qA; rw [hi]; exact ⟨y, hy, H⟩
    · have := ready_mono hj hji
      rw [H.1] at this
      cases this
  | succ fuel ih =>
    intro listed s hn hne hdown hfree hr hy H
    refine ⟨fun h => (by rw [h] at hr; cases hr), fun j hj => ?_⟩
    by_cases hji : j = i
    · subst hji; unfold qA; rw [hi]; exact ⟨y, hy, H⟩
    · have h1 := H.2 j (ready_mono hj hji)
      obtain ⟨hjun, oj, hoj, _⟩ := mem_ready.1 hj
      have hjun' : listed.getD j true = false := hjun
      have hnw : waits ops ops.size j i = false := by
        refine Decidable.byContradiction fun hw => ?_
        have hw : waits ops ops.size j i = true := by simpa using hw
        have h2 := waits_listed hdown _ _ _ (ready_deps hj) hw
        have h3 := (mem_ready.1 hr).1
        rcases Nat.lt_or_ge i listed.size with h' | h'
        · simp [h'] at h2 h3; rw [h3] at h2; cases h2
        · simp [Array.getElem?_eq_none h'] at h2
      have hpair := hfree j oj hoj hji hjun' hnw
      unfold qA at h1 ⊢
      rw [hoj] at h1 ⊢
      obtain ⟨z, hz, hK⟩ := h1
      obtain ⟨hz', hy', heq⟩ := exchangeB hpair hne hy hz
      refine ⟨z, hz', ?_⟩
      refine ih (listed.setIfInBounds j true) (s.app oj.dst z) (by rw [app_n]; exact hn) (hne.app hz' (by rw [hn]; exact dstOk_get hdst hoj)) (down_set hdown hj) (fun k ok hk hki hun hno => ?_) (ready_mono hr (Ne.symm hji)) hy' ?_
      · refine hfree k ok hk hki ?_ hno
        by_cases hjk : j = k
        · subst hjk; exact hjun'
        · rw [getD_set_ne true hjk] at hun; exact hun
      · rw [Array.setIfInBounds_comm _ _ hji, heq]
        exact hK

theorem lexOkE_spec (h : lexOkE ops = true) {i : Nat} (hi : i < ops.size) : (∀ e ∈ deps ops i, e < i) ∧ ∀ j, i < j → j < ops.size → waits ops ops.size j i = false → ∀ x y, ops[i]? = some x → ops[j]? = some y → pairE ops x y = true := by
  unfold lexOkE at h
  have := List.all_eq_true.1 h i (by simpa using hi)
  simp only [Bool.and_eq_true, List.all_eq_true, decide_eq_true_eq] at this
  refine ⟨this.1, fun j hij hj hw x y hx hy => ?_⟩
  have h2 := this.2 j (by simpa using hj)
  rw [hx, hy] at h2
  simpa [hij, hw] using h2

theorem anyA_lexE {Q : AS → Prop} {n : Nat} (hB : lexOkE ops = true) (hdst : dstOk ops n = true) : ∀ (l : List Oper) (k : Nat) (listed : Array Bool) (s : AS), (∀ j, l[j]? = ops[k + j]?) → k + l.length = ops.size → listed.size = ops.size →
    (∀ j, j < ops.size → listed.getD j false = decide (j < k)) → s.n = n → NE s → lexA P ops Q l s → anyA P ops Q l.length listed s
  | [], k, listed, s, _, hlen, hsz, hl, _, _, h => by
    refine ⟨?_, h⟩
    refine List.eq_nil_iff_forall_not_mem.2 fun j hj => ?_
    obtain ⟨h1, o, ho, _⟩ := mem_ready.1 hj
    have hj' : j < ops.size := (Array.getElem?_eq_some_iff.1 ho).1
    have h2 := hl j hj'
    simp only [List.length_nil, Nat.add_zero] at hlen
    have hjl : j < listed.size := by omega
    simp [hjl] at h1 h2
    rw [h1] at h2
    have : j < k := by omega
    simp [this] at h2
  | o :: l, k, listed, s, hlk, hlen, hsz, hl, hn, hne, h => by
    simp only [List.length_cons] at hlen
    have hk : k < ops.size := by omega
    have ho : ops[k]? = some o := by simpa using (hlk 0).symm
    obtain ⟨hdeps, hpairs⟩ := lexOkE_spec hB hk
    obtain ⟨y, hy, hrest⟩ := h
    have hunk : listed.getD k false = false := by rw [hl k hk]; simp
    have hsame : ∀ j, j < ops.size → listed.getD j true = listed.getD j false := fun j hj => by
      have : j < listed.size := by omega
      simp [this]
    have hready : k ∈ Region.ready .any ops listed := by
      refine mem_ready.2 ⟨by rw [hsame k hk]; exact hunk, o, ho, fun e he hb => ?_⟩
      have : e.on < k := hdeps e.on (by unfold deps; rw [ho]; exact List.mem_map.2 ⟨e, List.mem_filter.2 ⟨by simpa using he, hb⟩, rfl⟩)
      rw [hl e.on (by omega)]; simpa using this
    have hdown : down ops listed := fun j hj e he => by
      by_cases hjs : j < ops.size
      · rw [hl j hjs] at hj
        have hjk : j < k := by simpa using hj
        have := (lexOkE_spec hB hjs).1 e he
        rw [hl e (by omega)]; simp; omega
      · have : ¬ j < listed.size := by omega
        simp [Array.getElem?_eq_none (Nat.le_of_not_lt this)] at hj
    refine anyA_firstE ho hdst l.length listed s hn hne hdown (fun j oj hj hjk hun hw => ?_) hready hy ?_
    · have hj' : j < ops.size := (Array.getElem?_eq_some_iff.1 hj).1
      rw [hsame j hj', hl j hj'] at hun
      have : k < j := by simp at hun; omega
      exact hpairs j this hj' hw o oj ho hj
    · refine anyA_lexE hB hdst l (k + 1) _ _ (fun j => by have := hlk (j + 1); simpa [Nat.add_assoc, Nat.add_comm 1 j] using this) (by omega) (by simpa using hsz) (fun j hj => ?_) (by rw [app_n]; exact hn) (hne.app hy (by rw [hn]; exact dstOk_get hdst ho)) hrest
      by_cases hjk : k = j
      · subst hjk
        have : k < listed.size := by omega
        simp [this]
      · rw [getD_set_ne false hjk, hl j hj]
        simp; omega

theorem region_drawE {C : Ctx} {id : Nat} {a : Act} {w : World} {Q : AS → Prop} {Q' : Exit → Act → World → Prop} (hm : P.follows .mixedOrders = true) (hB : lexOkE ops = true) (hd : dstOk ops s.n = true)
    (hs : SRel C s a w) (hQ : ∀ s a w, Q s → SRel C s a w → Q' .normal a w) (h : lexA P ops Q ops.toList s) : (Code.region id ops true).wpIn (fnc C.rd) 0 P Q' a w := by
  obtain ⟨p, hs⟩ := hs
  have hs' : SR C p s a { w with drawn := w.drawn + 1 } := hs.below (w' := w.drew) ((Below.refl _ _).drew) (fun _ h => h) (fun _ h => .inl h) hs.rb
  refine wpIn_region_any hm (anyA_sound hQ _ _ _ _ _ p hd ?_ hs')
  have := anyA_lexE (n := s.n) hB hd ops.toList 0 (Array.replicate ops.size false) s (by simp) (by simp) (by simp) (fun j hj => by simp [hj]) rfl ⟨C, p, a, w, hs⟩ h
  simpa using this
theorem awp_drawE {C : Ctx} {Q : Exit → AS → Prop} {id : Nat} {l : List Oper} (hm : P.follows .mixedOrders = true) (hB : lexOkE l.toArray = true) (hd : dstOk l.toArray s.n = true) (h : aops P true l.toArray l (Q .normal) s) : awp P C (.region id l.toArray true) Q s := fun a w hs => by
  obtain ⟨p, hp⟩ := hs
  exact region_drawE hm hB hd ⟨p, hp⟩ (fun s a w hq hs => ⟨s, hs, hq⟩) (aops_lex l s hd ⟨C, p, a, w, hp⟩ h)
/-- A region that looks an element up and enters it. -/
theorem awp_dregE {C : Ctx} {Q : Exit → AS → Prop} {id : Nat} {l : List Oper} (hm : P.follows .mixedOrders = true) (hB : lexOkE l.toArray = true) (hd : dstOk l.toArray s.n = true)
    (h : ∀ K : AS → Prop, (∀ s, Q .normal s → K s) → aops P true l.toArray l K s) : awp P C (.region id l.toArray true) Q s := awp_drawE hm hB hd (h _ fun _ h => h)
end
end Go.Oc

/- The example of the fines. -/
namespace Go.Proofs.Ytaniakoadbkadaa
open Go Go.Oc
set_option linter.unusedSimpArgs false
set_option linter.unusedVariables false
set_option maxRecDepth 8000
theorem cost_ok (f m x n : Int) (hf : 0 ≤ f ∧ f ≤ 1000000) (hm : 0 ≤ n * m ∧ n * m ≤ 1000000) : ACalls Try.prog 59 [.ag [i64 f, i64 m, i64 x], i64 n] (i64 (min x (f + n * m))) := by
  refine acalls_st (rs := [i64 (min x (f + n * m))]) [.tmp 4] Try.func59 rfl (by kernel_rfl) Try.ntmps59 rfl (by simp) rfl fun C vs => ?_
  repeat refine awp_seq ?_
  refine awp_reg (by kernel_rfl) fun K hK => ?_
  simp only [go_sem]
  (try simp (disch := omega) only [wrapI])
  repeat first | intro _ | refine ⟨(by omega), ?_⟩ | refine ⟨⟨by omega, by omega⟩, ?_⟩
  refine hK _ ?_
  clear hK K
  refine awp_sub (sub_keep [1, 2]) ?_
  simp only [go_sem]
  repeat refine awp_seq ?_
  refine awp_reg (by kernel_rfl) fun K hK => ?_
  simp only [go_sem]
  (try simp (disch := omega) only [wrapI])
  repeat first | intro _ | refine ⟨(by omega), ?_⟩ | refine ⟨⟨by omega, by omega⟩, ?_⟩
  refine hK _ ?_
  clear hK K
  refine awp_sub (sub_keep [4]) ?_
  simp only [go_sem]
  refine awp_ret ?_
  simp only [go_sem]
theorem bad_ok : ACalls Try.prog 56 [.sl 3 [[i64 50, i64 25, i64 90]], .fn 57 []] (.bo false) := evalA_ok follows fs_ok (k := 2000) (by kernel_rfl) (by kernel_rfl)
def fineAt : Nat → Int
  | 0 => 0
  | i + 1 => fineAt i + min 90 (50 + (i : Int) * 25)
def fineM (i : Nat) : List (RV × RV) := if i = 0 then [] else [(.ag [i64 0, i64 0], i64 i)]
abbrev zz : List (List RV) := [[i64 0, i64 0], [i64 0, i64 0], [i64 0, i64 0], [i64 0, i64 0]]
theorem zz_at {i : Nat} (h : i < 4) : zz.getD i [] = [i64 0, i64 0] := by
  match i, h with
  | 0, _ => rfl
  | 1, _ => rfl
  | 2, _ => rfl
  | 3, _ => rfl
theorem fines_ok : ACalls Try.prog 31 [i64 1, .sl 3 [[i64 50, i64 25, i64 90]], .sl 2 zz] (.tu [ints [305], i64 0]) := by
  have w1 : withinL 1 60 [1] = true := by decide
  have w2 : withinL 1 20 [1] = true := by decide
  have b00 : ((0 : Int) == 0) = true := rfl
  have w3 : withinL 0 0 [0] = true := by decide
  refine acalls_st (rs := [ints [305], i64 0]) [.tmp 6, .tmp 7] Try.func31 rfl (by kernel_rfl) Try.ntmps31 rfl (by simp) rfl fun C vs => ?_
  repeat refine awp_seq ?_
  refine awp_reg (by kernel_rfl) fun K hK => ?_
  simp only [go_sem]
  (try simp (disch := omega) only [wrapI])
  repeat first | intro _ | refine ⟨(by omega), ?_⟩ | refine ⟨⟨by omega, by omega⟩, ?_⟩
  refine hK _ ?_
  clear hK K
  refine awp_sub (sub_keep [0, 1, 2]) ?_
  simp only [go_sem]
  repeat refine awp_seq ?_
  refine awp_block ?_
  repeat refine awp_seq ?_
  refine awp_reg (by kernel_rfl) fun K hK => ?_
  simp only [go_sem]
  (try simp (disch := omega) only [wrapI])
  refine xcall_eq (pWithin_ok 1 60 [1]) rfl (by simp only [go_sem, i64, ints]) (by simp only [go_sem, i64, ints]) (by first | exact .inl rfl | exact .inr rfl) ?_
  (try simp only [go_sem])
  (try simp (disch := omega) only [wrapI])
  repeat first | intro _ | refine ⟨(by omega), ?_⟩ | refine ⟨⟨by omega, by omega⟩, ?_⟩
  refine hK _ ?_
  clear hK K
  rw [w1]
  repeat refine awp_seq ?_
  refine awp_cond rfl (fun hc => ?_) (fun hc => ?_) <;> (try simp only [go_sem] at hc)
  repeat refine awp_seq ?_
  refine awp_reg (by kernel_rfl) fun K hK => ?_
  simp only [go_sem]
  (try simp (disch := omega) only [wrapI])
  refine xcall_eq (pWithin_ok 1 20 [1]) rfl (by simp only [go_sem, i64, ints]) (by simp only [go_sem, i64, ints]) (by first | exact .inl rfl | exact .inr rfl) ?_
  (try simp only [go_sem])
  (try simp (disch := omega) only [wrapI])
  repeat first | intro _ | refine ⟨(by omega), ?_⟩ | refine ⟨⟨by omega, by omega⟩, ?_⟩
  refine hK _ ?_
  clear hK K
  rw [w2]
  repeat refine awp_seq ?_
  refine awp_cond rfl (fun hc => ?_) (fun hc => ?_) <;> (try simp only [go_sem] at hc)
  repeat refine awp_seq ?_
  refine awp_reg (by kernel_rfl) fun K hK => ?_
  simp only [go_sem]
  (try simp (disch := omega) only [wrapI])
  refine xcall_eq (bad_ok) rfl (by simp only [go_sem, i64, ints]) (by simp only [go_sem, i64, ints]) (by first | exact .inl rfl | exact .inr rfl) ?_
  (try simp only [go_sem])
  (try simp (disch := omega) only [wrapI])
  repeat first | intro _ | refine ⟨(by omega), ?_⟩ | refine ⟨⟨by omega, by omega⟩, ?_⟩
  refine hK _ ?_
  clear hK K
  repeat refine awp_seq ?_
  refine awp_cond rfl (fun hc => ?_) (fun hc => ?_) <;> (try simp only [go_sem] at hc)
  repeat refine awp_seq ?_
  refine awp_reg (by kernel_rfl) fun K hK => ?_
  simp only [go_sem]
  (try simp (disch := omega) only [wrapI])
  repeat first | intro _ | refine ⟨(by omega), ?_⟩ | refine ⟨⟨by omega, by omega⟩, ?_⟩
  refine hK _ ?_
  clear hK K
  repeat refine awp_seq ?_
  refine awp_cond rfl (fun hc => ?_) (fun hc => ?_) <;> (try simp only [go_sem] at hc)
  refine awp_skip ?_
  try simp only [go_sem]
  repeat refine awp_seq ?_
  refine awp_reg (by kernel_rfl) fun K hK => ?_
  simp only [go_sem]
  (try simp (disch := omega) only [wrapI])
  repeat first | intro _ | refine ⟨(by omega), ?_⟩ | refine ⟨⟨by omega, by omega⟩, ?_⟩
  refine hK _ ?_
  clear hK K
  refine awp_sub (sub_keep [0, 1, 2, 6]) ?_
  simp only [go_sem]
  repeat refine awp_seq ?_
  refine awp_reg (by kernel_rfl) fun K hK => ?_
  simp only [go_sem]
  (try simp (disch := omega) only [wrapI])
  repeat first | intro _ | refine ⟨(by omega), ?_⟩ | refine ⟨⟨by omega, by omega⟩, ?_⟩
  refine hK _ ?_
  clear hK K
  refine awp_sub (sub_keep [0, 1, 2, 6, 8]) ?_
  simp only [go_sem]
  repeat refine awp_seq ?_
  refine awp_reg (by kernel_rfl) fun K hK => ?_
  simp only [go_sem]
  (try simp (disch := omega) only [wrapI])
  repeat first | intro _ | refine ⟨(by omega), ?_⟩ | refine ⟨⟨by omega, by omega⟩, ?_⟩
  refine hK _ ?_
  clear hK K
  refine awp_sub (sub_keep [0, 1, 6, 8, 32, 33, 34]) ?_
  simp only [go_sem]
  repeat refine awp_seq ?_
  refine awp_block ?_
  refine awp_upto (n := 80) 4 (fun i vs => [(0, .r (i64 1)), (1, .r (.sl 3 [[i64 50, i64 25, i64 90]])), (6, .os 30 (vs 30) 1 0 1), (8, .mp 31 (vs 31)), (32, .r (.sl 2 zz)), (33, .r (i64 4)), (34, .r (i64 i))])
    (fun i => [(30, .arr 3 1 [[i64 (fineAt i)]]), (31, .mp (fineM i))]) (fun _ => True) 0 (fit_of [] ?_ ?_) (Nat.zero_le _) trivial ?_
  · try simp only [go_sem]
  · try simp only [go_sem]
    simp [fineM, fineAt]
  · intro i vs hi _
    repeat refine awp_seq ?_
    refine awp_reg (by kernel_rfl) fun K hK => ?_
    simp only [go_sem]
    (try simp (disch := omega) only [wrapI])
    repeat first | intro _ | refine ⟨(by omega), ?_⟩ | refine ⟨⟨by omega, by omega⟩, ?_⟩
    refine hK _ ?_
    clear hK K
    repeat refine awp_seq ?_
    refine awp_cond rfl (fun hc => ?_) (fun hc => ?_) <;> (try simp only [go_sem] at hc)
    · have hci : i < 4 := by omega
      have hz := zz_at hci
      have hfi : 0 ≤ fineAt i ∧ fineAt i ≤ 1000 := by
        match i, hci with
        | 0, _ => simp only [fineAt]; omega
        | 1, _ => simp only [fineAt]; omega
        | 2, _ => simp only [fineAt]; omega
        | 3, _ => simp only [fineAt]; omega
      refine awp_skip ?_
      try simp only [go_sem]
      repeat refine awp_seq ?_
      refine awp_block ?_
      repeat refine awp_seq ?_
      refine awp_reg (by kernel_rfl) fun K hK => ?_
      simp only [go_sem, hci, hz]
      (try simp (disch := omega) only [wrapI])
      repeat first | intro _ | refine ⟨(by omega), ?_⟩ | refine ⟨⟨by omega, by omega⟩, ?_⟩
      refine hK _ ?_
      clear hK K
      refine awp_sub (sub_keep [0, 1, 6, 8, 10, 32, 33, 34]) ?_
      simp only [go_sem]
      repeat refine awp_seq ?_
      refine awp_reg (by kernel_rfl) fun K hK => ?_
      simp only [go_sem]
      (try simp (disch := omega) only [wrapI])
      refine xcall_eq (pWithin_ok 0 0 [0]) rfl (by simp only [go_sem, i64, ints, w3]) (by simp only [go_sem, i64, ints, w3]) (by first | exact .inl rfl | exact .inr rfl) ?_
      (try simp only [go_sem, w3])
      (try simp (disch := omega) only [wrapI])
      refine xcall_eq (pWithin_ok 0 0 [0]) rfl (by simp only [go_sem, i64, ints, w3]) (by simp only [go_sem, i64, ints, w3]) (by first | exact .inl rfl | exact .inr rfl) ?_
      (try simp only [go_sem, w3])
      (try simp (disch := omega) only [wrapI])
      repeat first | intro _ | refine ⟨(by omega), ?_⟩ | refine ⟨⟨by omega, by omega⟩, ?_⟩
      refine hK _ ?_
      clear hK K
      refine awp_sub (sub_keep [0, 1, 6, 8, 10, 32, 33, 34, 54]) ?_
      simp only [go_sem]
      repeat refine awp_seq ?_
      refine awp_cond rfl (fun hc => ?_) (fun hc => ?_) <;> (try simp only [go_sem] at hc)
      refine awp_skip ?_
      try simp only [go_sem]
      by_cases h0 : i = 0
      · subst h0
        simp only [fineM, if_true]
        repeat refine awp_seq ?_
        refine awp_dreg2 [(6, some 30), (1, none), (8, some 31), (10, some 10)] follows (by decide +kernel) (by kernel_rfl) (by simp only [keysOk, List.mem_cons, List.not_mem_nil, forall_eq_or_imp, Oc.keyOf, go_sem]; simp) fun K hK => ?_
        simp only [go_sem, b00, Bool.and_self, Bool.and_true]
        (try simp (disch := omega) only [wrapI])
        refine xcall_eq (cost_ok 50 25 90 0 (by omega) (by omega)) rfl (by simp only [go_sem, i64, ints]) (by simp only [go_sem, i64, ints]) (by first | exact .inl rfl | exact .inr rfl) ?_
        (try simp only [go_sem])
        (try simp (disch := omega) only [wrapI])
        repeat first | intro _ | refine ⟨(by omega), ?_⟩ | refine ⟨⟨by omega, by omega⟩, ?_⟩
        refine hK _ ?_
        clear hK K
        refine awp_sub (sub_keep [0, 1, 6, 8, 10, 32, 33, 34]) ?_
        simp only [go_sem]
        refine awp_sub (sub_frzP 10 10 [i64 0, i64 0] (by omega) rfl rfl) ?_
        repeat refine awp_seq ?_
        refine awp_open 31 rfl fun bs cl hbs => ?_
        obtain rfl : bs = [] := List.eq_nil_of_length_eq_zero hbs
        simp only [go_sem]
        refine awp_dregE follows (by decide +kernel) (by kernel_rfl) fun K hK => ?_
        simp only [go_sem, b00, Bool.and_self, Bool.and_true, eq_self, if_true, ite_true, List.nil_append, List.getD_cons_zero]
        (try simp (disch := omega) only [wrapI])
        repeat first | intro _ | refine ⟨(by omega), ?_⟩ | refine ⟨⟨by omega, by omega⟩, ?_⟩
        refine hK _ ?_
        clear hK K
        refine awp_sub (sub_shut 31 rfl) ?_
        simp only [go_sem]
        refine awp_sub (sub_keep [0, 1, 6, 8, 32, 33, 34]) ?_
        simp only [go_sem]
        repeat refine awp_seq ?_
        refine awp_reg (by kernel_rfl) fun K hK => ?_
        simp only [go_sem]
        (try simp (disch := omega) only [wrapI])
        repeat first | intro _ | refine ⟨(by omega), ?_⟩ | refine ⟨⟨by omega, by omega⟩, ?_⟩
        refine hK _ ?_
        clear hK K
        try simp only [go_sem]
        refine fit_of [10] ?_ ?_
        · try simp only [go_sem]
        · try simp only [go_sem]
          simp [fineM, fineAt]
      · simp only [fineM, if_neg h0]
        repeat refine awp_seq ?_
        refine awp_dreg2 [(6, some 30), (1, none), (8, some 31), (10, some 10)] follows (by decide +kernel) (by kernel_rfl) (by simp only [keysOk, List.mem_cons, List.not_mem_nil, forall_eq_or_imp, Oc.keyOf, go_sem]; simp) fun K hK => ?_
        simp only [go_sem, b00, Bool.and_self, Bool.and_true]
        (try simp (disch := omega) only [wrapI])
        refine xcall_eq (cost_ok 50 25 90 i (by omega) (by omega)) rfl (by simp only [go_sem, i64, ints]) (by simp only [go_sem, i64, ints]) (by first | exact .inl rfl | exact .inr rfl) ?_
        (try simp only [go_sem])
        (try simp (disch := omega) only [wrapI])
        repeat first | intro _ | refine ⟨(by omega), ?_⟩ | refine ⟨⟨by omega, by omega⟩, ?_⟩
        refine hK _ ?_
        clear hK K
        refine awp_sub (sub_keep [0, 1, 6, 8, 10, 32, 33, 34]) ?_
        simp only [go_sem]
        refine awp_sub (sub_frzP 10 10 [i64 0, i64 0] (by omega) rfl rfl) ?_
        repeat refine awp_seq ?_
        refine awp_open 31 rfl fun bs cl hbs => ?_
        obtain ⟨β, rfl⟩ : ∃ β, bs = [β] := List.length_eq_one_iff.1 hbs
        simp only [go_sem]
        refine awp_dregE follows (by decide +kernel) (by kernel_rfl) fun K hK => ?_
        simp only [go_sem, b00, Bool.and_self, Bool.and_true, eq_self, if_true, ite_true, List.nil_append, List.getD_cons_zero]
        (try simp (disch := omega) only [wrapI])
        repeat first | intro _ | refine ⟨(by omega), ?_⟩ | refine ⟨⟨by omega, by omega⟩, ?_⟩
        refine hK _ ?_
        clear hK K
        refine awp_sub (sub_shut 31 rfl) ?_
        simp only [go_sem]
        refine awp_sub (sub_keep [0, 1, 6, 8, 32, 33, 34]) ?_
        simp only [go_sem]
        repeat refine awp_seq ?_
        refine awp_reg (by kernel_rfl) fun K hK => ?_
        simp only [go_sem]
        (try simp (disch := omega) only [wrapI])
        repeat first | intro _ | refine ⟨(by omega), ?_⟩ | refine ⟨⟨by omega, by omega⟩, ?_⟩
        refine hK _ ?_
        clear hK K
        try simp only [go_sem]
        refine ⟨hci, fit_of [10] ?_ ?_⟩
        · try simp only [go_sem]
        · try simp only [go_sem]
          simp [fineM, fineAt]
    · refine awp_exit ?_
      simp only [go_sem]
      have : i = 4 := by omega
      subst this
      repeat refine awp_seq ?_
      refine awp_reg (by kernel_rfl) fun K hK => ?_
      simp only [go_sem]
      (try simp (disch := omega) only [wrapI])
      repeat first | intro _ | refine ⟨(by omega), ?_⟩ | refine ⟨⟨by omega, by omega⟩, ?_⟩
      refine hK _ ?_
      clear hK K
      refine awp_ret ?_
      simp only [go_sem]
      rfl
theorem pubPurse_ok : ACalls Try.prog 14 [] (.bo true) := by
  have hs := share_ok 100 [5, 3, 0] (by omega) (by simp) (fun w hw => by
    simp only [List.mem_cons, List.mem_singleton, List.not_mem_nil, or_false] at hw
    rcases hw with rfl | rfl | rfl <;> omega) (by decide)
  have e : shareL 100 [5, 3, 0] = [63, 37, 0] := by decide
  rw [e] at hs
  refine acalls_st (rs := [.bo true]) [.tmp 0] Try.func14 rfl (by kernel_rfl) Try.ntmps14 rfl (by simp) rfl fun C vs => ?_
  repeat refine awp_seq ?_
  refine awp_reg (by kernel_rfl) fun K hK => ?_
  simp only [go_sem]
  (try simp (disch := omega) only [wrapI])
  repeat first | intro _ | refine ⟨(by omega), ?_⟩ | refine ⟨⟨by omega, by omega⟩, ?_⟩
  refine hK _ ?_
  clear hK K
  repeat refine awp_seq ?_
  refine awp_reg (by kernel_rfl) fun K hK => ?_
  simp only [go_sem]
  (try simp (disch := omega) only [wrapI])
  refine xcall_eq (hs) rfl (by simp only [go_sem, i64, ints]) (by simp only [go_sem, i64, ints]) (by first | exact .inl rfl | exact .inr rfl) ?_
  (try simp only [go_sem])
  (try simp (disch := omega) only [wrapI])
  repeat first | intro _ | refine ⟨(by omega), ?_⟩ | refine ⟨⟨by omega, by omega⟩, ?_⟩
  refine hK _ ?_
  clear hK K
  refine awp_sub (sub_keep [1, 2]) ?_
  simp only [go_sem]
  repeat refine awp_seq ?_
  refine awp_long ?_
  refine sops_take 3 (by kernel_rfl) fun K hK => ?_
  simp only [go_sem, List.take_succ_cons, List.take_zero, List.drop_succ_cons, List.drop_zero, List.append_eq, List.cons_append, List.nil_append]
  (try simp (disch := omega) only [wrapI])
  repeat first | intro _ | refine ⟨(by omega), ?_⟩ | refine ⟨⟨by omega, by omega⟩, ?_⟩
  refine hK _ rfl ?_
  clear hK K
  refine sops_sub (sub_frz (ty := 141) (sz := 2) (off := 0) (m := 4) (es := zz) 13 13 (by omega) rfl rfl (by simp)) ?_
  simp only [go_sem]
  refine sops_end (by kernel_rfl) fun K hK => ?_
  simp only [go_sem, List.drop_succ_cons, List.drop_zero, List.append_eq, List.cons_append, List.nil_append]
  (try simp (disch := omega) only [wrapI])
  refine xcall_eq (fines_ok) rfl (by simp only [go_sem, i64, ints]) (by simp only [go_sem, i64, ints]) (by first | exact .inl rfl | exact .inr rfl) ?_
  (try simp only [go_sem])
  (try simp (disch := omega) only [wrapI])
  repeat first | intro _ | refine ⟨(by omega), ?_⟩ | refine ⟨⟨by omega, by omega⟩, ?_⟩
  refine hK _ ?_
  clear hK K
  refine awp_sub (sub_keep [1, 2, 3, 4]) ?_
  simp only [go_sem]
  repeat refine awp_seq ?_
  refine awp_reg (by kernel_rfl) fun K hK => ?_
  simp only [go_sem]
  (try simp (disch := omega) only [wrapI])
  repeat first | intro _ | refine ⟨(by omega), ?_⟩ | refine ⟨⟨by omega, by omega⟩, ?_⟩
  refine hK _ ?_
  clear hK K
  refine awp_ret ?_
  simp only [go_sem]
end Go.Proofs.Ytaniakoadbkadaa

/- A slice literal that may be appended to: a row of its own. -/
namespace Go.Oc
open Go Go.RowKit
set_option linter.unusedVariables false
set_option linter.unusedSimpArgs false
/-- A slice literal as an own row. -/
def sBuildOwn (P : Program) (s : AS) (d : Nat) (t : TypeId) (len : Nat) (parts : List (Nat × AV)) : Res :=
  match tyq P t with
  | some ⟨.slice e esz _ ez, _, _, _⟩ =>
    if len = 0 then .bad else
    match layE s.ver esz (List.replicate len ez) parts with
    | some es => ⟨0 < esz ∧ len * esz ≤ 16777216 ∧ d < 1000, True, ⟨.os d ((s.rows d).ver + 1) esz 0 len, [(d, ⟨(s.rows d).ver + 1, .arr e esz es⟩)]⟩⟩
    | none => .bad
  | _ => .bad
section
variable {P : Program} {C : Ctx} {p : Plan} {s : AS} {a : Act} {w : World} {o : Oper}
theorem good_buildOwn {t : TypeId} {n : Nat} {ps : Array (Nat × Operand)} (h : SR C p s a w) (ho : o.op = .buildSlice t n ps) (hp : (sBuildOwn P s (o.dst.getD 0) t n (ps.toList.map fun (i, x) => (i, s.ev x))).pre) :
    Done P C o s a w (sBuildOwn P s (o.dst.getD 0) t n (ps.toList.map fun (i, x) => (i, s.ev x))) := by
  have hparts := parts_rel h ps.toList
  unfold sBuildOwn at hp ⊢
  split at hp
  · rename_i e esz eb ez sz agg z e1
    obtain ⟨hu, hok, hsz, _, zv, hzv, hez⟩ := tyq_slice e1
    subst hsz
    obtain ⟨i, zval, hi, hzero, hcells, hz1, hzl⟩ := zeroOf_spec hzv
    split at hp
    · exact hp.elim
    · rename_i hn0
      rw [if_neg hn0]
      split at hp
      · rename_i es hlay
        obtain ⟨hpos, hmax, hd⟩ : 0 < P.cellsOf e ∧ n * P.cellsOf e ≤ 16777216 ∧ o.dst.getD 0 < 1000 := hp
        have hzc : zval.cells.size = P.cellsOf e := by rw [← hzl, ← hcells]; simp
        obtain ⟨cells', hf, hle, hl', hr, hr1⟩ := layE_rel (p := p) (w := w) _ (ps.toList.map fun x => (x.1, a.eval x.2)) _ _ (madeCells zval.cells (n * P.cellsOf e)) hlay
          (by intro e he; rw [List.eq_of_mem_replicate he, hez, List.length_map, hzl])
          (by
            rw [← hzc, madeCells_list, hcells, hez]
            clear hlay hn0 ho hmax
            induction n with
            | zero => simp [RV.relV]
            | succ n ih =>
              simp only [List.replicate_succ, List.flatten_cons]
              exact RV.relV_append (RV.relV_ofV1 w p.R zv) ih)
          (by
            rw [← hzc, madeCells_list, hcells]
            intro u hu
            obtain ⟨l, hl, hul⟩ := List.mem_flatten.1 hu
            rw [List.eq_of_mem_replicate hl] at hul
            exact hz1 u hul)
          hparts.1 hparts.2
        have hnl : es.length = n := by rw [hle]; simp
        have hcl : cells'.size = n * P.cellsOf e := by
          rw [← Array.length_toList, RV.relV_length hr]
          have : ∀ (es : List (List RV)), (∀ x ∈ es, x.length = P.cellsOf e) → es.flatten.length = es.length * P.cellsOf e := by
            intro es
            induction es with
            | nil => simp
            | cons x es ih =>
              intro h
              rw [List.flatten_cons, List.length_append, ih fun y hy => h y (by simp [hy]), h x (by simp), List.length_cons, Nat.add_mul]
              omega
          rw [this es hl', hnl]
        have hnm : n ≤ 16777216 := Nat.le_trans (Nat.le_mul_of_pos_right n hpos) hmax
        have hn := h.newRow (o.dst.getD 0) hd (.arr e (P.cellsOf e) es) rfl n (by simp only [maxLen]; omega) (.cells cells' e) (fun p' ver' hR hβ hγ hk => by
          simp only [rowRel]
          rw [hγ]
          refine .inr ⟨_, _, hβ, heap_alloc_new w _, hcl, by rw [hnl]; exact Nat.le_refl _, ?_⟩
          rw [hR]
          have hV : RV.relV (w.alloc (.cells cells' e)) p.R es.flatten cells'.toList :=
            RV.relV_mono (fun _ h => h) (fun ad hr => World.cell?_alloc_lt w _ ad (h.rb _ hr)) _ _ hr
          refine relE_of_vals hl' hV hr1 (fun j u hj => ?_)
          rw [add_at]
          simp only [Nat.zero_add, World.cell?_alloc_new]
          simpa using hj)
        refine ⟨_, .slice (some ⟨w.heap.size, 0, none⟩) n n, _, _, ?_, .inl rfl, trivial, by rw [rows_one]; exact hn, ?_⟩
        · have hmap : (ps.map fun (x : Nat × Operand) => (x.1, a.eval x.2)).toList = ps.toList.map fun x => (x.1, a.eval x.2) := by simp
          have hne : ¬ (n * P.cellsOf e = 0) := by
            have := Nat.mul_pos (show 0 < n by omega) hpos
            omega
          have hz : (zeroValue e).run P w = .ok zval w := by simp [zeroValue, typeInfo, hi, hzero]
          have hf' := hf
          simp only [madeCells] at hf'
          simp only [execOp, ho, Instr.buildSlice, Sem.run_bind, run_underlying hu, Result.andThen_ok, run_sizeOf_ok hok, if_neg (show ¬ (n * P.cellsOf e > 2 ^ 24) by omega), if_neg hne, hz, Sem.run_pure, hmap, hf']
          simp [newRow]
        · rw [rows_one]
          simp only [AV.rel, vers, upd_same]
          exact ⟨Nat.le_refl _, fun _ => .inr ⟨_, _, rfl, by simp; rfl, by omega, fun _ => by simp⟩⟩
      · exact hp.elim
  · exact hp.elim
variable {Q : Exit → AS → Prop} {ops : Array Oper}
/-- The next operation of a region is a slice literal: it gets a row of its own. -/
theorem sops_own {l : List Oper} {t : TypeId} {n : Nat} {ps : List (Nat × Operand)} {d : Nat} {ty : TypeId} {pos : String} {af : Array Edge} (hdn : d < s.n)
    (h : aR s (some d) (sBuildOwn P s d t n (evp s ps)) (fun s' => sops P C ops l Q s')) : sops P C ops (⟨some d, .buildSlice t n ps.toArray, ty, pos, af, none⟩ :: l) Q s := fun a w ⟨p, hs⟩ => by
  rw [← evp_eq] at h
  unfold wpListIn
  rw [if_pos (wantA_sound hs (by simp [wantA]))]
  refine wpIn_of_wp (by intro c h; cases h) ?_
  obtain ⟨nx, v, w', p', hrun, hnx, hass, hSR, hrel⟩ := good_buildOwn (o := ⟨some d, .buildSlice t n ps.toArray, ty, pos, af, none⟩) hs rfl h.1
  unfold Oper.wp
  rw [hrun]
  have hput := hSR.put' (d := some d) hrel (fun t ht => by injection ht with ht; subst ht; exact hdn)
  rcases hnx with rfl | ⟨rfl, rfl⟩
  · exact h.2 hass _ _ ⟨p', hput⟩
  · exact h.2 hass _ _ ⟨p', hput⟩
end
end Go.Oc

/- The law of the prizes of a knock-out returns true. -/
namespace Go.Proofs.Ytaniakoadbkadaa
open Go Go.Oc
set_option linter.unusedSimpArgs false
set_option linter.unusedVariables false
set_option maxRecDepth 8000
set_option maxHeartbeats 4000000
theorem prefixK {n j : Nat} (hb : ∀ i, i < j → 1 < (stK n i).1) (h : 1 < (stK n j).1) : ∀ i, i < j + 1 → 1 < (stK n i).1 := fun i hi => by
  rcases Nat.lt_succ_iff_lt_or_eq.1 hi with h1 | rfl
  · exact hb i h1
  · exact h
theorem stK_len (n : Nat) : ∀ j, (stK n j).2.length = j
  | 0 => rfl
  | j + 1 => by simp only [stK, List.length_cons, stK_len n j]
theorem stK_six {n j : Nat} (h2 : n ≤ 40) (hb : ∀ i, i < j → 1 < (stK n i).1) : j ≤ 6 := by
  by_cases h : j ≤ 6
  · exact h
  · have a1 := List.all_eq_true.1 end6 n (List.mem_range.2 (by omega))
    have a2 := hb 6 (by omega)
    simp only [decide_eq_true_eq] at a1
    omega
theorem law6 (g tk : Int) (hg : 0 ≤ g ∧ g ≤ 255) (htk : 0 ≤ tk ∧ tk ≤ 4294967295) : ACalls Try.prog 4 [.it .u8 g, .it .u32 tk] (.bo true) := by
  obtain ⟨n, hn⟩ : ∃ n : Nat, 2 + g % 39 = (n : Int) := ⟨(2 + g % 39).toNat, by omega⟩
  have hn1 : 2 ≤ n := by omega
  have hn2 : n ≤ 40 := by omega
  have tg : Int.tmod g 39 = g % 39 := Int.tmod_eq_emod_of_nonneg hg.1
  have hn' : 2 + Int.tmod g 39 = (n : Int) := by rw [tg]; exact hn
  have tt : Int.tmod tk 1000000001 = tk % 1000000001 := Int.tmod_eq_emod_of_nonneg htk.1
  obtain ⟨m, hm⟩ : ∃ m, m = tk % 1000000001 := ⟨_, rfl⟩
  have hm1 : 0 ≤ m ∧ m ≤ 1000000000 := by omega
  have hm' : Int.tmod tk 1000000001 = m := by rw [tt, hm]
  have hk := knock_ok (n : Int)
  rw [knockL_of hn1 (by omega)] at hk
  refine acalls_st (rs := [.bo true]) [.tmp 4] Try.func4 rfl (by kernel_rfl) Try.ntmps4 rfl (by simp) rfl fun C vs => ?_
  repeat refine awp_seq ?_
  refine awp_reg (by kernel_rfl) fun K hK => ?_
  simp only [go_sem]
  (try simp (disch := omega) only [wrapI])
  repeat first | intro _ | refine ⟨(by omega), ?_⟩ | refine ⟨⟨by omega, by omega⟩, ?_⟩
  refine hK _ ?_
  clear hK K
  refine awp_sub (sub_keep [0, 1]) ?_
  simp only [go_sem]
  repeat refine awp_seq ?_
  refine awp_reg (by kernel_rfl) fun K hK => ?_
  simp only [go_sem]
  (try simp (disch := omega) only [wrapI])
  repeat first | intro _ | refine ⟨(by omega), ?_⟩ | refine ⟨⟨by omega, by omega⟩, ?_⟩
  refine hK _ ?_
  clear hK K
  simp only [hn']
  refine awp_sub (sub_keep [1, 5]) ?_
  simp only [go_sem]
  repeat refine awp_seq ?_
  refine awp_reg (by kernel_rfl) fun K hK => ?_
  simp only [go_sem]
  (try simp (disch := omega) only [wrapI])
  refine xcall_eq (hk) rfl (by simp only [go_sem, i64, ints]) (by simp only [go_sem, i64, ints]) (by first | exact .inl rfl | exact .inr rfl) ?_
  (try simp only [go_sem])
  (try simp (disch := omega) only [wrapI])
  repeat first | intro _ | refine ⟨(by omega), ?_⟩ | refine ⟨⟨by omega, by omega⟩, ?_⟩
  refine hK _ ?_
  clear hK K
  refine awp_sub (sub_keep [1, 5, 6, 7]) ?_
  simp only [go_sem]
  repeat refine awp_seq ?_
  refine awp_reg (by kernel_rfl) fun K hK => ?_
  simp only [go_sem, bne_self_eq_false]
  (try simp (disch := omega) only [wrapI])
  repeat first | intro _ | refine ⟨(by omega), ?_⟩ | refine ⟨⟨by omega, by omega⟩, ?_⟩
  refine hK _ ?_
  clear hK K
  refine awp_sub (sub_keep [1, 5, 6, 30]) ?_
  simp only [go_sem]
  repeat refine awp_seq ?_
  refine awp_cond rfl (fun hc => ?_) (fun hc => ?_) <;> (try simp only [go_sem] at hc)
  refine awp_skip ?_
  try simp only [go_sem]
  repeat refine awp_seq ?_
  refine awp_reg (by kernel_rfl) fun K hK => ?_
  simp only [go_sem]
  (try simp (disch := omega) only [wrapI])
  repeat first | intro _ | refine ⟨(by omega), ?_⟩ | refine ⟨⟨by omega, by omega⟩, ?_⟩
  refine hK _ ?_
  clear hK K
  refine awp_sub (sub_keep [1, 5, 6, 8, 9]) ?_
  simp only [go_sem]
  repeat refine awp_seq ?_
  refine awp_block ?_
  refine awp_sub (sub_own 8 79 34 1 (by omega) rfl) ?_
  refine awp_sub (sub_frz (ty := 34) (sz := 1) (off := 0) (m := 0) (es := []) 8 79 (by omega) rfl rfl (by simp)) ?_
  refine awp_while (n := 204) (fun (y : Nat × List (Int × Int)) vs => [(1, .r (.it .u32 tk)), (5, .r (i64 n)), (6, .r (pairs y.2)), (8, .r (listsR (stK n y.1).2)), (9, .r (i64 (stK n y.1).1))])
    (fun _ => []) (fun y => (stK n y.1).1 ≤ 64 ∧ 1 ≤ (stK n y.1).1 ∧ (1 < (stK n y.1).1 → y.2 = pairsUp (stK n y.1).1 (halfOf (stK n y.1).1) (halfOf (stK n y.1).1)) ∧ ∀ i, i < y.1 → 1 < (stK n i).1) (fun y => (stK n y.1).1) (0, pairsUp n (halfOf n) (halfOf n)) (fit_of [] ?_ rfl) ?_ ?_
  · try simp only [go_sem]
    simp [stK]
  · simp only [stK]
    refine ⟨by omega, by omega, by simp, by simp⟩
  · rintro ⟨j, ps⟩ vs ⟨hj1, hj0, hj2, hj3⟩
    simp only at hj0 hj1 hj2 hj3
    have hst : stK n (j + 1) = (halfOf (stK n j).1, outL (stK n j).1 :: (stK n j).2) := rfl
    have hgood := fun h => good_at hn1 hn2 (j := j) h hj3
    have hpre := prefixK hj3
    have hpl6 : (stK n j).2.length ≤ 6 := by rw [stK_len]; exact stK_six hn2 hj3
    generalize hs : stK n j = s at *
    obtain ⟨M, pl⟩ := s
    simp only at hst hj0 hj1 hj2 hgood hpre hpl6 ⊢
    repeat refine awp_seq ?_
    refine awp_reg (by kernel_rfl) fun K hK => ?_
    simp only [go_sem]
    (try simp (disch := omega) only [wrapI])
    repeat first | intro _ | refine ⟨(by omega), ?_⟩ | refine ⟨⟨by omega, by omega⟩, ?_⟩
    refine hK _ ?_
    clear hK K
    refine awp_sub (sub_keep [1, 5, 6, 8, 9, 34]) ?_
    simp only [go_sem]
    repeat refine awp_seq ?_
    refine awp_cond rfl (fun hc => ?_) (fun hc => ?_) <;> (try simp only [go_sem] at hc)
    · have hM : 1 < M := by omega
      obtain ⟨hh1, hh2, hh3⟩ := half_lt (show 2 ≤ M by omega)
      rw [hj2 hM]
      have hout : outL M = outU M (halfOf M) (halfOf M) := rfl
      generalize hhe : halfOf M = h at *
      refine awp_skip ?_
      try simp only [go_sem]
      repeat refine awp_seq ?_
      refine awp_block ?_
      repeat refine awp_seq ?_
      refine awp_reg (by kernel_rfl) fun K hK => ?_
      simp only [go_sem]
      (try simp (disch := omega) only [wrapI])
      repeat first | intro _ | refine ⟨(by omega), ?_⟩ | refine ⟨⟨by omega, by omega⟩, ?_⟩
      refine hK _ ?_
      clear hK K
      refine awp_sub (sub_keep [1, 5, 6, 8, 9, 10, 11]) ?_
      simp only [go_sem]
      repeat refine awp_seq ?_
      refine awp_reg (by kernel_rfl) fun K hK => ?_
      simp only [go_sem]
      (try simp (disch := omega) only [wrapI])
      repeat first | intro _ | refine ⟨(by omega), ?_⟩ | refine ⟨⟨by omega, by omega⟩, ?_⟩
      refine hK _ ?_
      clear hK K
      refine awp_sub (sub_keep [1, 5, 6, 8, 9, 10, 11, 12]) ?_
      simp only [go_sem]
      repeat refine awp_seq ?_
      refine awp_block ?_
      refine awp_sub (sub_own 10 64 3 1 (by omega) rfl) ?_
      refine awp_upto (n := 204) h (fun i vs => [(1, .r (.it .u32 tk)), (5, .r (i64 n)), (6, .r (pairs (pairsUp M h h))), (8, .r (listsR pl)), (9, .r (i64 M)), (10, .os 64 (vs 64) 1 0 (outU M h i).length), (11, .r (i64 i)), (12, .r (i64 i))])
        (fun i => [(64, .arr 3 1 ((outU M h i).map fun x => [i64 x]))]) (fun _ => True) 0 (fit_of [] ?_ ?_) (Nat.zero_le _) trivial ?_
      · try simp only [go_sem]
        simp [outU]
      · try simp only [go_sem]
        simp [outU]
      · intro i vs hi _
        have hul := outU_len hh1 hh2 i hi
        repeat refine awp_seq ?_
        refine awp_reg (by kernel_rfl) fun K hK => ?_
        simp only [go_sem, pairsUp_length]
        (try simp (disch := omega) only [wrapI])
        intros
        repeat first | intro _ | refine ⟨(by omega), ?_⟩ | refine ⟨⟨by omega, by omega⟩, ?_⟩
        refine hK _ ?_
        clear hK K
        refine awp_sub (sub_keep [1, 5, 6, 8, 9, 10, 11, 12, 39]) ?_
        simp only [go_sem]
        repeat refine awp_seq ?_
        refine awp_cond rfl (fun hc => ?_) (fun hc => ?_) <;> (try simp only [go_sem] at hc)
        · have hci : i < h := by first | exact hc | omega
          have hx : (pairsUp M h h)[i]? = some (pairAt M h i) := by simp [pairsUp, hci]
          have hcl : i < (pairsUp M h h).length := by rw [pairsUp_length]; exact hci
          have hus := outU_snoc M h i
          by_cases hge : 2 * h - 1 - i < M
          · have hpa : pairAt M h i = ((i : Int), ((2 * h - 1 - i : Nat) : Int)) := by
              simp only [pairAt, if_neg (show ¬ M ≤ 2 * h - 1 - i by omega)]
            rw [hpa] at hx
            rw [if_pos hge] at hus
            generalize 2 * h - 1 - i = q at *
            refine awp_skip ?_
            try simp only [go_sem]
            repeat refine awp_seq ?_
            refine awp_block ?_
            repeat refine awp_seq ?_
            refine awp_reg (by kernel_rfl) fun K hK => ?_
            simp only [go_sem, hx, hcl, bne_self_eq_false]
            (try simp (disch := omega) only [wrapI])
            repeat first | intro _ | refine ⟨(by omega), ?_⟩ | refine ⟨⟨by omega, by omega⟩, ?_⟩
            refine hK _ ?_
            clear hK K
            refine awp_sub (sub_keep [1, 5, 6, 8, 9, 10, 11, 12, 48]) ?_
            simp only [go_sem]
            repeat refine awp_seq ?_
            refine awp_cond rfl (fun hc => ?_) (fun hc => ?_) <;> (try simp only [go_sem] at hc)
            refine awp_skip ?_
            try simp only [go_sem]
            repeat refine awp_seq ?_
            refine awp_reg (by kernel_rfl) fun K hK => ?_
            simp only [go_sem]
            (try simp (disch := omega) only [wrapI])
            repeat first | intro _ | refine ⟨(by omega), ?_⟩ | refine ⟨⟨by omega, by omega⟩, ?_⟩
            refine hK _ ?_
            clear hK K
            refine awp_sub (sub_keep [1, 5, 6, 8, 9, 10, 11, 12]) ?_
            simp only [go_sem]
            repeat refine awp_seq ?_
            refine awp_reg (by kernel_rfl) fun K hK => ?_
            simp only [go_sem, hx, hcl]
            (try simp (disch := omega) only [wrapI])
            repeat first | intro _ | refine ⟨(by omega), ?_⟩ | refine ⟨⟨by omega, by omega⟩, ?_⟩
            refine hK _ ?_
            clear hK K
            refine awp_sub (sub_keep [1, 5, 6, 8, 9, 10, 11, 12, 56]) ?_
            simp only [go_sem]
            repeat refine awp_seq ?_
            refine awp_cond rfl (fun hc => ?_) (fun hc => ?_) <;> (try simp only [go_sem] at hc)
            repeat refine awp_seq ?_
            refine awp_reg (by kernel_rfl) fun K hK => ?_
            simp only [go_sem, hx, hcl]
            (try simp (disch := omega) only [wrapI])
            refine ⟨⟨by omega, by omega⟩, ?_⟩
            repeat first | intro _ | refine ⟨(by omega), ?_⟩ | refine ⟨⟨by omega, by omega⟩, ?_⟩
            refine hK _ ?_
            clear hK K
            refine awp_sub (sub_keep [1, 5, 6, 8, 9, 10, 11, 12]) ?_
            simp only [go_sem]
            repeat refine awp_seq ?_
            refine awp_reg (by kernel_rfl) fun K hK => ?_
            simp only [go_sem]
            (try simp (disch := omega) only [wrapI])
            repeat first | intro _ | refine ⟨(by omega), ?_⟩ | refine ⟨⟨by omega, by omega⟩, ?_⟩
            refine hK _ ?_
            clear hK K
            try simp only [go_sem]
            refine ⟨hci, fit_of [] ?_ ?_⟩
            · try simp only [go_sem]
              rw [hus]
              simp
            · try simp only [go_sem]
              rw [hus]
              simp
          · have hpa : pairAt M h i = ((i : Int), -1) := by
              simp only [pairAt, if_pos (show M ≤ 2 * h - 1 - i by omega)]
            rw [hpa] at hx
            rw [if_neg hge] at hus
            refine awp_skip ?_
            try simp only [go_sem]
            repeat refine awp_seq ?_
            refine awp_block ?_
            repeat refine awp_seq ?_
            refine awp_reg (by kernel_rfl) fun K hK => ?_
            simp only [go_sem, hx, hcl, bne_self_eq_false]
            (try simp (disch := omega) only [wrapI])
            repeat first | intro _ | refine ⟨(by omega), ?_⟩ | refine ⟨⟨by omega, by omega⟩, ?_⟩
            refine hK _ ?_
            clear hK K
            refine awp_sub (sub_keep [1, 5, 6, 8, 9, 10, 11, 12, 48]) ?_
            simp only [go_sem]
            repeat refine awp_seq ?_
            refine awp_cond rfl (fun hc => ?_) (fun hc => ?_) <;> (try simp only [go_sem] at hc)
            refine awp_skip ?_
            try simp only [go_sem]
            repeat refine awp_seq ?_
            refine awp_reg (by kernel_rfl) fun K hK => ?_
            simp only [go_sem]
            (try simp (disch := omega) only [wrapI])
            repeat first | intro _ | refine ⟨(by omega), ?_⟩ | refine ⟨⟨by omega, by omega⟩, ?_⟩
            refine hK _ ?_
            clear hK K
            refine awp_sub (sub_keep [1, 5, 6, 8, 9, 10, 11, 12]) ?_
            simp only [go_sem]
            repeat refine awp_seq ?_
            refine awp_reg (by kernel_rfl) fun K hK => ?_
            simp only [go_sem, hx, hcl]
            (try simp (disch := omega) only [wrapI])
            repeat first | intro _ | refine ⟨(by omega), ?_⟩ | refine ⟨⟨by omega, by omega⟩, ?_⟩
            refine hK _ ?_
            clear hK K
            refine awp_sub (sub_keep [1, 5, 6, 8, 9, 10, 11, 12, 56]) ?_
            simp only [go_sem]
            repeat refine awp_seq ?_
            refine awp_cond rfl (fun hc => ?_) (fun hc => ?_) <;> (try simp only [go_sem] at hc)
            refine awp_skip ?_
            try simp only [go_sem]
            repeat refine awp_seq ?_
            refine awp_reg (by kernel_rfl) fun K hK => ?_
            simp only [go_sem]
            (try simp (disch := omega) only [wrapI])
            repeat first | intro _ | refine ⟨(by omega), ?_⟩ | refine ⟨⟨by omega, by omega⟩, ?_⟩
            refine hK _ ?_
            clear hK K
            try simp only [go_sem]
            refine ⟨hci, fit_of [] ?_ ?_⟩
            · try simp only [go_sem]
              rw [hus]
            · try simp only [go_sem]
              rw [hus]
        · have hih : i = h := by omega
          subst hih
          rw [← hout]
          rw [← hout] at hul
          have hol : (outL M).length = M - i := by omega
          have c1 : ((i : Int) + ((outL M).length : Int) != (M : Int)) = false := by
            have : (i : Int) + ((outL M).length : Int) = M := by omega
            simp [this]
          have c2 : (((outL M).length : Int) == 0) = false := by
            have : ((outL M).length : Int) ≠ 0 := by omega
            simpa using this
          have c3 : IntKind.i64.wrap ((i : Int) + ((outL M).length : Int)) = (i : Int) + ((outL M).length : Int) := by rw [wrapI] <;> omega
          refine awp_exit ?_
          simp only [go_sem]
          refine awp_sub (sub_frz (ty := 3) (sz := 1) (off := 0) (m := (outL M).length) (es := (outL M).map fun x => [i64 x]) 10 64 (by omega) rfl rfl (by simp)) ?_
          have tke : List.take (outL M).length ((outL M).map fun x => [i64 x]) = (outL M).map fun x => [i64 x] := List.take_of_length_le (by simp)
          simp only [List.drop_zero, tke]
          repeat refine awp_seq ?_
          refine awp_reg (by kernel_rfl) fun K hK => ?_
          simp only [go_sem, c1, c2, c3]
          (try simp (disch := omega) only [wrapI])
          intros
          repeat first | intro _ | refine ⟨(by omega), ?_⟩ | refine ⟨⟨by omega, by omega⟩, ?_⟩
          refine hK _ ?_
          clear hK K
          try simp only [c1, c2, c3]
          refine awp_sub (sub_keep [1, 5, 6, 8, 10, 11, 75]) ?_
          simp only [go_sem]
          repeat refine awp_seq ?_
          refine awp_cond rfl (fun hc => ?_) (fun hc => ?_) <;> (try simp only [go_sem] at hc)
          refine awp_skip ?_
          try simp only [go_sem]
          repeat refine awp_seq ?_
          refine awp_long ?_
          refine sops_take 1 (by kernel_rfl) fun K hK => ?_
          simp only [go_sem, List.take_succ_cons, List.take_zero, List.drop_succ_cons, List.drop_zero, List.append_eq, List.cons_append, List.nil_append]
          (try simp (disch := omega) only [wrapI])
          repeat first | intro _ | refine ⟨(by omega), ?_⟩ | refine ⟨⟨by omega, by omega⟩, ?_⟩
          refine hK _ rfl ?_
          clear hK K
          refine sops_own (by simp [go_sem]) ?_
          simp only [go_sem, sBuildOwn]
          repeat first | refine ⟨(by omega), ?_⟩ | refine ⟨⟨by omega, by omega⟩, ?_⟩
          refine sops_end (by kernel_rfl) fun K hK => ?_
          simp only [go_sem, List.drop_succ_cons, List.drop_zero, List.append_eq, List.cons_append, List.nil_append]
          (try simp (disch := omega) only [wrapI])
          refine ⟨⟨by omega, by omega⟩, ?_⟩
          repeat first | intro _ | refine ⟨(by omega), ?_⟩ | refine ⟨⟨by omega, by omega⟩, ?_⟩
          refine hK _ ?_
          clear hK K
          refine awp_sub (sub_keep [1, 5, 6, 8, 9]) ?_
          simp only [go_sem]
          refine awp_sub (sub_frz (ty := 34) (sz := 1) (off := 0) (m := 1 + pl.length) (es := (outL M :: pl).map fun x => [ints x]) 8 77 (by omega) rfl rfl (by simp; omega)) ?_
          have tke2 : List.take (1 + pl.length) ((outL M :: pl).map fun x => [ints x]) = (outL M :: pl).map fun x => [ints x] := List.take_of_length_le (by simp; omega)
          simp only [List.drop_zero, tke2]
          repeat refine awp_seq ?_
          refine awp_reg (by kernel_rfl) fun K hK => ?_
          simp only [go_sem]
          (try simp (disch := omega) only [wrapI])
          repeat first | intro _ | refine ⟨(by omega), ?_⟩ | refine ⟨⟨by omega, by omega⟩, ?_⟩
          refine hK _ ?_
          clear hK K
          refine awp_sub (sub_keep [1, 5, 6, 8, 9, 82]) ?_
          simp only [go_sem]
          repeat refine awp_seq ?_
          refine awp_cond rfl (fun hc => ?_) (fun hc => ?_) <;> (try simp only [go_sem] at hc)
          · have hi2 : 2 ≤ i := by omega
            have hk2 := knock_ok (i : Int)
            rw [knockL_of hi2 (by omega)] at hk2
            repeat refine awp_seq ?_
            refine awp_reg (by kernel_rfl) fun K hK => ?_
            simp only [go_sem]
            (try simp (disch := omega) only [wrapI])
            refine xcall_eq (hk2) rfl (by simp only [go_sem, i64, ints]) (by simp only [go_sem, i64, ints]) (by first | exact .inl rfl | exact .inr rfl) ?_
            (try simp only [go_sem])
            (try simp (disch := omega) only [wrapI])
            repeat first | intro _ | refine ⟨(by omega), ?_⟩ | refine ⟨⟨by omega, by omega⟩, ?_⟩
            refine hK _ ?_
            clear hK K
            refine awp_sub (sub_keep [1, 5, 6, 7, 8, 9]) ?_
            simp only [go_sem]
            repeat refine awp_seq ?_
            refine awp_reg (by kernel_rfl) fun K hK => ?_
            simp only [go_sem, bne_self_eq_false]
            (try simp (disch := omega) only [wrapI])
            repeat first | intro _ | refine ⟨(by omega), ?_⟩ | refine ⟨⟨by omega, by omega⟩, ?_⟩
            refine hK _ ?_
            clear hK K
            refine awp_sub (sub_keep [1, 5, 6, 8, 9, 89]) ?_
            simp only [go_sem]
            repeat refine awp_seq ?_
            refine awp_cond rfl (fun hc => ?_) (fun hc => ?_) <;> (try simp only [go_sem] at hc)
            refine awp_skip ?_
            try simp only [go_sem]
            refine ⟨(j + 1, pairsUp i (halfOf i) (halfOf i)), ?_, ?_, fit_of [] ?_ rfl⟩
            · simp only [hst]
              exact ⟨by omega, by omega, by simp, hpre hM⟩
            · simp only [hst, hs]
              exact hh1
            · try simp only [go_sem]
              simp [hst]
          · refine awp_skip ?_
            try simp only [go_sem]
            refine ⟨(j + 1, pairsUp M i i), ?_, ?_, fit_of [] ?_ rfl⟩
            · simp only [hst]
              exact ⟨by omega, by omega, fun h => by omega, hpre hM⟩
            · simp only [hst, hs]
              exact hh1
            · try simp only [go_sem]
              simp [hst]
    · have hM : M ≤ 1 := by omega
      have hgd := hgood hM
      obtain ⟨k1, k2, k3, k4, k5⟩ := goodK_facts ⟨hn1, hn2⟩ hm1 hgd
      have hpr := prizes_ok m n shK ([0] :: pl) hm1 k1
      rw [k2, k3] at hpr
      obtain ⟨pz, hpz⟩ : ∃ pz, pz = (shN n).map (shv m) := ⟨_, rfl⟩
      rw [← hpz] at hpr k4
      have hpl : pz.length = n := by rw [hpz]; simp [shN]
      have hpg : ∀ p : Nat, p < n → pz[p]? = some (shv m (shK.getD p 0)) := fun p hp => by
        rw [hpz]
        simp [shN, hp]
      have hpb : ∀ x ∈ pz, 0 ≤ x ∧ x ≤ 100000000000000 := fun x hx => by
        rw [hpz] at hx
        obtain ⟨s, hs1, rfl⟩ := List.mem_map.1 hx
        obtain ⟨i, _, rfl⟩ := List.mem_map.1 hs1
        have := prz_le hm1 (show ∀ s ∈ shK, 0 ≤ s ∧ s ≤ 1000 by decide) i
        simp only [prz] at this
        simp only [shv]
        omega
      have hp0 : pz[0]? = some (shv m 400) := hpg 0 (by omega)
      have hnp : 0 < pz.length := by omega
      have hshn : ∀ p : Int, 0 ≤ p ∧ p < n → pz[p.toNat]? = some (shv m (shK.getD p.toNat 0)) := fun p hp => hpg p.toNat (by omega)
      have hsb := psum_le 100000000000000 pz hpb
      have q1 : (pz.sum + (m - pz.sum) != m) = false := by
        have : pz.sum + (m - pz.sum) = m := by omega
        rw [this, bne_self_eq_false]
      have q2 : decide (m - pz.sum < 0) = false := by simp; omega
      have q3 : Int.tdiv (m * 400) 1000 = shv m 400 := Int.tdiv_eq_ediv_of_nonneg (by omega)
      have q4 : ((n : Int) != (n : Int)) = false := bne_self_eq_false _
      have hpsl := k1.psl
      have hps : ([0] :: pl).length = pl.length + 1 := rfl
      refine awp_exit ?_
      simp only [go_sem]
      repeat refine awp_seq ?_
      refine awp_long ?_
      refine sops_take 1 (by kernel_rfl) fun K hK => ?_
      simp only [go_sem, List.take_succ_cons, List.take_zero, List.drop_succ_cons, List.drop_zero, List.append_eq, List.cons_append, List.nil_append]
      (try simp (disch := omega) only [wrapI])
      repeat first | intro _ | refine ⟨(by omega), ?_⟩ | refine ⟨⟨by omega, by omega⟩, ?_⟩
      refine hK _ rfl ?_
      clear hK K
      refine sops_own (by simp [go_sem]) ?_
      simp only [go_sem, sBuildOwn]
      repeat first | refine ⟨(by omega), ?_⟩ | refine ⟨⟨by omega, by omega⟩, ?_⟩
      refine sops_end (by kernel_rfl) fun K hK => ?_
      simp only [go_sem, List.drop_succ_cons, List.drop_zero, List.append_eq, List.cons_append, List.nil_append]
      (try simp (disch := omega) only [wrapI])
      refine ⟨⟨by omega, by omega⟩, ?_⟩
      repeat first | intro _ | refine ⟨(by omega), ?_⟩ | refine ⟨⟨by omega, by omega⟩, ?_⟩
      refine hK _ ?_
      clear hK K
      refine awp_sub (sub_keep [1, 5, 8]) ?_
      simp only [go_sem]
      refine awp_sub (sub_frz (ty := 34) (sz := 1) (off := 0) (m := 1 + pl.length) (es := ([0] :: pl).map fun x => [ints x]) 8 91 (by omega) rfl rfl (by simp; omega)) ?_
      have tke2 : List.take (1 + pl.length) (([0] :: pl).map fun x => [ints x]) = ([0] :: pl).map fun x => [ints x] := List.take_of_length_le (by simp; omega)
      simp only [List.drop_zero, tke2]
      generalize hPS : [0] :: pl = qs at *
      repeat refine awp_seq ?_
      refine awp_reg (by kernel_rfl) fun K hK => ?_
      simp only [go_sem]
      (try simp (disch := omega) only [wrapI])
      repeat first | intro _ | refine ⟨(by omega), ?_⟩ | refine ⟨⟨by omega, by omega⟩, ?_⟩
      refine hK _ ?_
      clear hK K
      simp only [hm']
      refine awp_sub (sub_keep [5, 8, 13]) ?_
      simp only [go_sem]
      repeat refine awp_seq ?_
      refine awp_reg (by kernel_rfl) fun K hK => ?_
      simp only [go_sem]
      (try simp (disch := omega) only [wrapI])
      refine xcall_eq (hpr) rfl (by simp only [go_sem, i64, ints]) (by simp only [go_sem, i64, ints]) (by first | exact .inl rfl | exact .inr rfl) ?_
      (try simp only [go_sem])
      (try simp (disch := omega) only [wrapI])
      repeat first | intro _ | refine ⟨(by omega), ?_⟩ | refine ⟨⟨by omega, by omega⟩, ?_⟩
      refine hK _ ?_
      clear hK K
      refine awp_sub (sub_keep [5, 7, 8, 13, 14, 15]) ?_
      simp only [go_sem]
      have h8 : qs.length = pl.length + 1 := hps
      have hq0 : qs[0]? = some [0] := by rw [← hPS]; rfl
      have hs4 : 0 ≤ shv m 400 ∧ shv m 400 ≤ 1000000000 := by unfold shv; omega
      have q5 : IntKind.i64.wrap (pz.sum + (m - pz.sum)) = m := by rw [wrapI] <;> omega
      have q6 : IntKind.i64.wrap (m * 400) = m * 400 := by rw [wrapI] <;> omega
      have q7 : IntKind.i64.wrap (shv m 400) = shv m 400 := by rw [wrapI] <;> omega
      have hn0' : 0 < n := by omega
      repeat refine awp_seq ?_
      refine awp_reg (by kernel_rfl) fun K hK => ?_
      simp only [go_sem, bne_self_eq_false, hpl, q2, q3, q5, q6, q7, hp0, hnp, hn0', q4]
      (try simp (disch := omega) only [wrapI])
      intro _
      refine xcall_eq (pubSum_ok pz (by omega) hpb) rfl (by simp only [go_sem, i64, ints, bne_self_eq_false, hpl, q2, q3, q5, q6, q7, hp0, hnp, hn0', q4]) (by simp only [go_sem, i64, ints, bne_self_eq_false, hpl, q2, q3, q5, q6, q7, hp0, hnp, hn0', q4]) (by first | exact .inl rfl | exact .inr rfl) ?_
      (try simp only [go_sem, bne_self_eq_false, hpl, q2, q3, q5, q6, q7, hp0, hnp, hn0', q4])
      (try simp (disch := omega) only [wrapI])
      repeat first | intro _ | refine ⟨(by omega), ?_⟩ | refine ⟨⟨by omega, by omega⟩, ?_⟩
      refine hK _ ?_
      clear hK K
      refine awp_sub (sub_keep [5, 8, 14, 134]) ?_
      simp only [go_sem]
      repeat refine awp_seq ?_
      refine awp_cond rfl (fun hc => ?_) (fun hc => ?_) <;> (try simp only [go_sem] at hc)
      refine awp_skip ?_
      try simp only [go_sem]
      repeat refine awp_seq ?_
      refine awp_reg (by kernel_rfl) fun K hK => ?_
      simp only [go_sem, hp0, hnp]
      (try simp (disch := omega) only [wrapI])
      repeat first | intro _ | refine ⟨(by omega), ?_⟩ | refine ⟨⟨by omega, by omega⟩, ?_⟩
      refine hK _ ?_
      clear hK K
      refine awp_sub (sub_keep [5, 8, 14, 16]) ?_
      simp only [go_sem]
      repeat refine awp_seq ?_
      refine awp_reg (by kernel_rfl) fun K hK => ?_
      simp only [go_sem]
      (try simp (disch := omega) only [wrapI])
      repeat first | intro _ | refine ⟨(by omega), ?_⟩ | refine ⟨⟨by omega, by omega⟩, ?_⟩
      refine hK _ ?_
      clear hK K
      refine awp_sub (sub_keep [5, 8, 14, 16, 17]) ?_
      simp only [go_sem]
      repeat refine awp_seq ?_
      refine awp_block ?_
      refine awp_upto (n := 204) qs.length (fun g vs => [(5, .r (i64 n)), (8, .r (listsR qs)), (14, .r (ints pz)), (16, .r (i64 (shv m (lastS qs g)))), (17, .r (i64 g))])
        (fun _ => []) (fun _ => True) 0 (fit_of [] ?_ rfl) (Nat.zero_le _) trivial ?_
      · try simp only [go_sem]
        simp [lastS]
      · intro g vs hgl _
        repeat refine awp_seq ?_
        refine awp_reg (by kernel_rfl) fun K hK => ?_
        simp only [go_sem]
        (try simp (disch := omega) only [wrapI])
        intros
        repeat first | intro _ | refine ⟨(by omega), ?_⟩ | refine ⟨⟨by omega, by omega⟩, ?_⟩
        refine hK _ ?_
        clear hK K
        refine awp_sub (sub_keep [5, 8, 14, 16, 17, 141]) ?_
        simp only [go_sem]
        repeat refine awp_seq ?_
        refine awp_cond rfl (fun hc => ?_) (fun hc => ?_) <;> (try simp only [go_sem] at hc)
        · have hcg : g < qs.length := by first | exact hc | omega
          obtain ⟨x, hx⟩ := opt_of_lt hcg
          have hk5 := k5 g x hx
          have hlast : lastS qs (g + 1) = shK.getD (x.getD 0 0).toNat 0 := by
            simp only [lastS, if_neg (Nat.succ_ne_zero g), Nat.add_sub_cancel, List.getD_eq_getElem?_getD, hx]
            rfl
          have hxne : x ≠ [] := k1.ne x (mem_of_opt hx)
          have hx0l : 0 < x.length := List.length_pos_iff.2 hxne
          obtain ⟨x0, hx0⟩ := opt_of_lt hx0l
          have hxd : x.getD 0 0 = x0 := by rw [List.getD_eq_getElem?_getD, hx0]; rfl
          have hb0 := (hk5 x0 (mem_of_opt hx0)).1
          rw [hxd] at hlast hk5
          have hv0 := hshn x0 hb0
          have hn0 : x0.toNat < pz.length := by omega
          have hxl : x.length ≤ 60 := (good_take k1 hx).1.2
          generalize hlv : shv m (lastS qs g) = lv at *
          generalize hw0 : shv m (shK.getD x0.toNat 0) = w0 at *
          refine awp_skip ?_
          try simp only [go_sem]
          repeat refine awp_seq ?_
          refine awp_block ?_
          repeat refine awp_seq ?_
          refine awp_reg (by kernel_rfl) fun K hK => ?_
          simp only [go_sem]
          (try simp (disch := omega) only [wrapI])
          repeat first | intro _ | refine ⟨(by omega), ?_⟩ | refine ⟨⟨by omega, by omega⟩, ?_⟩
          refine hK _ ?_
          clear hK K
          refine awp_sub (sub_keep [5, 8, 14, 16, 17, 18]) ?_
          simp only [go_sem]
          repeat refine awp_seq ?_
          refine awp_block ?_
          refine awp_upto (n := 204) x.length (fun i vs => [(5, .r (i64 n)), (8, .r (listsR qs)), (14, .r (ints pz)), (16, .r (i64 lv)), (17, .r (i64 g)), (18, .r (i64 i))])
            (fun _ => []) (fun _ => True) 0 (fit_of [] ?_ rfl) (Nat.zero_le _) trivial ?_
          · try simp only [go_sem]
          · intro i vs hil _
            repeat refine awp_seq ?_
            refine awp_reg (by kernel_rfl) fun K hK => ?_
            simp only [go_sem, hx, hcg]
            (try simp (disch := omega) only [wrapI])
            intros
            repeat first | intro _ | refine ⟨(by omega), ?_⟩ | refine ⟨⟨by omega, by omega⟩, ?_⟩
            refine hK _ ?_
            clear hK K
            refine awp_sub (sub_keep [5, 8, 14, 16, 17, 18, 150]) ?_
            simp only [go_sem]
            repeat refine awp_seq ?_
            refine awp_cond rfl (fun hc => ?_) (fun hc => ?_) <;> (try simp only [go_sem] at hc)
            · have hci : i < x.length := by first | exact hc | omega
              obtain ⟨q, hq⟩ := opt_of_lt hci
              obtain ⟨⟨b1, b2⟩, b3, b4⟩ := hk5 q (mem_of_opt hq)
              have hvq := hshn q ⟨b1, b2⟩
              have hnq : q.toNat < pz.length := by omega
              rw [b4] at b3 hvq
              have c1 : decide (q < 0) = false := by simp; omega
              have c2 : decide ((n : Int) ≤ q) = false := by simp; omega
              have c3 : decide (lv < w0) = false := by simp; omega
              have c4 : (w0 != w0) = false := bne_self_eq_false _
              refine awp_skip ?_
              try simp only [go_sem]
              repeat refine awp_seq ?_
              refine awp_block ?_
              repeat refine awp_seq ?_
              refine awp_reg (by kernel_rfl) fun K hK => ?_
              simp only [go_sem, hx, hcg, hq, hci]
              (try simp (disch := omega) only [wrapI])
              repeat first | intro _ | refine ⟨(by omega), ?_⟩ | refine ⟨⟨by omega, by omega⟩, ?_⟩
              refine hK _ ?_
              clear hK K
              refine awp_sub (sub_keep [5, 8, 14, 16, 17, 18, 19]) ?_
              simp only [go_sem]
              repeat refine awp_seq ?_
              refine awp_dreg follows (by decide +kernel) (by kernel_rfl) fun K hK => ?_
              simp only [go_sem, hx, hcg, hx0, hx0l, hvq, hnq, hv0, hn0, c1, c2, c3, c4, b1, b2, hb0]
              (try simp (disch := omega) only [wrapI])
              repeat first | intro _ | refine ⟨(by omega), ?_⟩ | refine ⟨⟨by omega, by omega⟩, ?_⟩
              refine hK _ ?_
              clear hK K
              refine awp_sub (sub_keep [5, 8, 14, 16, 17, 18, 190]) ?_
              simp only [go_sem]
              repeat refine awp_seq ?_
              refine awp_cond rfl (fun hc => ?_) (fun hc => ?_) <;> (try simp only [go_sem] at hc)
              refine awp_skip ?_
              try simp only [go_sem]
              repeat refine awp_seq ?_
              refine awp_reg (by kernel_rfl) fun K hK => ?_
              simp only [go_sem]
              (try simp (disch := omega) only [wrapI])
              repeat first | intro _ | refine ⟨(by omega), ?_⟩ | refine ⟨⟨by omega, by omega⟩, ?_⟩
              refine hK _ ?_
              clear hK K
              try simp only [go_sem]
              refine ⟨hci, fit_of [] ?_ rfl⟩
              try simp only [go_sem]
            · refine awp_exit ?_
              simp only [go_sem]
              repeat refine awp_seq ?_
              refine awp_reg (by kernel_rfl) fun K hK => ?_
              simp only [go_sem, hx, hcg, hx0, hx0l, hv0, hn0, hb0]
              (try simp (disch := omega) only [wrapI])
              repeat first | intro _ | refine ⟨(by omega), ?_⟩ | refine ⟨⟨by omega, by omega⟩, ?_⟩
              refine hK _ ?_
              clear hK K
              refine awp_sub (sub_keep [5, 8, 14, 16, 17]) ?_
              simp only [go_sem]
              repeat refine awp_seq ?_
              refine awp_reg (by kernel_rfl) fun K hK => ?_
              simp only [go_sem]
              (try simp (disch := omega) only [wrapI])
              repeat first | intro _ | refine ⟨(by omega), ?_⟩ | refine ⟨⟨by omega, by omega⟩, ?_⟩
              refine hK _ ?_
              clear hK K
              try simp only [go_sem]
              refine ⟨hcg, fit_of [] ?_ rfl⟩
              try simp only [go_sem]
              rw [hlast, hw0]
        · refine awp_exit ?_
          simp only [go_sem]
          repeat refine awp_seq ?_
          refine awp_reg (by kernel_rfl) fun K hK => ?_
          simp only [go_sem]
          (try simp (disch := omega) only [wrapI])
          refine xcall_eq (pubTeam_ok) rfl (by simp only [go_sem, i64, ints]) (by simp only [go_sem, i64, ints]) (by first | exact .inl rfl | exact .inr rfl) ?_
          (try simp only [go_sem])
          (try simp (disch := omega) only [wrapI])
          refine xcall_eq (pubPurse_ok) rfl (by simp only [go_sem, i64, ints]) (by simp only [go_sem, i64, ints]) (by first | exact .inl rfl | exact .inr rfl) ?_
          (try simp only [go_sem])
          (try simp (disch := omega) only [wrapI])
          repeat first | intro _ | refine ⟨(by omega), ?_⟩ | refine ⟨⟨by omega, by omega⟩, ?_⟩
          refine hK _ ?_
          clear hK K
          refine awp_sub (sub_keep [4]) ?_
          simp only [go_sem]
          refine awp_ret ?_
          simp only [go_sem]
end Go.Proofs.Ytaniakoadbkadaa

/- What a reading of the arguments says of them: plain data of a shape. -/
namespace Go.Oc
open Go Go.RowKit Go.ChangeShapes Go.WideShapes

inductive Sh where
  | int (k : IntKind)
  | bool
  | sl (es : List Sh)
def fieldsSh (P : Program) (sh : TypeId → Option (List Sh)) : List Field → Nat → Option (List Sh)
  | [], _ => some []
  | f :: fs, o =>
    match sh f.type with
    | some ss => if f.offset == o && ss.length == P.cellsOf f.type then match fieldsSh P sh fs (o + ss.length) with | some q => some (ss ++ q) | none => none else none
    | none => none
/-- The cells of a type. -/
def shape (P : Program) : Nat → TypeId → Option (List Sh)
  | 0, _ => none
  | n + 1, t =>
    match P.underlying t with
    | some (.int k) => some [.int k]
    | some .bool => some [.bool]
    | some (.slice e) =>
      match shape P n e with
      | some ss => if ss.length == P.cellsOf e && decide (0 < ss.length) then some [.sl ss] else none
      | none => none
    | some (.array m e) =>
      match shape P n e with
      | some ss => if ss.length == P.cellsOf e && P.cellsOf t == m * ss.length then some (List.replicate m ss).flatten else none
      | none => none
    | some (.struct fs) =>
      match fieldsSh P (shape P n) fs.toList 0 with
      | some ss => if ss.length == P.cellsOf t then some ss else none
      | none => none
    | _ => none
mutual
def Fits : Sh → RV → Prop
  | .int k, x => ∃ n, x = .it k n ∧ (Lit.int k n).wf = true
  | .bool, x => ∃ b, x = .bo b
  | .sl ss, x => ∃ es, x = .sl ss.length es ∧ FitsE ss es
def FitsL : List Sh → List RV → Prop
  | [], xs => xs = []
  | s :: ss, xs => ∃ y ys, xs = y :: ys ∧ Fits s y ∧ FitsL ss ys
def FitsE (ss : List Sh) : List (List RV) → Prop
  | [] => True
  | e :: es => FitsL ss e ∧ FitsE ss es
end

theorem fitsL_append : ∀ {s1 s2 : List Sh} {x1 x2 : List RV}, FitsL s1 x1 → FitsL s2 x2 → FitsL (s1 ++ s2) (x1 ++ x2)
  | [], _, _, _, h1, h2 => by simp only [FitsL] at h1; subst h1; simpa using h2
  | s :: ss, s2, x1, x2, h1, h2 => by
    simp only [FitsL] at h1
    obtain ⟨y, ys, rfl, h3, h4⟩ := h1
    simp only [List.cons_append, FitsL]
    exact ⟨y, _, rfl, h3, fitsL_append h4 h2⟩
theorem fitsL_length : ∀ {ss : List Sh} {xs : List RV}, FitsL ss xs → xs.length = ss.length
  | [], _, h => by simp only [FitsL] at h; subst h; rfl
  | s :: ss, _, h => by
    simp only [FitsL] at h
    obtain ⟨y, ys, rfl, _, h⟩ := h
    simp [fitsL_length h]
theorem fitsE_of : ∀ {ss : List Sh} {es : List (List RV)}, (∀ e ∈ es, FitsL ss e) → FitsE ss es
  | _, [], _ => by simp only [FitsE]
  | ss, e :: es, h => by simp only [FitsE]; exact ⟨h e (by simp), fitsE_of fun x hx => h x (by simp [hx])⟩
theorem choice {α : Type} {Q : Nat → α → Prop} : ∀ (n : Nat), (∀ i, i < n → ∃ x, Q i x) → ∃ xs : List α, xs.length = n ∧ ∀ i x, xs[i]? = some x → Q i x
  | 0, _ => ⟨[], rfl, by simp⟩
  | n + 1, h => by
    obtain ⟨xs, hl, hx⟩ := choice n fun i hi => h i (by omega)
    obtain ⟨y, hy⟩ := h n (by omega)
    refine ⟨xs ++ [y], by simp [hl], fun i x hi => ?_⟩
    by_cases h1 : i < n
    · rw [List.getElem?_append_left (by omega)] at hi; exact hx i x hi
    · rw [List.getElem?_append_right (by omega)] at hi
      have : i = n := by have := (List.getElem?_eq_some_iff.1 hi).1; simp at this; omega
      subst this
      simp [hl] at hi
      exact hi ▸ hy
section
variable {w : World} {P : Program}
theorem cells?_get {base n : Nat} {a : Addr} {cs : List Value} (h : w.cells? base a n = some cs) : cs.length = n ∧ ∀ i, i < n → w.cell? (a.add i) = cs[i]? := by
  unfold World.cells? at h
  split at h
  · exact ⟨by simpa using mapM_some_length h, fun i hi => mapM_some_get h i i (by simp [hi])⟩
  · cases h
theorem cell_lt {a : Addr} {v : Value} (h : w.cell? a = some v) : a.block < w.heap.size := by
  refine Decidable.byContradiction fun hn => ?_
  have : w.heap[a.block]? = none := by simp; omega
  simp [World.cell?, this] at h
/-- All that was there. -/
def old (w : World) : Nat → Prop := fun b => b < w.heap.size
theorem relC_of_cells {xs : List RV} {cs : List Value} {ad : Addr} (hV : RV.relV w (old w) xs cs) (hone : ∀ u ∈ cs, u.oneCell' = true) (hc : ∀ i, i < cs.length → w.cell? (ad.add i) = cs[i]?) : RV.relC w (old w) xs ad 0 := by
  refine RV.relC_of_get fun i x hx => ?_
  obtain ⟨u, hu, hr⟩ := RV.relV_get hV hx
  have hi := (List.getElem?_eq_some_iff.1 hu).1
  refine ⟨u, ?_, hone u (List.mem_of_getElem? hu), hr⟩
  rw [Nat.zero_add, hc i hi, hu]

variable {H : Type} {enc : TypeId × Value → H} {base : Nat} {spare : Nat → Bool} {held : Bool}
def Good3 (w : World) (ss : List Sh) (cs : List Value) : Prop := ∃ xs, FitsL ss xs ∧ RV.relV w (old w) xs cs ∧ ∀ u ∈ cs, u.oneCell' = true
theorem good3_append {s1 s2 : List Sh} {c1 c2 : List Value} (h1 : Good3 w s1 c1) (h2 : Good3 w s2 c2) : Good3 w (s1 ++ s2) (c1 ++ c2) := by
  obtain ⟨x1, f1, r1, o1⟩ := h1
  obtain ⟨x2, f2, r2, o2⟩ := h2
  refine ⟨x1 ++ x2, fitsL_append f1 f2, RV.relV_append r1 r2, fun u hu => ?_⟩
  rcases List.mem_append.1 hu with hu | hu
  · exact o1 u hu
  · exact o2 u hu
theorem good3_length {ss : List Sh} {cs : List Value} (h : Good3 w ss cs) : cs.length = ss.length := by
  obtain ⟨xs, f, r, _⟩ := h
  rw [RV.relV_length r, fitsL_length f]
theorem trod_fits : ∀ (fuel n : Nat) (t : TypeId) (cs : List Value) (x : DataW H × List MemPlace) (ss : List Sh), DataW.trod enc P w base spare held fuel t cs = some x → shape P n t = some ss → Good3 w ss cs := by
  intro fuel
  induction fuel with
  | zero => intro n t cs x ss h; simp [DataW.trod] at h
  | succ fuel ih =>
    intro n t cs x ss h hs
    cases n with
    | zero => simp [shape] at hs
    | succ n =>
      unfold shape at hs
      split at hs
      · rename_i k ht
        injection hs with hs; subst hs
        obtain ⟨m, rfl, _, hw⟩ := DataW.trod_int ht h
        exact ⟨[.it k m], by simp only [FitsL, Fits]; exact ⟨_, [], rfl, ⟨m, rfl, hw⟩, rfl⟩, by simp only [RV.relV, RV.rel]; exact ⟨_, [], rfl, rfl, rfl⟩, by simp [Value.oneCell']⟩
      · rename_i ht
        injection hs with hs; subst hs
        obtain ⟨b, rfl, _⟩ := DataW.trod_bool ht h
        exact ⟨[.bo b], by simp only [FitsL, Fits]; exact ⟨_, [], rfl, ⟨b, rfl⟩, rfl⟩, by simp only [RV.relV, RV.rel]; exact ⟨_, [], rfl, rfl, rfl⟩, by simp [Value.oneCell']⟩
      · rename_i e ht
        split at hs
        · rename_i es hes
          split at hs
          · rename_i hc
            simp only [Bool.and_eq_true, beq_iff_eq, decide_eq_true_eq] at hc
            injection hs with hs; subst hs
            rcases DataW.trod_slice ht h with ⟨rfl, _⟩ | ⟨a, len, cap, elems, rest, m, hm, rfl, _, _, hlc, hcm, hel, hget, _⟩
            · refine ⟨[.sl es.length []], ?_, ?_, by simp [Value.oneCell']⟩
              · simp only [FitsL, Fits]
                exact ⟨_, [], rfl, ⟨[], rfl, by simp only [FitsE]⟩, rfl⟩
              · simp only [RV.relV, RV.rel]
                exact ⟨_, [], rfl, ⟨none, 0, rfl, Nat.le_refl _, Nat.zero_le _, fun h => absurd rfl h⟩, rfl⟩
            · injection hm with hm; subst hm
              have hall : ∀ i, i < len → ∃ e', FitsL es e' ∧ e'.length = es.length ∧ RV.relC w (old w) e' (a.add (i * es.length)) 0 ∧ a.block < w.heap.size := fun i hi => by
                have h1 := hget i hi
                have h2 : i < elems.length := by omega
                rw [List.getElem?_eq_getElem h2] at h1
                obtain ⟨ci, hci, htr⟩ := Option.bind_eq_some_iff.1 h1
                rw [← hc.1] at hci
                obtain ⟨hl, hcell⟩ := cells?_get hci
                obtain ⟨xs, f, r, o⟩ := ih n e ci _ es htr hes
                refine ⟨xs, f, fitsL_length f, relC_of_cells r o (fun j hj => hcell j (by omega)), ?_⟩
                have h3 := hcell 0 hc.2
                have h4 : 0 < ci.length := by omega
                rw [List.getElem?_eq_getElem h4] at h3
                have := cell_lt h3
                rwa [block_add, block_add] at this
              obtain ⟨els, hlen, hels⟩ := choice len hall
              refine ⟨[.sl es.length els], ?_, ?_, by simp [Value.oneCell']⟩
              · simp only [FitsL, Fits]
                refine ⟨_, [], rfl, ⟨els, rfl, fitsE_of fun e' he' => ?_⟩, rfl⟩
                obtain ⟨i, hi⟩ := List.getElem?_of_mem he'
                exact (hels i e' hi).1
              · simp only [RV.relV, RV.rel]
                refine ⟨_, [], rfl, ⟨some a, cap, by rw [hlen], by omega, hcm, fun hne => ?_⟩, rfl⟩
                obtain ⟨e0, he0⟩ : ∃ e0, els[0]? = some e0 := by
                  cases els with
                  | nil => exact absurd rfl hne
                  | cons a l => exact ⟨a, rfl⟩
                refine ⟨a, rfl, (hels 0 e0 he0).2.2.2, RV.relE_of_get fun i e' he' => ?_⟩
                obtain ⟨_, q1, q2, _⟩ := hels i e' he'
                exact ⟨q1, RV.relC_unbase _ q2⟩
          · cases hs
        · cases hs
      · rename_i m e ht
        split at hs
        · rename_i es hes
          split at hs
          · rename_i hc
            simp only [Bool.and_eq_true, beq_iff_eq] at hc
            injection hs with hs; subst hs
            obtain ⟨xs, fm, hm, _, hcl, hxl, hget⟩ := DataW.trod_array ht h
            injection hm with hm; subst hm
            have key : ∀ j, j ≤ m → Good3 w (List.replicate j es).flatten (cs.take (j * es.length)) := by
              intro j
              induction j with
              | zero => intro _; exact ⟨[], by simp [FitsL], by simp [RV.relV], by simp⟩
              | succ j ihj =>
                intro hj
                have h1 := hget j (by omega)
                have h2 : j < xs.length := by omega
                rw [List.getElem?_eq_getElem h2, ← hc.1] at h1
                have h3 := ih n e _ _ es h1 hes
                have := good3_append (ihj (by omega)) h3
                rw [← List.take_add] at this
                rw [List.replicate_succ', List.flatten_append, Nat.add_mul]
                simpa using this
            have := key m (Nat.le_refl _)
            rwa [← hc.2, ← hcl, List.take_length] at this
          · cases hs
        · cases hs
      · rename_i fs ht
        split at hs
        · rename_i q hq
          split at hs
          · rename_i hc
            simp only [beq_iff_eq] at hc
            injection hs with hs; subst hs
            obtain ⟨xs, fm, hm, _, hcl, hxl, hget⟩ := DataW.trod_struct ht h
            injection hm with hm; subst hm
            have key : ∀ (l : List Field) (o : Nat) (q : List Sh), (∀ f ∈ l, ∃ y, DataW.trod enc P w base spare held fuel f.type ((cs.drop f.offset).take (P.cellsOf f.type)) = some y) → fieldsSh P (shape P n) l o = some q → Good3 w q ((cs.drop o).take q.length) := by
              intro l
              induction l with
              | nil =>
                intro o q _ hq
                simp only [fieldsSh, Option.some.injEq] at hq
                subst hq
                exact ⟨[], by simp [FitsL], by simp [RV.relV], by simp⟩
              | cons f l ihl =>
                intro o q hall hq
                simp only [fieldsSh] at hq
                split at hq
                · rename_i s1 hs1
                  split at hq
                  · rename_i hc1
                    simp only [Bool.and_eq_true, beq_iff_eq] at hc1
                    split at hq
                    · rename_i q2 hq2
                      injection hq with hq; subst hq
                      obtain ⟨y, hy⟩ := hall f (by simp)
                      have g1 := ih n f.type _ _ s1 hy hs1
                      have g2 := ihl (o + s1.length) q2 (fun f' hf' => hall f' (by simp [hf'])) hq2
                      rw [hc1.1, ← hc1.2] at g1
                      have := good3_append g1 g2
                      rw [← List.drop_drop, ← List.take_add] at this
                      simpa using this
                    · cases hq
                  · cases hq
                · cases hq
            have := key fs.toList 0 q (fun f hf => by
              obtain ⟨i, hi⟩ := List.getElem?_of_mem hf
              have hi' : fs[i]? = some f := by simpa using hi
              have h1 := hget i f hi'
              have h2 : i < xs.length := by have := (Array.getElem?_eq_some_iff.1 hi').1; omega
              exact ⟨xs[i], by rw [h1]; exact List.getElem?_eq_getElem h2⟩) hq
            rwa [List.drop_zero, hc, ← hcl, List.take_length] at this
          · cases hs
        · cases hs
      · cases hs

/-- An argument of a type. -/
def FitsT (P : Program) (n : Nat) (t : TypeId) (x : RV) : Prop := ∃ ss, shape P n t = some ss ∧ if aggOf P t then ∃ xs, x = .ag xs ∧ FitsL ss xs else FitsL ss [x]
theorem arg_fits {n : Nat} {t : TypeId} {v : Value} {d : DataW H} {ps : List MemPlace} {r : Reach} {b0 : Nat} (hs : (shape P n t).isSome = true) (hval : Value.okWide P w r b0 t v) (h : DataW.Trod enc P w base spare held t v d ps) :
    ∃ x, FitsT P n t x ∧ x.rel w (old w) v := by
  obtain ⟨ss, hss⟩ := Option.isSome_iff_exists.1 hs
  obtain ⟨fuel, hf⟩ := h
  obtain ⟨xs, f, r, o⟩ := trod_fits fuel n t _ _ ss hf hss
  have one : aggOf P t = false → v.cells.toList = [v] → ∃ x, FitsT P n t x ∧ x.rel w (old w) v := fun ha hc => by
    rw [hc] at r
    match xs, r with
    | [x], r =>
      simp only [RV.relV] at r
      obtain ⟨u, us, e, hr, _⟩ := r
      injection e with e1 e2
      subst e1
      exact ⟨x, ⟨ss, hss, by rw [ha]; exact f⟩, hr⟩
    | [], r => simp [RV.relV] at r
    | _ :: _ :: _, r =>
      simp only [RV.relV] at r
      obtain ⟨u, us, e, _, u2, us2, e2, _⟩ := r
      injection e with _ e
      rw [e2] at e; cases e
  cases n with
  | zero => simp [shape] at hss
  | succ n =>
    have hss' := hss
    unfold shape at hss'
    split at hss'
    · rename_i k ht
      obtain ⟨m, rfl⟩ := okWide_int ht hval
      exact one (by simp [aggOf, ht]) rfl
    · rename_i ht
      obtain ⟨b, rfl⟩ := okWide_bool ht hval
      exact one (by simp [aggOf, ht]) rfl
    · rename_i e ht
      obtain ⟨a, l, c, rfl⟩ := okWide_slice ht hval
      exact one (by simp [aggOf, ht]) rfl
    · rename_i m e ht
      obtain ⟨cs, rfl⟩ : ∃ cs, v = .agg cs := by
        simp only [Value.okWide, ht] at hval
        obtain ⟨cs, h1, _⟩ := hval
        exact ⟨cs, h1⟩
      exact ⟨.ag xs, ⟨ss, hss, by simp only [aggOf, ht, if_true]; exact ⟨xs, rfl, f⟩⟩, by simp only [RV.rel]; exact ⟨cs, rfl, o, r⟩⟩
    · rename_i fs ht
      obtain ⟨cs, rfl, _⟩ := okWide_struct ht hval
      exact ⟨.ag xs, ⟨ss, hss, by simp only [aggOf, ht, if_true]; exact ⟨xs, rfl, f⟩⟩, by simp only [RV.rel]; exact ⟨cs, rfl, o, r⟩⟩
    · cases hss'

theorem wf_i64 {n : Int} (h : (Lit.int .i64 n).wf = true) : -9223372036854775808 ≤ n ∧ n ≤ 9223372036854775807 := by
  simp only [Lit.wf, Bool.and_eq_true, decide_eq_true_eq] at h
  have h1 : IntKind.min .i64 = -9223372036854775808 := by decide
  have h2 : IntKind.max .i64 = 9223372036854775807 := by decide
  rw [h1, h2] at h
  exact h
theorem fitsE_ints : ∀ {es : List (List RV)}, FitsE [.int .i64] es → ∃ l : List Int, es = l.map (fun x => [.it .i64 x]) ∧ ∀ x ∈ l, -9223372036854775808 ≤ x ∧ x ≤ 9223372036854775807
  | [], _ => ⟨[], rfl, by simp⟩
  | e :: es, h => by
    simp only [FitsE, FitsL, Fits] at h
    obtain ⟨⟨y, ys, rfl, ⟨n, rfl, hn⟩, rfl⟩, h⟩ := h
    obtain ⟨l, rfl, hl⟩ := fitsE_ints h
    refine ⟨n :: l, rfl, fun x hx => ?_⟩
    rcases List.mem_cons.1 hx with rfl | hx
    · exact wf_i64 hn
    · exact hl x hx
theorem fitsT_ag {n : Nat} {t : TypeId} {x : RV} {ss : List Sh} (h : FitsT P n t x) (hs : shape P n t = some ss) (ha : aggOf P t = true) : ∃ xs, x = .ag xs ∧ FitsL ss xs := by
  obtain ⟨s', h1, h2⟩ := h
  rw [hs] at h1; injection h1 with h1; subst h1
  rw [ha] at h2
  exact h2
theorem fitsT_one {n : Nat} {t : TypeId} {x : RV} {s : Sh} (h : FitsT P n t x) (hs : shape P n t = some [s]) (ha : aggOf P t = false) : Fits s x := by
  obtain ⟨s', h1, h2⟩ := h
  rw [hs] at h1; injection h1 with h1; subst h1
  rw [ha] at h2
  simp only [Bool.false_eq_true, if_false, FitsL] at h2
  obtain ⟨y, ys, e, h3, _⟩ := h2
  injection e with e1 e2
  subst e1
  exact h3
theorem fitsT_int {n : Nat} {t : TypeId} {x : RV} (h : FitsT P n t x) (hs : shape P n t = some [.int .i64]) (ha : aggOf P t = false) : ∃ m, x = .it .i64 m ∧ -9223372036854775808 ≤ m ∧ m ≤ 9223372036854775807 := by
  have := fitsT_one h hs ha
  simp only [Fits] at this
  obtain ⟨m, h1, h2⟩ := this
  exact ⟨m, h1, wf_i64 h2⟩
theorem fitsT_ints {n : Nat} {t : TypeId} {x : RV} (h : FitsT P n t x) (hs : shape P n t = some [.sl [.int .i64]]) (ha : aggOf P t = false) : ∃ l : List Int, x = .sl 1 (l.map (fun x => [.it .i64 x])) ∧ ∀ x ∈ l, -9223372036854775808 ≤ x ∧ x ≤ 9223372036854775807 := by
  have := fitsT_one h hs ha
  simp only [Fits] at this
  obtain ⟨es, h1, h2⟩ := this
  obtain ⟨l, rfl, hl⟩ := fitsE_ints h2
  exact ⟨l, h1, hl⟩
end
end Go.Oc

/- The bounds of the small kinds of integers. -/
namespace Go.Oc
open Go Go.RowKit
theorem wf_u8 {n : Int} (h : (Lit.int .u8 n).wf = true) : 0 ≤ n ∧ n ≤ 255 := by
  simp only [Lit.wf, Bool.and_eq_true, decide_eq_true_eq] at h
  have h1 : IntKind.min .u8 = 0 := by decide
  have h2 : IntKind.max .u8 = 255 := by decide
  rw [h1, h2] at h
  exact h
theorem wf_u16 {n : Int} (h : (Lit.int .u16 n).wf = true) : 0 ≤ n ∧ n ≤ 65535 := by
  simp only [Lit.wf, Bool.and_eq_true, decide_eq_true_eq] at h
  have h1 : IntKind.min .u16 = 0 := by decide
  have h2 : IntKind.max .u16 = 65535 := by decide
  rw [h1, h2] at h
  exact h
theorem wf_u32 {n : Int} (h : (Lit.int .u32 n).wf = true) : 0 ≤ n ∧ n ≤ 4294967295 := by
  simp only [Lit.wf, Bool.and_eq_true, decide_eq_true_eq] at h
  have h1 : IntKind.min .u32 = 0 := by decide
  have h2 : IntKind.max .u32 = 4294967295 := by decide
  rw [h1, h2] at h
  exact h
theorem fitsE_u8 : ∀ {es : List (List RV)}, FitsE [.int .u8] es → ∃ l : List Int, es = l.map (fun x => [.it .u8 x]) ∧ ∀ x ∈ l, 0 ≤ x ∧ x ≤ 255
  | [], _ => ⟨[], rfl, by simp⟩
  | e :: es, h => by
    simp only [FitsE, FitsL, Fits] at h
    obtain ⟨⟨y, ys, rfl, ⟨n, rfl, hn⟩, rfl⟩, h⟩ := h
    obtain ⟨l, rfl, hl⟩ := fitsE_u8 h
    refine ⟨n :: l, rfl, fun x hx => ?_⟩
    rcases List.mem_cons.1 hx with rfl | hx
    · exact wf_u8 hn
    · exact hl x hx
theorem fitsE_u16 : ∀ {es : List (List RV)}, FitsE [.int .u16] es → ∃ l : List Int, es = l.map (fun x => [.it .u16 x]) ∧ ∀ x ∈ l, 0 ≤ x ∧ x ≤ 65535
  | [], _ => ⟨[], rfl, by simp⟩
  | e :: es, h => by
    simp only [FitsE, FitsL, Fits] at h
    obtain ⟨⟨y, ys, rfl, ⟨n, rfl, hn⟩, rfl⟩, h⟩ := h
    obtain ⟨l, rfl, hl⟩ := fitsE_u16 h
    refine ⟨n :: l, rfl, fun x hx => ?_⟩
    rcases List.mem_cons.1 hx with rfl | hx
    · exact wf_u16 hn
    · exact hl x hx
end Go.Oc

/- The law of the prizes of a knock-out returns true for all arguments of its types. -/
namespace Go.Proofs.Ytaniakoadbkadaa
open Go Go.Oc
theorem law4' {x0 x1 : RV} (h0 : FitsT Try.prog 9 5 x0) (h1 : FitsT Try.prog 9 48 x1) : ACalls Try.prog 4 [x0, x1] (.bo true) := by
  have k0 := fitsT_one (s := .int .u8) h0 (by kernel_rfl) (by kernel_rfl)
  have k1 := fitsT_one (s := .int .u32) h1 (by kernel_rfl) (by kernel_rfl)
  simp only [Oc.Fits] at k0 k1
  obtain ⟨g, rfl, hg⟩ := k0
  obtain ⟨t, rfl, ht⟩ := k1
  exact law6 g t (wf_u8 hg) (wf_u32 ht)
end Go.Proofs.Ytaniakoadbkadaa


namespace Go.Proofs.Ytaniakoadbkadaa
open Go Go.Oc Go.ChangeShapes Go.WideShapes Go.RowKit
set_option linter.unusedVariables false
theorem own : ownKnob Try.prog.godebug = none := by kernel_rfl
theorem laidOut : laidOutB Try.prog = true := by kernel_rfl
set_option maxRecDepth 100000 in
theorem lifted (os : Os) (started : os.Started) (H : Type) (enc : TypeId × Value → H) :
    ReturnsInHanded {} Try.checked os 4 .any (Rows.topKnockPrizesSpec.pre6 enc Try.prog Try.f4 Rows.topKnockPrizesRow.domain false) (Rows.topKnockPrizesSpec.post enc Try.prog Try.f4 false true false false) := by
  refine returnsInHanded_of_change (C := Try.checked) own started (by kernel_rfl) Try.func4
    (ChangeSpec.witness6 (enc := enc) (C := Try.checked) false ⟨#[], #[.int .u8 0, .int .u32 0], []⟩ 8 (by kernel_rfl) (by kernel_rfl) (by kernel_rfl) (by kernel_rfl)) ?_
  intro W base args ds gs before hval0 hW hcnd _
  have hval : ∀ (j : Nat) t v, Try.f4.params[j]? = some t → args[j]? = some v → Value.okWide Try.prog W .any base t v := hval0
  have hW' := hW
  obtain ⟨p, q, hA0, hV, rfl, hfz, hnd⟩ := hW
  have hA : DataW.TrodAll enc Try.prog W 0 (fun _ => true) true Try.f4.params.toList args.toList ds p := hA0
  rw [Try.params4] at hA hval
  obtain ⟨v0, vs0, d0, ds0, p0, q0, hargs, rfl, rfl, h0, r0⟩ := trodAll_cons hA
  obtain ⟨v1, vs1, d1, ds1, p1, q1, rfl, rfl, rfl, h1, r1⟩ := trodAll_cons r0
  obtain ⟨rfl, rfl, rfl⟩ := trodAll_nil r1
  obtain rfl : args = #[v0, v1] := by cases args; simp_all
  obtain ⟨rfl, rfl⟩ := trodVars_none hV
  have lt0 : ∀ x ∈ p0, x.block < W.heap.size := by obtain ⟨m, hm⟩ := h0; exact DataW.trod_lt m _ _ _ hm
  have lt1 : ∀ x ∈ p1, x.block < W.heap.size := by obtain ⟨m, hm⟩ := h1; exact DataW.trod_lt m _ _ _ hm
  obtain ⟨x0, g0, e0⟩ := arg_fits (n := 9) (by kernel_rfl) (hval 0 5 v0 rfl rfl) h0
  obtain ⟨x1, g1, e1⟩ := arg_fits (n := 9) (by kernel_rfl) (hval 1 48 v1 rfl rfl) h1
  clear hA0 hval0
  refine ((law4' g0 g1).2 W (old W) #[v0, v1] (fun _ h => h) (by simp only [RV.relV]; exact ⟨_, _, rfl, e0, _, _, rfl, e1, rfl⟩)).mono fun e W' he => ?_
  obtain ⟨v, R', rfl, bel, _, _, _, hr⟩ := he
  simp only [RV.rel] at hr
  subst hr
  exact ⟨_, rfl, _, _, _, [], _, [], hW', trodAll_mk1 (shut_bool Try.underlying4 _), (trodAll_cons_mk (Below.trod laidOut (by kernel_rfl) (of_decide_eq_true (by kernel_rfl)) h0 bel lt0) (trodAll_cons_mk (Below.trod laidOut (by kernel_rfl) (of_decide_eq_true (by kernel_rfl)) h1 bel lt1) trodAll_mk0)), rfl, bel.frame _, fun h => by cases h⟩
theorem over : Rows.topKnockPrizesRow.holds Try.pinned (OpenSpec.ofChange Rows.topKnockPrizesSpec) :=
  OpenClaim.holds_of_wide 4 Try.f4 rfl rfl rfl rfl rfl rfl rfl ⟨rfl, rfl, rfl, rfl, rfl⟩ rfl rfl rfl rfl rfl (by kernel_rfl) Try.func4 (by kernel_rfl)
    (of_decide_eq_true (by kernel_rfl)) (by unfold Func.isWrapper; first | (rw [if_pos (by decide +kernel)]; kernel_rfl) | (rw [if_neg (by decide +kernel)]; exact ⟨rfl, rfl⟩))
    (fun os started H enc _ => lifted os started H enc)
theorem topKnockPrizes_holds : Rows.TopKnockPrizesSaid := over
#print axioms topKnockPrizes_holds
end Go.Proofs.Ytaniakoadbkadaa
