/- Part 6 of the texts of this claim. -/
import Derived.Test.YtgkejinoaommeaaV65
namespace Go.Oc
open Go Go.RowKit
set_option linter.unusedVariables false
set_option linter.unusedSimpArgs false
section
variable {P : Program} {C : Ctx} {s : AS} {Q : Exit → AS → Prop}
theorem awp_openR {c : Code} (k : Nat) {m : List (RV × RV)} (hc : (s.rows k).c = .mp m) (h : ∀ bs cl, bs.length = m.length → awp P C c Q { s with rows := upd s.rows k ⟨(s.rows k).ver, .mpx m bs cl⟩ }) : awp P C c Q s := fun a w ⟨p, hs⟩ => by
 have hrow := hs.rw k
 rw [hc] at hrow
 simp only [rowRel] at hrow
 obtain ⟨b, hβ, es, cl, h1, h2, h3, h4⟩ := hrow
 have hset := hs.setRow (w' := w) k (.mpx m (es.toList.map (·.born)) cl) (by rw [hc]; rfl) (fun _ _ _ _ h => by cases h) hβ rfl rfl rfl rfl (fun i _ => rfl) (fun _ => by
  simp only [rowRel]
  exact ⟨b, es, hβ, h1, h2, rfl, h3, h4⟩)
 exact h _ cl (by rw [List.length_map]; exact relM_length h2) a w ⟨p, hset⟩
theorem sub_shutR (k : Nat) {m : List (RV × RV)} {bs : List Nat} {cl : Nat} (hc : (s.rows k).c = .mpx m bs cl) : Sub s { s with rows := upd s.rows k ⟨(s.rows k).ver, .mp m⟩ } := fun C a w ⟨p, hs⟩ => by
 have hrow := hs.rw k
 rw [hc] at hrow
 simp only [rowRel] at hrow
 obtain ⟨b, es, hβ, h1, h2, _, h3, h4⟩ := hrow
 exact ⟨p, hs.setRow (w' := w) k (.mp m) (by rw [hc]; rfl) (fun _ _ _ _ h => by cases h) hβ rfl rfl rfl rfl (fun i _ => rfl) (fun _ => by
  simp only [rowRel]
  exact ⟨b, hβ, es, cl, h1, h2, h3, h4⟩)⟩
variable {n : Nat} {l : List (Nat × AV)} {vs : Nat → Nat} {cs : List (Nat × RowC)}
theorem st_row (k : Nat) (c : RowC) : ({ st n l vs cs with rows := upd (st n l vs cs).rows k ⟨((st n l vs cs).rows k).ver, c⟩ } : AS) = st n l vs (insc cs k c) := by
 simp only [st, AS.mk.injEq, true_and]
 funext j
 rw [lookc_insc]
 unfold upd
 split
 · rename_i e; subst e; rfl
 · rfl
theorem awp_open {c : Code} (k : Nat) {m : List (RV × RV)} (hc : lookc cs k = .mp m) (h : ∀ bs cl, bs.length = m.length → awp P C c Q (st n l vs (insc cs k (.mpx m bs cl)))) : awp P C c Q (st n l vs cs) :=
 awp_openR k hc fun bs cl hl => by rw [st_row]; exact h bs cl hl
theorem sub_shut (k : Nat) {m : List (RV × RV)} {bs : List Nat} {cl : Nat} (hc : lookc cs k = .mpx m bs cl) : Sub (st n l vs cs) (st n l vs (insc cs k (.mp m))) := by
 have := sub_shutR (s := st n l vs cs) k hc
 rwa [st_row] at this
end
theorem keyOk_same {kn : Option Nat} {key : RV} (h : keyOk kn key = true) : sameK key key = some true := by
 have hag : ∀ xs : List RV, allIt xs = true → cmpL xs xs = some true := fun xs => by
  induction xs with
  | nil => intro _; rfl
  | cons x xs ih =>
    intro hx
    cases x <;> simp only [allIt, Bool.false_eq_true] at hx
    simp [cmpL, ih hx]
 cases kn <;> cases key <;> simp only [keyOk, Bool.false_eq_true, Bool.and_eq_true] at h
 · simp [sameK]
 · simp only [sameK]; exact hag _ h.2
theorem findK_new {key z : RV} (hs : sameK key key = some true) : ∀ {m : List (RV × RV)} {i : Nat}, findK key m i = some none → ∃ j, findK key (m ++ [(key, z)]) i = some (some (j, z))
 | [], i, _ => ⟨i, by simp [findK, hs]⟩
 | e :: m, i, h => by
   simp only [findK, List.cons_append] at h ⊢
   split at h
   · cases h
   · exact findK_new hs h
   · cases h
def entOk (ops : Array Oper) (x y : Oper) : Bool :=
 match x.op, y.op with
 | .lookup t (.tmp p) (.tmp q) false, .mapEntry t' (.tmp p') (.tmp q') => t == t' && p == p' && q == q' && x.guard.isNone && y.guard.isNone && x.apart ops y
 | _, _ => false
section
variable {P : Program} {s : AS} {ops : Array Oper}
theorem exchangeE {oi oj : Oper} {y z : Yi} (hp : entOk ops oi oj = true) (hy : YieldsA P ops oi y s) (hz : YieldsA P ops oj z (s.app oi.dst y)) :
 YieldsA P ops oj z s ∧ YieldsA P ops oi y (s.app oj.dst z) ∧ (s.app oj.dst z).app oi.dst y = (s.app oi.dst y).app oj.dst z := by
 unfold entOk at hp
 split at hp
 · rename_i t p q t' p' q' e1 e2
   simp only [Bool.and_eq_true, beq_iff_eq] at hp
   obtain ⟨⟨⟨⟨⟨rfl, rfl⟩, rfl⟩, g1⟩, g2⟩, hap⟩ := hp
   obtain ⟨hap1, hap2, hap3⟩ := Oper.apart_spec hap
   have wi : ∀ s : AS, wantA ops s oi = some true := fun s => by unfold wantA; rw [Option.isNone_iff_eq_none.1 g1]
   have wj : ∀ s : AS, wantA ops s oj = some true := fun s => by unfold wantA; rw [Option.isNone_iff_eq_none.1 g2]
   have mi : ∀ y, ¬ mk oi y := fun y => by simp [mk, cls, vcall, e1]
   have mj : ∀ y, ¬ mk oj y := fun y => by simp [mk, cls, vcall, e2]
   have hy2 : (sLookup P s t (s.tm p) (s.tm q) false).pre ∧ y = (sLookup P s t (s.tm p) (s.tm q) false).y := by
    rcases hy with ⟨_, hy, _⟩ | ⟨hw, _⟩
    · unfold AY at hy; rw [e1] at hy; rcases hy with hy | hy; · simpa only [step, e1, AS.ev] using rx_no hy (by simp [isBS, e1])
      · exact (hy.no (by simp [isApp, e1])).elim
    · rw [wi] at hw; cases hw
   have hz2 : (sMapEntry P (s.app oi.dst y) t ((s.app oi.dst y).tm p) ((s.app oi.dst y).tm q)).pre ∧ z = (sMapEntry P (s.app oi.dst y) t ((s.app oi.dst y).tm p) ((s.app oi.dst y).tm q)).y := by
    rcases hz with ⟨_, hz, _⟩ | ⟨hw, _⟩
    · unfold AY at hz; rw [e2] at hz; rcases hz with hz | hz; · simpa only [step, e2, AS.ev] using rx_no hz (by simp [isBS, e2])
      · exact (hz.no (by simp [isApp, e2])).elim
    · rw [wj] at hw; cases hw
   have hyE : y.eff = [] := by
    rw [hy2.2]
    have h0 := hy2.1
    unfold sLookup at h0 ⊢
    (repeat' split at h0) <;> first | rfl | exact h0.elim
   have hyR : (s.app oi.dst y).rows = s.rows := by rw [app_rows]; simp [Yi.rows, hyE]
   have np : ∀ d, oi.dst = some d → p ≠ d ∧ q ≠ d := fun d hd => by
    have := hap1 d hd
    have e : oj.looksAt ops = oj.looksAt ops := rfl
    constructor
    · intro hc; subst hc; exact this (List.mem_append_left _ (List.mem_filterMap.2 ⟨.tmp p, by rw [e2]; simp [Op.operands], rfl⟩))
    · intro hc; subst hc; exact this (List.mem_append_left _ (List.mem_filterMap.2 ⟨.tmp q, by rw [e2]; simp [Op.operands], rfl⟩))
   have nq : ∀ d, oj.dst = some d → p ≠ d ∧ q ≠ d := fun d hd => by
    have := hap3 d hd
    constructor
    · intro hc; subst hc; exact this (List.mem_append_left _ (List.mem_filterMap.2 ⟨.tmp p, by rw [e1]; simp [Op.operands], rfl⟩))
    · intro hc; subst hc; exact this (List.mem_append_left _ (List.mem_filterMap.2 ⟨.tmp q, by rw [e1]; simp [Op.operands], rfl⟩))
   have tmo : ∀ (d : Option Nat) (y : Yi) (t : Nat), (∀ d', d = some d' → t ≠ d') → (s.app d y).tm t = s.tm t := fun d y t h => by
    rw [app_tm]
    cases d with
    | none => rfl
    | some d => exact upd_other _ _ (h d rfl)
   have t1 := tmo oi.dst y p fun d hd => (np d hd).1
   have t2 := tmo oi.dst y q fun d hd => (np d hd).2
   have t3 := tmo oj.dst z p fun d hd => (nq d hd).1
   have t4 := tmo oj.dst z q fun d hd => (nq d hd).2
   have hcong : ∀ s' : AS, s'.rows = s.rows → sMapEntry P s' t (s.tm p) (s.tm q) = sMapEntry P s t (s.tm p) (s.tm q) := fun s' h => by unfold sMapEntry; rw [h]
   rw [t1, t2, hcong _ hyR] at hz2
   have hz3 : (step P oj s).pre ∧ z = (step P oj s).y := by simpa only [step, e2, AS.ev] using hz2
   have hzA : AY P oj s z := by
    unfold AY; rw [e2]; exact .inl ⟨hz3.1, .inl hz3.2⟩
   have hzs : YieldsA P ops oj z s := .inl ⟨wj _, hzA, fun h => absurd h (mj _)⟩
   have hlook : (sLookup P (s.app oj.dst z) t (s.tm p) (s.tm q) false).pre ∧ (sLookup P (s.app oj.dst z) t (s.tm p) (s.tm q) false).y = (sLookup P s t (s.tm p) (s.tm q) false).y := by
    obtain ⟨h1, h2⟩ := hz2
    have h0 := hy2.1
    have hr : (s.app oj.dst z).rows = z.rows s.rows := app_rows _ _ _
    unfold sMapEntry at h1 h2
    split at h1
    · rename_i kt et kn k n key a1 a2 a3
      rw [a1, a2, a3] at h2
      simp only at h2
      unfold sLookup at h0 ⊢
      rw [a1, a2, a3] at h0 ⊢
      simp only at h0 ⊢
      split at h1
      · rename_i n' m bs cl zz a4 a5
        rw [a4, a5] at h2
        simp only at h2
        rw [hr]
        rw [a4, a5] at h0 ⊢
        simp only [mapOf] at h0 ⊢
        split at h1
        · rename_i j v a6
          rw [a6] at h2
          simp only at h2
          have hz : z.rows s.rows k = ⟨n', .mpx m bs cl⟩ := by rw [h2]; simp [Yi.rows, upd_same]
          rw [hz]
          simp only [mapOf, a6]
          exact ⟨⟨h1.1, h1.2⟩, by first | rfl | trivial⟩
        · rename_i a6
          rw [a6] at h2
          simp only at h2
          have hz : z.rows s.rows k = ⟨n', .mpx (m ++ [(key, zz)]) (bs ++ [cl]) (cl + 1)⟩ := by rw [h2]; simp [Yi.rows, upd_same]
          rw [hz]
          obtain ⟨j, hj⟩ := findK_new (z := zz) (keyOk_same h1.2) a6
          simp only [mapOf, hj]
          exact ⟨⟨h1.1, h1.2⟩, by first | rfl | trivial⟩
        · exact h1.elim
      · exact h1.elim
    · exact h1.elim
   refine ⟨hzs, .inl ⟨wi _, ?_, fun h => absurd h (mi _)⟩, ?_⟩
   · unfold AY
     rw [e1]
     refine .inl ?_
     refine ⟨?_, .inl ?_⟩
     · simp only [step, e1, AS.ev, t3, t4]; exact hlook.1
     · simp only [step, e1, AS.ev, t3, t4]; rw [hlook.2]; exact hy2.2
   · refine AS.ext (by simp only [app_n]) ?_ ?_
     · rw [app_tm, app_tm, app_tm, app_tm]
       cases hi : oi.dst with
       | none => cases oj.dst <;> rfl
       | some d =>
         cases hj : oj.dst with
         | none => rfl
         | some d' =>
           have : d ≠ d' := fun e => hap2 d hi (by rw [hj, e])
           exact upd_comm _ (Ne.symm this) _ _
     · rw [app_rows, app_rows, app_rows, app_rows]
       simp [Yi.rows, hyE]
 · cases hp
def pairE (ops : Array Oper) (x y : Oper) : Bool := okPair ops x y || entOk ops x y
theorem exchangeB {oi oj : Oper} {y z : Yi} (hp : pairE ops oi oj = true) (hne : NE s) (hy : YieldsA P ops oi y s) (hz : YieldsA P ops oj z (s.app oi.dst y)) :
 YieldsA P ops oj z s ∧ YieldsA P ops oi y (s.app oj.dst z) ∧ (s.app oj.dst z).app oi.dst y = (s.app oi.dst y).app oj.dst z := by
 unfold pairE at hp
 rcases Bool.or_eq_true _ _ ▸ hp with h | h
 · exact exchange h hne hy hz
 · exact exchangeE h hy hz
def lexOkE (ops : Array Oper) : Bool :=
 (List.range ops.size).all fun i => (deps ops i).all (fun e => decide (e < i)) &&
  (List.range ops.size).all fun j => !decide (i < j) || waits ops ops.size j i ||
   (match ops[i]?, ops[j]? with | some x, some y => pairE ops x y | _, _ => true)
theorem anyA_firstE {Q : AS → Prop} {n i : Nat} {oi : Oper} {y : Yi} (hi : ops[i]? = some oi) (hdst : dstOk ops n = true) : ∀ (fuel : Nat) (listed : Array Bool) (s : AS), s.n = n → NE s → down ops listed →
 (∀ j oj, ops[j]? = some oj → j ≠ i → listed.getD j true = false → waits ops ops.size j i = false → pairE ops oi oj = true) →
 i ∈ Region.ready .any ops listed → YieldsA P ops oi y s → anyA P ops Q fuel (listed.setIfInBounds i true) (s.app oi.dst y) → anyA P ops Q (fuel + 1) listed s := by
 intro fuel
 induction fuel with
 | zero =>
   intro listed s hn hne hdown _ hr hy H
   refine ⟨fun h => (by rw [h] at hr; cases hr), fun j hj => ?_⟩
   by_cases hji : j = i
   · subst hji; unfold qA; rw [hi]; exact ⟨y, hy, H⟩
   · have := ready_mono hj hji
     rw [H.1] at this
     cases this
 | succ fuel ih =>
   intro listed s hn hne hdown hfree hr hy H
   refine ⟨fun h => (by rw [h] at hr; cases hr), fun j hj => ?_⟩
   by_cases hji : j = i
   · subst hji; unfold qA; rw [hi]; exact ⟨y, hy, H⟩
   · have h1 := H.2 j (ready_mono hj hji)
     obtain ⟨hjun, oj, hoj, _⟩ := mem_ready.1 hj
     have hjun' : listed.getD j true = false := hjun
     have hnw : waits ops ops.size j i = false := by
      refine Decidable.byContradiction fun hw => ?_
      have hw : waits ops ops.size j i = true := by simpa using hw
      have h2 := waits_listed hdown _ _ _ (ready_deps hj) hw
      have h3 := (mem_ready.1 hr).1
      rcases Nat.lt_or_ge i listed.size with h' | h'
      · simp [h'] at h2 h3; rw [h3] at h2; cases h2
      · simp [Array.getElem?_eq_none h'] at h2
     have hpair := hfree j oj hoj hji hjun' hnw
     unfold qA at h1 ⊢
     rw [hoj] at h1 ⊢
     obtain ⟨z, hz, hK⟩ := h1
     obtain ⟨hz', hy', heq⟩ := exchangeB hpair hne hy hz
     refine ⟨z, hz', ?_⟩
     refine ih (listed.setIfInBounds j true) (s.app oj.dst z) (by rw [app_n]; exact hn) (hne.app hz' (by rw [hn]; exact dstOk_get hdst hoj)) (down_set hdown hj) (fun k ok hk hki hun hno => ?_) (ready_mono hr (Ne.symm hji)) hy' ?_
     · refine hfree k ok hk hki ?_ hno
       by_cases hjk : j = k
       · subst hjk; exact hjun'
       · rw [getD_set_ne true hjk] at hun; exact hun
     · rw [Array.setIfInBounds_comm _ _ hji, heq]
       exact hK
theorem lexOkE_spec (h : lexOkE ops = true) {i : Nat} (hi : i < ops.size) : (∀ e ∈ deps ops i, e < i) ∧ ∀ j, i < j → j < ops.size → waits ops ops.size j i = false → ∀ x y, ops[i]? = some x → ops[j]? = some y → pairE ops x y = true := by
 unfold lexOkE at h
 have := List.all_eq_true.1 h i (by simpa using hi)
 simp only [Bool.and_eq_true, List.all_eq_true, decide_eq_true_eq] at this
 refine ⟨this.1, fun j hij hj hw x y hx hy => ?_⟩
 have h2 := this.2 j (by simpa using hj)
 rw [hx, hy] at h2
 simpa [hij, hw] using h2
theorem anyA_lexE {Q : AS → Prop} {n : Nat} (hB : lexOkE ops = true) (hdst : dstOk ops n = true) : ∀ (l : List Oper) (k : Nat) (listed : Array Bool) (s : AS), (∀ j, l[j]? = ops[k + j]?) → k + l.length = ops.size → listed.size = ops.size →
 (∀ j, j < ops.size → listed.getD j false = decide (j < k)) → s.n = n → NE s → lexA P ops Q l s → anyA P ops Q l.length listed s
 | [], k, listed, s, _, hlen, hsz, hl, _, _, h => by
   refine ⟨?_, h⟩
   refine List.eq_nil_iff_forall_not_mem.2 fun j hj => ?_
   obtain ⟨h1, o, ho, _⟩ := mem_ready.1 hj
   have hj' : j < ops.size := (Array.getElem?_eq_some_iff.1 ho).1
   have h2 := hl j hj'
   simp only [List.length_nil, Nat.add_zero] at hlen
   have hjl : j < listed.size := by omega
   simp [hjl] at h1 h2
   rw [h1] at h2
   have : j < k := by omega
   simp [this] at h2
 | o :: l, k, listed, s, hlk, hlen, hsz, hl, hn, hne, h => by
   simp only [List.length_cons] at hlen
   have hk : k < ops.size := by omega
   have ho : ops[k]? = some o := by simpa using (hlk 0).symm
   obtain ⟨hdeps, hpairs⟩ := lexOkE_spec hB hk
   obtain ⟨y, hy, hrest⟩ := h
   have hunk : listed.getD k false = false := by rw [hl k hk]; simp
   have hsame : ∀ j, j < ops.size → listed.getD j true = listed.getD j false := fun j hj => by
    have : j < listed.size := by omega
    simp [this]
   have hready : k ∈ Region.ready .any ops listed := by
    refine mem_ready.2 ⟨by rw [hsame k hk]; exact hunk, o, ho, fun e he hb => ?_⟩
    have : e.on < k := hdeps e.on (by unfold deps; rw [ho]; exact List.mem_map.2 ⟨e, List.mem_filter.2 ⟨by simpa using he, hb⟩, rfl⟩)
    rw [hl e.on (by omega)]; simpa using this
   have hdown : down ops listed := fun j hj e he => by
    by_cases hjs : j < ops.size
    · rw [hl j hjs] at hj
      have hjk : j < k := by simpa using hj
      have := (lexOkE_spec hB hjs).1 e he
      rw [hl e (by omega)]; simp; omega
    · have : ¬ j < listed.size := by omega
      simp [Array.getElem?_eq_none (Nat.le_of_not_lt this)] at hj
   refine anyA_firstE ho hdst l.length listed s hn hne hdown (fun j oj hj hjk hun hw => ?_) hready hy ?_
   · have hj' : j < ops.size := (Array.getElem?_eq_some_iff.1 hj).1
     rw [hsame j hj', hl j hj'] at hun
     have : k < j := by simp at hun; omega
     exact hpairs j this hj' hw o oj ho hj
   · refine anyA_lexE hB hdst l (k + 1) _ _ (fun j => by have := hlk (j + 1); simpa [Nat.add_assoc, Nat.add_comm 1 j] using this) (by omega) (by simpa using hsz) (fun j hj => ?_) (by rw [app_n]; exact hn) (hne.app hy (by rw [hn]; exact dstOk_get hdst ho)) hrest
     by_cases hjk : k = j
     · subst hjk
       have : k < listed.size := by omega
       simp [this]
     · rw [getD_set_ne false hjk, hl j hj]
       simp; omega
theorem region_drawE {C : Ctx} {id : Nat} {a : Act} {w : World} {Q : AS → Prop} {Q' : Exit → Act → World → Prop} (hm : P.follows .mixedOrders = true) (hB : lexOkE ops = true) (hd : dstOk ops s.n = true)
 (hs : SRel C s a w) (hQ : ∀ s a w, Q s → SRel C s a w → Q' .normal a w) (h : lexA P ops Q ops.toList s) : (Code.region id ops true).wpIn (fnc C.rd) 0 P Q' a w := by
 obtain ⟨p, hs⟩ := hs
 have hs' : SR C p s a { w with drawn := w.drawn + 1 } := hs.below (w' := w.drew) ((Below.refl _ _).drew) (fun _ h => h) (fun _ h => .inl h) hs.rb
 refine wpIn_region_any hm (anyA_sound hQ _ _ _ _ _ p hd ?_ hs')
 have := anyA_lexE (n := s.n) hB hd ops.toList 0 (Array.replicate ops.size false) s (by simp) (by simp) (by simp) (fun j hj => by simp [hj]) rfl ⟨C, p, a, w, hs⟩ h
 simpa using this
theorem awp_drawE {C : Ctx} {Q : Exit → AS → Prop} {id : Nat} {l : List Oper} (hm : P.follows .mixedOrders = true) (hB : lexOkE l.toArray = true) (hd : dstOk l.toArray s.n = true) (h : aops P true l.toArray l (Q .normal) s) : awp P C (.region id l.toArray true) Q s := fun a w hs => by
 obtain ⟨p, hp⟩ := hs
 exact region_drawE hm hB hd ⟨p, hp⟩ (fun s a w hq hs => ⟨s, hs, hq⟩) (aops_lex l s hd ⟨C, p, a, w, hp⟩ h)
theorem awp_dregE {C : Ctx} {Q : Exit → AS → Prop} {id : Nat} {l : List Oper} (hm : P.follows .mixedOrders = true) (hB : lexOkE l.toArray = true) (hd : dstOk l.toArray s.n = true)
 (h : ∀ K : AS → Prop, (∀ s, Q .normal s → K s) → aops P true l.toArray l K s) : awp P C (.region id l.toArray true) Q s := awp_drawE hm hB hd (h _ fun _ h => h)
end
end Go.Oc

namespace Go.Oc
open Go Go.RowKit
set_option linter.unusedVariables false
set_option linter.unusedSimpArgs false
def sBuildOwn (P : Program) (s : AS) (d : Nat) (t : TypeId) (len : Nat) (parts : List (Nat × AV)) : Res :=
 match tyq P t with
 | some ⟨.slice e esz _ ez, _, _, _⟩ =>
   if len = 0 then .bad else
   match layE s.ver esz (List.replicate len ez) parts with
   | some es => ⟨0 < esz ∧ len * esz ≤ 16777216 ∧ d < 1000, True, ⟨.os d ((s.rows d).ver + 1) esz 0 len, [(d, ⟨(s.rows d).ver + 1, .arr e esz es⟩)]⟩⟩
   | none => .bad
 | _ => .bad
section
variable {P : Program} {C : Ctx} {p : Plan} {s : AS} {a : Act} {w : World} {o : Oper}
theorem good_buildOwn {t : TypeId} {n : Nat} {ps : Array (Nat × Operand)} (h : SR C p s a w) (ho : o.op = .buildSlice t n ps) (hp : (sBuildOwn P s (o.dst.getD 0) t n (ps.toList.map fun (i, x) => (i, s.ev x))).pre) :
 Done P C o s a w (sBuildOwn P s (o.dst.getD 0) t n (ps.toList.map fun (i, x) => (i, s.ev x))) := by
 have hparts := parts_rel h ps.toList
 unfold sBuildOwn at hp ⊢
 split at hp
 · rename_i e esz eb ez sz agg z e1
   obtain ⟨hu, hok, hsz, _, zv, hzv, hez⟩ := tyq_slice e1
   subst hsz
   obtain ⟨i, zval, hi, hzero, hcells, hz1, hzl⟩ := zeroOf_spec hzv
   split at hp
   · exact hp.elim
   · rename_i hn0
     rw [if_neg hn0]
     split at hp
     · rename_i es hlay
       obtain ⟨hpos, hmax, hd⟩ : 0 < P.cellsOf e ∧ n * P.cellsOf e ≤ 16777216 ∧ o.dst.getD 0 < 1000 := hp
       have hzc : zval.cells.size = P.cellsOf e := by rw [← hzl, ← hcells]; simp
       obtain ⟨cells', hf, hle, hl', hr, hr1⟩ := layE_rel (p := p) (w := w) _ (ps.toList.map fun x => (x.1, a.eval x.2)) _ _ (madeCells zval.cells (n * P.cellsOf e)) hlay
        (by intro e he; rw [List.eq_of_mem_replicate he, hez, List.length_map, hzl])
        (by
         rw [← hzc, madeCells_list, hcells, hez]
         clear hlay hn0 ho hmax
         induction n with
         | zero => simp [RV.relV]
         | succ n ih =>
           simp only [List.replicate_succ, List.flatten_cons]
           exact RV.relV_append (RV.relV_ofV1 w p.R zv) ih)
        (by
         rw [← hzc, madeCells_list, hcells]
         intro u hu
         obtain ⟨l, hl, hul⟩ := List.mem_flatten.1 hu
         rw [List.eq_of_mem_replicate hl] at hul
         exact hz1 u hul)
        hparts.1 hparts.2
       have hnl : es.length = n := by rw [hle]; simp
       have hcl : cells'.size = n * P.cellsOf e := by
        rw [← Array.length_toList, RV.relV_length hr]
        have : ∀ (es : List (List RV)), (∀ x ∈ es, x.length = P.cellsOf e) → es.flatten.length = es.length * P.cellsOf e := by
         intro es
         induction es with
         | nil => simp
         | cons x es ih =>
           intro h
           rw [List.flatten_cons, List.length_append, ih fun y hy => h y (by simp [hy]), h x (by simp), List.length_cons, Nat.add_mul]
           omega
        rw [this es hl', hnl]
       have hnm : n ≤ 16777216 := Nat.le_trans (Nat.le_mul_of_pos_right n hpos) hmax
       have hn := h.newRow (o.dst.getD 0) hd (.arr e (P.cellsOf e) es) rfl n (by simp only [maxLen]; omega) (.cells cells' e) (fun p' ver' hR hβ hγ hk => by
        simp only [rowRel]
        rw [hγ]
        refine .inr ⟨_, _, hβ, heap_alloc_new w _, hcl, by rw [hnl]; exact Nat.le_refl _, ?_⟩
        rw [hR]
        have hV : RV.relV (w.alloc (.cells cells' e)) p.R es.flatten cells'.toList :=
         RV.relV_mono (fun _ h => h) (fun ad hr => World.cell?_alloc_lt w _ ad (h.rb _ hr)) _ _ hr
        refine relE_of_vals hl' hV hr1 (fun j u hj => ?_)
        rw [add_at]
        simp only [Nat.zero_add, World.cell?_alloc_new]
        simpa using hj)
       refine ⟨_, .slice (some ⟨w.heap.size, 0, none⟩) n n, _, _, ?_, .inl rfl, trivial, by rw [rows_one]; exact hn, ?_⟩
       · have hmap : (ps.map fun (x : Nat × Operand) => (x.1, a.eval x.2)).toList = ps.toList.map fun x => (x.1, a.eval x.2) := by simp
         have hne : ¬ (n * P.cellsOf e = 0) := by
          have := Nat.mul_pos (show 0 < n by omega) hpos
          omega
         have hz : (zeroValue e).run P w = .ok zval w := by simp [zeroValue, typeInfo, hi, hzero]
         have hf' := hf
         simp only [madeCells] at hf'
         simp only [execOp, ho, Instr.buildSlice, Sem.run_bind, run_underlying hu, Result.andThen_ok, run_sizeOf_ok hok, if_neg (show ¬ (n * P.cellsOf e > 2 ^ 24) by omega), if_neg hne, hz, Sem.run_pure, hmap, hf']
         simp [newRow]
       · rw [rows_one]
         simp only [AV.rel, vers, upd_same]
         exact ⟨Nat.le_refl _, fun _ => .inr ⟨_, _, rfl, by simp; rfl, by omega, fun _ => by simp⟩⟩
     · exact hp.elim
 · exact hp.elim
variable {Q : Exit → AS → Prop} {ops : Array Oper}
theorem sops_own {l : List Oper} {t : TypeId} {n : Nat} {ps : List (Nat × Operand)} {d : Nat} {ty : TypeId} {pos : String} {af : Array Edge} (hdn : d < s.n)
 (h : aR s (some d) (sBuildOwn P s d t n (evp s ps)) (fun s' => sops P C ops l Q s')) : sops P C ops (⟨some d, .buildSlice t n ps.toArray, ty, pos, af, none⟩ :: l) Q s := fun a w ⟨p, hs⟩ => by
 rw [← evp_eq] at h
 unfold wpListIn
 rw [if_pos (wantA_sound hs (by simp [wantA]))]
 refine wpIn_of_wp (by intro c h; cases h) ?_
 obtain ⟨nx, v, w', p', hrun, hnx, hass, hSR, hrel⟩ := good_buildOwn (o := ⟨some d, .buildSlice t n ps.toArray, ty, pos, af, none⟩) hs rfl h.1
 unfold Oper.wp
 rw [hrun]
 have hput := hSR.put' (d := some d) hrel (fun t ht => by injection ht with ht; subst ht; exact hdn)
 rcases hnx with rfl | ⟨rfl, rfl⟩
 · exact h.2 hass _ _ ⟨p', hput⟩
 · exact h.2 hass _ _ ⟨p', hput⟩
end
end Go.Oc

namespace Go.Oc
open Go Go.RowKit
set_option linter.unusedVariables false
set_option linter.unusedSimpArgs false
section
variable {P : Program} {C : Ctx} {s : AS} {Q : Exit → AS → Prop}
theorem awp_capR {c : Code} (k : Nat) {t sz : Nat} {es : List (List RV)} (hc : (s.rows k).c = .arr t sz es) (hne : 0 < es.length) (h : ∀ c0, es.length ≤ c0 → awp P C c Q { s with rows := upd s.rows k ⟨(s.rows k).ver, .arc t sz es c0⟩ }) : awp P C c Q s := fun a w ⟨p, hs⟩ => by
 have hrow := hs.rw k
 rw [hc] at hrow
 simp only [rowRel] at hrow
 rcases hrow with ⟨_, h0, _⟩ | ⟨b, cells, hβ, h1, h2, h3, h4⟩
 · subst h0; simp at hne
 · have hset := hs.setRow (w' := w) k (.arc t sz es (p.γ k)) (by rw [hc]; rfl) (fun _ _ _ _ h => by cases h) hβ rfl rfl rfl rfl (fun i _ => rfl) (fun _ => by
    simp only [rowRel]
    exact ⟨b, cells, hβ, h1, trivial, h2, h3, h4⟩)
   exact h _ h3 a w ⟨p, hset⟩
theorem sub_uncapR (k : Nat) {t sz c0 : Nat} {es : List (List RV)} (hc : (s.rows k).c = .arc t sz es c0) : Sub s { s with rows := upd s.rows k ⟨(s.rows k).ver, .arr t sz es⟩ } := fun C a w ⟨p, hs⟩ => by
 have hrow := hs.rw k
 rw [hc] at hrow
 simp only [rowRel] at hrow
 obtain ⟨b, cells, hβ, h1, h2, h3, h4, h5⟩ := hrow
 exact ⟨p, hs.setRow (w' := w) k (.arr t sz es) (by rw [hc]; rfl) (fun _ _ _ _ h => by cases h) hβ rfl rfl rfl rfl (fun i _ => rfl) (fun _ => by
  simp only [rowRel]
  exact .inr ⟨b, cells, hβ, h1, by rw [h2]; exact h3, by rw [h2]; exact h4, h5⟩)⟩
theorem sub_fullR (t k v sz ty : Nat) {es : List (List RV)} (hk0 : k < 1000) (ht : s.tm t = .os k v sz 0 es.length) (hv : v = s.ver k) (hc : (s.rows k).c = .arc ty sz es es.length) (hne : 0 < es.length) :
 Sub s { s with tm := upd s.tm t (.r (.sx sz es)), rows := upd s.rows k ⟨(s.rows k).ver + 1, .dead⟩ } := fun C a w ⟨p, hp⟩ => by
 have h1 := hp.reRow (w' := w) k hk0 .dead rfl none 1 (by simp [maxLen]) rfl rfl rfl (Nat.le_refl _) (fun _ _ _ => rfl) (fun _ h => by cases h) (fun p' ver' _ hβ hγ _ => by simp only [rowRel]; exact ⟨hβ, hγ⟩)
 have hval := hp.tm t
 rw [ht] at hval
 have hrow := hp.rw k
 rw [hc] at hrow
 simp only [rowRel] at hrow
 obtain ⟨b, cells, hβ, hh, hγ, hcs, _, hE⟩ := hrow
 simp only [AV.rel] at hval
 obtain ⟨g1, _, g2⟩ := hp.bl k b hβ
 have h2 := h1.publish (b := b) g1 (g2.imp id fun h => h.resolve_left (fun h => by omega)) (fun j hj => by
  have hj' : upd p.β k none j = some b := hj
  by_cases e : j = k
  · subst e; rw [upd_same] at hj'; cases hj'
  · rw [upd_other _ _ e] at hj'; exact e (hp.ij j k b hj' hβ)) (hp.ex.publish hβ)
 refine ⟨_, { h2 with tm := fun j => ?_ }⟩
 show AV.rel w _ _ (upd s.tm t _ j) _
 by_cases hj : j = t
 · subst hj
   rw [upd_same]
   simp only [AV.rel, RV.rel]
   rcases hval.2 hv with ⟨hb, _⟩ | ⟨b', A, hb, hva, hle, hA⟩
   · rw [hb] at hβ; cases hβ
   · rw [hβ] at hb
     injection hb with hb
     subst hb
     obtain rfl := hA (by simp)
     have hcap := hp.cap k
     refine ⟨_, by rw [hva, hγ]; rfl, by intro h; subst h; simp at hne, by rw [hγ] at hcap; exact hcap, .inr rfl, ?_⟩
     simp only [Nat.zero_mul]
     exact RV.relE_mono (fun _ h => .inl h) (fun _ _ => rfl) _ _ _ _ (fun _ => rfl) hE
 · rw [upd_other _ _ hj]
   exact h2.tm j
variable {n : Nat} {l : List (Nat × AV)} {vs : Nat → Nat} {cs : List (Nat × RowC)}
theorem awp_cap {c : Code} (k : Nat) {t sz : Nat} {es : List (List RV)} (hc : lookc cs k = .arr t sz es) (hne : 0 < es.length) (h : ∀ c0, es.length ≤ c0 → awp P C c Q (st n l vs (insc cs k (.arc t sz es c0)))) : awp P C c Q (st n l vs cs) :=
 awp_capR k hc hne fun c0 hl => by rw [st_row]; exact h c0 hl
theorem sub_uncap (k : Nat) {t sz c0 : Nat} {es : List (List RV)} (hc : lookc cs k = .arc t sz es c0) : Sub (st n l vs cs) (st n l vs (insc cs k (.arr t sz es))) := by
 have := sub_uncapR (s := st n l vs cs) k hc
 rwa [st_row] at this
theorem sub_full (t k : Nat) {sz ty : Nat} {es : List (List RV)} (hk0 : k < 1000) (ht : look l t = .os k (vs k) sz 0 es.length) (hc : lookc cs k = .arc ty sz es es.length) (hne : 0 < es.length) :
 Sub (st n l vs cs) (st n ((t, .r (.sx sz es)) :: l) (upd vs k (vs k + 1)) (delc cs k)) := by
 have := sub_fullR (s := st n l vs cs) t k (vs k) sz ty hk0 ht rfl hc hne
 have e : ({ st n l vs cs with tm := upd (st n l vs cs).tm t (.r (.sx sz es)), rows := upd (st n l vs cs).rows k ⟨((st n l vs cs).rows k).ver + 1, .dead⟩ } : AS) = st n ((t, .r (.sx sz es)) :: l) (upd vs k (vs k + 1)) (delc cs k) := by
  simp only [st, AS.mk.injEq, true_and]
  constructor
  · funext j
    show upd (look l) t (.r (.sx sz es)) j = look ((t, .r (.sx sz es)) :: l) j
    rfl
  · funext j
    rw [lookc_delc]
    unfold upd
    split <;> rfl
 rwa [e] at this
theorem sub_sx (t : Nat) {sz : Nat} {es : List (List RV)} (h : look l t = .r (.sx sz es)) : Sub (st n l vs cs) (st n ((t, .r (.sl sz es)) :: l) vs cs) := fun C a w ⟨p, hp⟩ => by
 refine ⟨p, { hp with tm := fun j => ?_ }⟩
 show AV.rel w _ _ (look ((t, .r (.sl sz es)) :: l) j) _
 rw [look_cons]
 split
 · rename_i e
   subst e
   have := hp.tm j
   have e2 : (st n l vs cs).tm j = .r (.sx sz es) := h
   rw [e2] at this
   simp only [AV.rel, RV.rel] at this ⊢
   obtain ⟨ad, h1, h2, h3, h4, h5⟩ := this
   exact ⟨_, _, h1, Nat.le_refl _, h3, fun _ => ⟨ad, rfl, h4, h5⟩⟩
 · exact hp.tm j
end
end Go.Oc

namespace Go.Oc
open Go Go.RowKit
set_option linter.unusedVariables false
set_option linter.unusedSimpArgs false
mutual
def AV.park (k : Nat) (u : Addr) : AV → AV
 | .r x => .r x
 | .pt j n off => if j = k then (if off = 0 then .r (.vl u) else .r .un) else .pt j n off
 | .pe j n sz idx off => if j = k then .r .un else .pe j n sz idx off
 | .os j n sz off m => if j = k then .r .un else .os j n sz off m
 | .mp j n => if j = k then .r .un else .mp j n
 | .mi j n => if j = k then .r .un else .mi j n
 | .pu j n u' => if j = k then .r (.vl u') else .pu j n u'
 | .fn f cs => .fn f (AV.parkL k u cs)
 | .ag cs => .ag (AV.parkL k u cs)
 | .tu cs => .tu (AV.parkL k u cs)
def AV.parkL (k : Nat) (u : Addr) : List AV → List AV
 | [] => []
 | x :: xs => x.park k u :: AV.parkL k u xs
end
def RowC.park (k : Nat) (u : Addr) : RowC → RowC
 | .box cs => .box (AV.parkL k u cs)
 | .sus cs vs => .sus (AV.parkL k u cs) vs
 | c => c
section
variable {w : World} {p : Plan} {ver : Nat → Nat} {k b0 g0 : Nat}
mutual
theorem park_rel (hv : ver k = 0) (hβ : p.β k = some b0) : ∀ (x : AV) (v : Value), x.rel w p ver v → (x.park k ⟨b0, 0, none⟩).rel w { p with β := upd p.β k none, γ := upd p.γ k 1 } ver v
 | .r x, v, h => by simpa only [AV.park, AV.rel] using h
 | .pt j n off, v, h => by
   unfold AV.park
   split
   · rename_i e
     subst e
     split
     · rename_i e0
       subst e0
       simp only [AV.rel] at h
       obtain ⟨b, hb, hv'⟩ := h.2 (by omega)
       rw [hβ] at hb
       injection hb with hb
       subst hb
       simp only [AV.rel, RV.rel]
       exact hv'
     · exact AV.rel_un _ _ _ _
   · rename_i e
     simp only [AV.rel, upd_other _ _ e] at h ⊢
     exact h
 | .pe j n sz idx off, v, h => by
   unfold AV.park
   split
   · exact AV.rel_un _ _ _ _
   · rename_i e
     simp only [AV.rel, upd_other _ _ e] at h ⊢
     exact h
 | .os j n sz off m, v, h => by
   unfold AV.park
   split
   · exact AV.rel_un _ _ _ _
   · rename_i e
     simp only [AV.rel, upd_other _ _ e] at h ⊢
     exact h
 | .mp j n, v, h => by
   unfold AV.park
   split
   · exact AV.rel_un _ _ _ _
   · rename_i e
     simp only [AV.rel, upd_other _ _ e] at h ⊢
     exact h
 | .mi j n, v, h => by
   unfold AV.park
   split
   · exact AV.rel_un _ _ _ _
   · rename_i e
     simp only [AV.rel, upd_other _ _ e] at h ⊢
     exact h
 | .pu j n u', v, h => by
   unfold AV.park
   split
   · simp only [AV.rel] at h
     simp only [AV.rel, RV.rel]
     exact h.1
   · rename_i e
     simp only [AV.rel, upd_other _ _ e] at h ⊢
     exact h
 | .fn f cs, v, h => by
   simp only [AV.park, AV.rel] at h ⊢
   obtain ⟨vs, h1, h2⟩ := h
   exact ⟨vs, h1, parkL_rel hv hβ cs _ h2⟩
 | .ag cs, v, h => by
   simp only [AV.park, AV.rel] at h ⊢
   obtain ⟨vs, h1, h2, h3⟩ := h
   exact ⟨vs, h1, h2, parkL_rel hv hβ cs _ h3⟩
 | .tu cs, v, h => by
   simp only [AV.park, AV.rel] at h ⊢
   obtain ⟨vs, h1, h2⟩ := h
   exact ⟨vs, h1, parkL_rel hv hβ cs _ h2⟩
theorem parkL_rel (hv : ver k = 0) (hβ : p.β k = some b0) : ∀ (xs : List AV) (vs : List Value), AV.relV w p ver xs vs → AV.relV w { p with β := upd p.β k none, γ := upd p.γ k 1 } ver (AV.parkL k ⟨b0, 0, none⟩ xs) vs
 | [], _, h => by simpa only [AV.parkL, AV.relV] using h
 | x :: xs, vs, h => by
   simp only [AV.parkL, AV.relV] at h ⊢
   obtain ⟨u, us, h1, h2, h3⟩ := h
   exact ⟨u, us, h1, park_rel hv hβ x u h2, parkL_rel hv hβ xs us h3⟩
end
mutual
theorem unpark_rel (hv : ver k = 0) (hβ : p.β k = none) (hγ : p.γ k = 1) : ∀ (x : AV) (v : Value), x.rel w p ver v → x.rel w { p with β := upd p.β k (some b0), γ := upd p.γ k g0 } ver v
 | .r x, v, h => by simpa only [AV.rel] using h
 | .pt j n off, v, h => by
   by_cases e : j = k
   · subst e
     simp only [AV.rel] at h
     obtain ⟨b, hb, _⟩ := h.2 (by omega)
     rw [hβ] at hb; cases hb
   · simp only [AV.rel, upd_other _ _ e] at h ⊢
     exact h
 | .pe j n sz idx off, v, h => by
   by_cases e : j = k
   · subst e
     simp only [AV.rel] at h
     obtain ⟨b, hb, _⟩ := h.2 (by omega)
     rw [hβ] at hb; cases hb
   · simp only [AV.rel, upd_other _ _ e] at h ⊢
     exact h
 | .os j n sz off m, v, h => by
   by_cases e : j = k
   · subst e
     simp only [AV.rel] at h
     rcases h.2 (by omega) with ⟨_, h1, _⟩ | ⟨b, _, hb, _⟩
     · rw [hγ] at h1; cases h1
     · rw [hβ] at hb; cases hb
   · simp only [AV.rel, upd_other _ _ e] at h ⊢
     exact h
 | .mp j n, v, h => by
   by_cases e : j = k
   · subst e
     simp only [AV.rel] at h
     obtain ⟨b, hb, _⟩ := h.2 (by omega)
     rw [hβ] at hb; cases hb
   · simp only [AV.rel, upd_other _ _ e] at h ⊢
     exact h
 | .mi j n, v, h => by
   by_cases e : j = k
   · subst e
     simp only [AV.rel] at h
     obtain ⟨b, hb, _⟩ := h.2 (by omega)
     rw [hβ] at hb; cases hb
   · simp only [AV.rel, upd_other _ _ e] at h ⊢
     exact h
 | .pu j n u', v, h => by
   by_cases e : j = k
   · subst e
     simp only [AV.rel] at h
     obtain ⟨b, hb, _⟩ := h.2.2 (by omega)
     rw [hβ] at hb; cases hb
   · simp only [AV.rel, upd_other _ _ e] at h ⊢
     exact h
 | .fn f cs, v, h => by
   simp only [AV.rel] at h ⊢
   obtain ⟨vs, h1, h2⟩ := h
   exact ⟨vs, h1, unparkL_rel hv hβ hγ cs _ h2⟩
 | .ag cs, v, h => by
   simp only [AV.rel] at h ⊢
   obtain ⟨vs, h1, h2, h3⟩ := h
   exact ⟨vs, h1, h2, unparkL_rel hv hβ hγ cs _ h3⟩
 | .tu cs, v, h => by
   simp only [AV.rel] at h ⊢
   obtain ⟨vs, h1, h2⟩ := h
   exact ⟨vs, h1, unparkL_rel hv hβ hγ cs _ h2⟩
theorem unparkL_rel (hv : ver k = 0) (hβ : p.β k = none) (hγ : p.γ k = 1) : ∀ (xs : List AV) (vs : List Value), AV.relV w p ver xs vs → AV.relV w { p with β := upd p.β k (some b0), γ := upd p.γ k g0 } ver xs vs
 | [], _, h => by simpa only [AV.relV] using h
 | x :: xs, vs, h => by
   simp only [AV.relV] at h ⊢
   obtain ⟨u, us, h1, h2, h3⟩ := h
   exact ⟨u, us, h1, unpark_rel hv hβ hγ x u h2, unparkL_rel hv hβ hγ xs us h3⟩
end
theorem parkRow_rel (hv : ver k = 0) (hβ : p.β k = some b0) {j : Nat} (hj : j ≠ k) : ∀ (c : RowC), (∀ km n l cur, c = .mi km n l cur → km ≠ k) → rowRel w p ver j c → rowRel w { p with β := upd p.β k none, γ := upd p.γ k 1 } ver j (c.park k ⟨b0, 0, none⟩)
 | .dead, _, h => by simpa only [RowC.park, rowRel, upd_other _ _ hj] using h
 | .box cs, _, h => by
   simp only [RowC.park, rowRel, upd_other _ _ hj] at h ⊢
   obtain ⟨b, cells, t, h1, h2, h3, h4⟩ := h
   exact ⟨b, cells, t, h1, h2, parkL_rel hv hβ cs _ h3, h4⟩
 | .arr t sz es, _, h => by simpa only [RowC.park, rowRel, upd_other _ _ hj] using h
 | .arc t sz es c, _, h => by simpa only [RowC.park, rowRel, upd_other _ _ hj] using h
 | .mp m, _, h => by simpa only [RowC.park, rowRel, upd_other _ _ hj] using h
 | .mpi m, _, h => by simpa only [RowC.park, rowRel, upd_other _ _ hj] using h
 | .mpx m bs cl, _, h => by simpa only [RowC.park, rowRel, upd_other _ _ hj] using h
 | .mi km n left cur, hm, h => by simpa only [RowC.park, rowRel, upd_other _ _ hj, upd_other _ _ (hm km n left cur rfl)] using h
 | .gh P l z left, _, h => by simpa only [RowC.park, rowRel, upd_other _ _ hj] using h
 | .sus cs vs, _, h => by
   simp only [RowC.park, rowRel, upd_other _ _ hj] at h ⊢
   exact ⟨h.1, h.2.1, parkL_rel hv hβ cs _ h.2.2⟩
theorem unparkRow_rel (hv : ver k = 0) (hβ : p.β k = none) (hγ : p.γ k = 1) {j : Nat} (hj : j ≠ k) : ∀ (c : RowC), (∀ km n l cur, c = .mi km n l cur → km ≠ k) → rowRel w p ver j c → rowRel w { p with β := upd p.β k (some b0), γ := upd p.γ k g0 } ver j c
 | .dead, _, h => by simpa only [rowRel, upd_other _ _ hj] using h
 | .box cs, _, h => by
   simp only [rowRel, upd_other _ _ hj] at h ⊢
   obtain ⟨b, cells, t, h1, h2, h3, h4⟩ := h
   exact ⟨b, cells, t, h1, h2, unparkL_rel hv hβ hγ cs _ h3, h4⟩
 | .arr t sz es, _, h => by simpa only [rowRel, upd_other _ _ hj] using h
 | .arc t sz es c, _, h => by simpa only [rowRel, upd_other _ _ hj] using h
 | .mp m, _, h => by simpa only [rowRel, upd_other _ _ hj] using h
 | .mpi m, _, h => by simpa only [rowRel, upd_other _ _ hj] using h
 | .mpx m bs cl, _, h => by simpa only [rowRel, upd_other _ _ hj] using h
 | .mi km n left cur, hm, h => by simpa only [rowRel, upd_other _ _ hj, upd_other _ _ (hm km n left cur rfl)] using h
 | .gh P l z left, _, h => by simpa only [rowRel, upd_other _ _ hj] using h
 | .sus cs vs, _, h => by
   simp only [rowRel, upd_other _ _ hj] at h ⊢
   exact ⟨h.1, h.2.1, unparkL_rel hv hβ hγ cs _ h.2.2⟩
end
def Parked (C : Ctx) (u : Addr) (us : List Value) : Prop :=
 ∃ b cells t, u = ⟨b, 0, none⟩ ∧ us = cells.toList ∧ C.hd b ∧ C.w0.heap[b]? = some (.cells cells t (0, 0)) ∧ ∀ v ∈ us, v.oneCell' = true
section
variable {P : Program} {C : Ctx} {p : Plan} {s : AS} {a : Act} {w : World} {Q : Exit → AS → Prop}
theorem parked_read {k : Nat} {rs : List RV} {u : Addr} {us : List Value} (h : SR C p s a w) (hc : (s.rows k).c = .sus (rs.map .r) us) (hP : Parked C u us) : ∃ b0, C.hd b0 ∧ RV.rel w (fun b => p.R b ∨ b = b0) (.rp rs) (.pointer (some u)) := by
 obtain ⟨b, cells, t, rfl, rfl, hhd, hw0, h1⟩ := hP
 obtain ⟨g1, g2, g3, _⟩ := h.ex.hd b hhd
 have hb := (h.base.block b g1 g2 g3).trans hw0
 have hr := h.rw k
 rw [hc] at hr
 simp only [rowRel] at hr
 refine ⟨b, hhd, ?_⟩
 simp only [RV.rel]
 refine ⟨_, rfl, .inr rfl, RV.relC_of_get fun i x hx => ?_⟩
 have hV : ∀ (rs : List RV) (us : List Value), AV.relV w p s.ver (rs.map .r) us → RV.relV w p.R rs us := by
  intro rs
  induction rs with
  | nil => intro us h; simpa only [List.map_nil, AV.relV, RV.relV] using h
  | cons r rs ih =>
    intro us h
    simp only [List.map_cons, AV.relV, AV.rel] at h
    simp only [RV.relV]
    obtain ⟨u, us', e, h2, h3⟩ := h
    exact ⟨u, us', e, h2, ih us' h3⟩
 obtain ⟨v, hv, hx'⟩ := RV.relV_get (hV rs _ hr.2.2) hx
 refine ⟨v, ?_, h1 v (List.mem_of_getElem? hv), RV.rel_mono (fun _ h => .inl h) (fun _ _ => rfl) _ _ hx'⟩
 rw [Nat.zero_add, add_at, Nat.zero_add, cell_of_row w b i cells t (0, 0) hb]
 simpa using hv
theorem awp_park {c : Code} (k t0 : Nat) (u0 : Addr) (rs : List RV) (ht0 : s.tm t0 = .pu k 0 u0) (hX : C.X = XS.none) (hrd : C.rd = none) (hown : ∀ b, ¬ C.own b) (hk : 1000 ≤ k) (hv : s.ver k = 0) (hc : (s.rows k).c = .box (rs.map .r)) (hcb : ∃ x, C.pin k = some x ∧ ∀ b, x.1 = some b → C.bor b)
 (h : ∀ us C2, (C2.rd = none ∧ C2.X = XS.none) ∧ (∀ b, ¬ C2.own b) → Parked C2 u0 us → awp P C2 c (fun e s' => s'.tm t0 = .r (.vl u0) ∧ s'.rows k = ⟨0, .sus (rs.map .r) us⟩ ∧ Q e ⟨s'.n, upd s'.tm t0 (.pu k 0 u0), upd s'.rows k ⟨0, .box (rs.map .r)⟩⟩)
  ⟨s.n, fun t => (s.tm t).park k u0, fun j => if j = k then ⟨0, .sus (rs.map .r) us⟩ else ⟨(s.rows j).ver, (s.rows j).c.park k u0⟩⟩) : awp P C c Q s := by
 rintro a w ⟨p, hS⟩
 have hn : ∀ o w Ψ Θ, ¬ C.X.X o w Ψ Θ := fun o w Ψ Θ h => by rw [hX] at h; exact h
 have hψ := hS.ex.ψn hn
 have hrow := hS.rw k
 rw [hc] at hrow
 simp only [rowRel] at hrow
 obtain ⟨b0, cells, ty, hβ, hheap, hcells, hone⟩ := hrow
 have hbor : C.bor b0 := by
  obtain ⟨x, hx, hxb⟩ := hcb
  exact hxb b0 ((hS.pn k x hx).1.symm.trans hβ)
 have hb0 := hS.ex.bo b0 (.inl hbor)
 have hu0 : u0 = ⟨b0, 0, none⟩ := by
  have hx := hS.tm t0
  rw [ht0] at hx
  simp only [AV.rel] at hx
  obtain ⟨b, hb, hbv⟩ := hx.2.2 hv.symm
  rw [hβ] at hb
  injection hb with hb
  subst hb
  have := hx.1.symm.trans hbv
  injection this with this
  injection this
 subst hu0
 let C2 : Ctx := { C with w0 := C.w0.putObj b0 (.cells cells ty (0, 0)), bor := fun b => C.bor b ∧ b ≠ b0, hd := fun b => C.hd b ∨ b = b0, pin := fun j => if j = k then none else C.pin j }
 let p2 : Plan := { p with β := upd p.β k none, γ := upd p.γ k 1 }
 have hsz0 : C2.w0.heap.size = C.w0.heap.size := World.putObj_size
 have hkver : ∀ j, (if j = k then (⟨0, .sus (rs.map .r) cells.toList⟩ : Row) else ⟨(s.rows j).ver, (s.rows j).c.park k ⟨b0, 0, none⟩⟩).ver = s.ver j := fun j => by
  split
  · rename_i e; subst e; exact hv.symm
  · rfl
 have hver : AS.ver ⟨s.n, fun t => (s.tm t).park k ⟨b0, 0, none⟩, fun j => if j = k then ⟨0, .sus (rs.map .r) cells.toList⟩ else ⟨(s.rows j).ver, (s.rows j).c.park k ⟨b0, 0, none⟩⟩⟩ = s.ver := funext hkver
 have hβ2 : ∀ j b, p2.β j = some b → j ≠ k ∧ p.β j = some b ∧ b ≠ b0 := fun j b hb => by
  have hb' : upd p.β k none j = some b := hb
  by_cases e : j = k
  · subst e; rw [upd_same] at hb'; cases hb'
  · rw [upd_other _ _ e] at hb'
    exact ⟨e, hb', fun e2 => e (hS.ij j k b hb' (e2 ▸ hβ))⟩
 have hmi : ∀ j km n l cur, (s.rows j).c = .mi km n l cur → km ≠ k := fun j km n l cur hj e => by
  subst e
  have hr := hS.rw j
  rw [hj] at hr
  simp only [rowRel] at hr
  obtain ⟨_, _, h2, _⟩ := hr
  have := hS.lk j km n l cur hj (by omega)
  rw [hc] at this; cases this
 have hS2 : SR C2 p2 ⟨s.n, fun t => (s.tm t).park k ⟨b0, 0, none⟩, fun j => if j = k then ⟨0, .sus (rs.map .r) cells.toList⟩ else ⟨(s.rows j).ver, (s.rows j).c.park k ⟨b0, 0, none⟩⟩⟩ a w := {
  base := ⟨hS.base.os, hS.base.tape, hS.base.output, by rw [hsz0]; exact hS.base.size, fun j hj hjb hjo => by
   rw [hsz0] at hj
   by_cases e : j = b0
   · subst e
     show _ = (C.w0.putObj j _).heap[j]?
     rw [hheap, World.putObj_heap_same hj]
   · show _ = (C.w0.putObj b0 _).heap[j]?
     rw [World.putObj_heap_other e]
     exact hS.base.block j hj (fun hb => hjb ⟨hb, e⟩) hjo⟩
  r0 := hS.r0
  rn := fun b hb => by
   rcases hS.rn b hb with g | g | g
   · exact .inl g
   · exact .inr (.inl (by rw [hsz0]; exact g))
   · exact .inr (.inr g)
  rb := hS.rb
  tm := fun t => by rw [hver]; exact park_rel hv hβ _ _ (hS.tm t)
  sz := hS.sz
  ex := {
   px := hS.ex.px
   n0 := by rw [hsz0]; exact hS.ex.n0
   ψ0 := hS.ex.ψ0
   ψl := hS.ex.ψl
   θl := hS.ex.θl
   ψb := fun j b _ => hψ b
   ψr := hS.ex.ψr
   ψo := hS.ex.ψo
   θo := fun b hb => ((hψ b).2 hb).elim
   bo := fun b hb => by rw [hsz0]; exact hS.ex.bo b (hb.imp (fun h => h.1) id)
   ψn := hS.ex.ψn
   hd := fun b hb => by
    rw [hsz0]
    rcases hb with hb | rfl
    · obtain ⟨g1, g2, g3, g4, g5, g6, g7, g8⟩ := hS.ex.hd b hb
      exact ⟨g1, fun h => g2 h.1, g3, g4, g5, g6, g7, fun j hj => g8 j (hβ2 j b hj).2.1⟩
    · exact ⟨hb0, fun h => h.2 rfl, hown b, (hS.bl k b hβ).1, (hS.bl k b hβ).2.1, (hψ b).1, (hψ b).2, fun j hj => (hβ2 j b hj).2.2 rfl⟩
   rm := hS.ex.rm
   df := by
    obtain ⟨Ds, g1, g2, g3⟩ := hS.ex.df
    refine ⟨Ds, g1, g2, fun D hD => ?_⟩
    obtain ⟨k1, k2, k3, k4, k5⟩ := g3 D hD
    exact ⟨k1, by rw [hsz0]; exact k2, k3, fun j hj => k4 j (hβ2 j D hj).2.1, k5⟩ }
  rw := fun j => by
   rw [hver]
   show rowRel w p2 s.ver j (if j = k then (⟨0, .sus (rs.map .r) cells.toList⟩ : Row) else ⟨(s.rows j).ver, (s.rows j).c.park k ⟨b0, 0, none⟩⟩).c
   split
   · rename_i e
     subst e
     simp only [rowRel]
     refine ⟨upd_same _ _ _, upd_same _ _ _, ?_⟩
     have hV : ∀ (rs : List RV) (us : List Value), AV.relV w p s.ver (rs.map .r) us → AV.relV w p2 s.ver (rs.map .r) us := by
      intro rs
      induction rs with
      | nil => intro us h; simpa only [List.map_nil, AV.relV] using h
      | cons r rs ih =>
        intro us h
        simp only [List.map_cons, AV.relV, AV.rel] at h ⊢
        obtain ⟨u, us', e, h2, h3⟩ := h
        exact ⟨u, us', e, h2, ih us' h3⟩
     exact hV rs _ hcells
   · rename_i e
     exact parkRow_rel hv hβ e _ (fun km n l cur hj => hmi j km n l cur hj) (hS.rw j)
  bl := fun j b hb => by
   obtain ⟨e1, e2, e3⟩ := hβ2 j b hb
   obtain ⟨g1, g2, g3⟩ := hS.bl j b e2
   refine ⟨g1, g2, ?_⟩
   rw [hsz0]
   exact g3.imp id (fun h => h.imp (fun h => ⟨h.1, h.2, e3⟩) id)
  ij := fun i j b hi hj => hS.ij i j b (hβ2 i b hi).2.1 (hβ2 j b hj).2.1
  cap := fun j => by
   show upd p.γ k 1 j ≤ maxLen
   unfold upd; split
   · simp [maxLen]
   · exact hS.cap j
  pn := fun j x hx => by
   have hx' : (if j = k then none else C.pin j) = some x := hx
   split at hx'
   · cases hx'
   · rename_i e
     obtain ⟨g1, g2, g3, g4⟩ := hS.pn j x hx'
     rw [hver]
     exact ⟨(upd_other _ _ e).trans g1, (upd_other _ _ e).trans g2, g3, g4⟩
  lk := fun j km n l cur hj hn => by
   rw [hver] at hn
   have hj' : (if j = k then (⟨0, .sus (rs.map .r) cells.toList⟩ : Row) else ⟨(s.rows j).ver, (s.rows j).c.park k ⟨b0, 0, none⟩⟩).c = .mi km n l cur := hj
   split at hj'
   · cases hj'
   · have hj2 : (s.rows j).c = .mi km n l cur := by
      generalize (s.rows j).c = c at hj'
      cases c <;> simp only [RowC.park] at hj' <;> first | exact hj' | cases hj'
     have hl := hS.lk j km n l cur hj2 hn
     show (if km = k then (⟨0, .sus (rs.map .r) cells.toList⟩ : Row) else ⟨(s.rows km).ver, (s.rows km).c.park k ⟨b0, 0, none⟩⟩).c.isMpi = true
     rw [if_neg (hmi j km n l cur hj2)]
     generalize (s.rows km).c = c at hl
     cases c <;> first | exact hl | cases hl }
 have hpk : Parked C2 ⟨b0, 0, none⟩ cells.toList := ⟨b0, cells, ty, rfl, rfl, .inr rfl, World.putObj_heap_same hb0, hone⟩
 have hrun := h _ C2 ⟨⟨hrd, hX⟩, hown⟩ hpk a w ⟨p2, hS2⟩
 refine wpIn_mono hrun ?_
 rintro e a' w' ⟨s', ⟨p', hS'⟩, ht, hrk, hQ⟩
 refine ⟨_, ⟨{ p' with β := upd p'.β k (some b0), γ := upd p'.γ k (p.γ k) }, ?_⟩, hQ⟩
 have hψ' := hS'.ex.ψn hn
 obtain ⟨q1, q2, q3, q4, q5, _, _, q8⟩ := hS'.ex.hd b0 (.inr rfl)
 have hheap' : w'.heap[b0]? = some (.cells cells ty (0, 0)) := by
  have := hS'.base.block b0 q1 q2 q3
  rw [this]
  exact World.putObj_heap_same hb0
 have hvk : s'.ver k = 0 := by show (s'.rows k).ver = 0; rw [hrk]
 have hrk' := hS'.rw k
 rw [hrk] at hrk'
 simp only [rowRel] at hrk'
 obtain ⟨hβk, hγk, hcells'⟩ := hrk'
 have hver' : AS.ver ⟨s'.n, upd s'.tm t0 (.pu k 0 ⟨b0, 0, none⟩), upd s'.rows k ⟨0, .box (rs.map .r)⟩⟩ = s'.ver := by
  funext j
  show (upd s'.rows k _ j).ver = (s'.rows j).ver
  unfold upd; split
  · rename_i e; subst e; exact hvk.symm
  · rfl
 have hβ3 : ∀ j b, upd p'.β k (some b0) j = some b → (j = k ∧ b = b0) ∨ (j ≠ k ∧ p'.β j = some b) := fun j b hb => by
  by_cases e : j = k
  · subst e; rw [upd_same] at hb; injection hb with hb; exact .inl ⟨rfl, hb.symm⟩
  · rw [upd_other _ _ e] at hb; exact .inr ⟨e, hb⟩
 have hmi' : ∀ j km n l cur, (s'.rows j).c = .mi km n l cur → km ≠ k := fun j km n l cur hj e => by
  subst e
  have hr := hS'.rw j
  rw [hj] at hr
  simp only [rowRel] at hr
  obtain ⟨_, _, h2, _⟩ := hr
  have := hS'.lk j km n l cur hj (by omega)
  rw [hrk] at this; cases this
 exact {
  base := ⟨hS'.base.os, hS'.base.tape, hS'.base.output, by have := hS'.base.size; rw [hsz0] at this; exact this, fun j hj hjb hjo => by
   have hne : j ≠ b0 := fun e => hjb (e ▸ hbor)
   refine (hS'.base.block j (by rw [hsz0]; exact hj) (fun hb => hjb hb.1) hjo).trans ?_
   show (C.w0.putObj b0 _).heap[j]? = _
   rw [World.putObj_heap_other hne]⟩
  r0 := hS'.r0
  rn := fun b hb => by
   rcases hS'.rn b hb with g | g | g
   · exact .inl g
   · exact .inr (.inl (by rw [hsz0] at g; exact g))
   · exact .inr (.inr g)
  rb := hS'.rb
  tm := fun t => by
   rw [hver']
   show AV.rel w' _ s'.ver (upd s'.tm t0 (.pu k 0 ⟨b0, 0, none⟩) t) _
   by_cases e : t = t0
   · subst e
     rw [upd_same]
     have hx := hS'.tm t
     rw [ht] at hx
     simp only [AV.rel, RV.rel] at hx ⊢
     exact ⟨hx, by omega, fun _ => ⟨b0, upd_same _ _ _, hx⟩⟩
   · rw [upd_other _ _ e]
     exact unpark_rel hvk hβk hγk _ _ (hS'.tm t)
  sz := hS'.sz
  ex := {
   px := hS'.ex.px
   n0 := by have := hS'.ex.n0; rw [hsz0] at this; exact this
   ψ0 := hS'.ex.ψ0
   ψl := hS'.ex.ψl
   θl := hS'.ex.θl
   ψb := fun j b _ => hψ' b
   ψr := hS'.ex.ψr
   ψo := hS'.ex.ψo
   θo := fun b hb => ((hψ' b).2 hb).elim
   bo := hS.ex.bo
   ψn := hS'.ex.ψn
   hd := fun b hb => by
    obtain ⟨g1, g2, g3, g4, g5, g6, g7, g8⟩ := hS'.ex.hd b (.inl hb)
    obtain ⟨_, g2', _⟩ := hS.ex.hd b hb
    refine ⟨by rw [hsz0] at g1; exact g1, g2', g3, g4, g5, g6, g7, fun j hj => ?_⟩
    rcases hβ3 j b hj with ⟨_, e⟩ | ⟨_, e⟩
    · exact g2' (e ▸ hbor)
    · exact g8 j e
   rm := hS'.ex.rm
   df := by
    obtain ⟨Ds, g1, g2, g3⟩ := hS'.ex.df
    refine ⟨Ds, g1, g2, fun D hD => ?_⟩
    obtain ⟨k1, k2, k3, k4, k5⟩ := g3 D hD
    rw [hsz0] at k2
    refine ⟨k1, k2, k3, fun j hj => ?_, k5⟩
    rcases hβ3 j D hj with ⟨_, e⟩ | ⟨_, e⟩
    · omega
    · exact k4 j e }
  rw := fun j => by
   rw [hver']
   show rowRel w' _ s'.ver j (upd s'.rows k ⟨0, .box (rs.map .r)⟩ j).c
   by_cases e : j = k
   · subst e
     rw [upd_same]
     simp only [rowRel]
     refine ⟨b0, cells, ty, upd_same _ _ _, hheap', unparkL_rel hvk hβk hγk _ _ hcells', hone⟩
   · rw [upd_other _ _ e]
     exact unparkRow_rel hvk hβk hγk e _ (fun km n l cur hj => hmi' j km n l cur hj) (hS'.rw j)
  bl := fun j b hb => by
   rcases hβ3 j b hb with ⟨rfl, rfl⟩ | ⟨e, hb'⟩
   · exact ⟨q4, q5, .inr (.inl ⟨hk, hbor⟩)⟩
   · obtain ⟨g1, g2, g3⟩ := hS'.bl j b hb'
     rw [hsz0] at g3
     exact ⟨g1, g2, g3.imp id (fun h => h.imp (fun h => ⟨h.1, h.2.1⟩) id)⟩
  ij := fun i j b hi hj => by
   rcases hβ3 i b hi with ⟨rfl, rfl⟩ | ⟨ei, hi'⟩
   · rcases hβ3 j b hj with ⟨rfl, _⟩ | ⟨_, hj'⟩
     · rfl
     · exact (q8 j hj').elim
   · rcases hβ3 j b hj with ⟨rfl, rfl⟩ | ⟨_, hj'⟩
     · exact (q8 i hi').elim
     · exact hS'.ij i j b hi' hj'
  cap := fun j => by
   show upd p'.γ k (p.γ k) j ≤ maxLen
   unfold upd; split
   · exact hS.cap k
   · exact hS'.cap j
  pn := fun j x hx => by
   rw [hver']
   by_cases e : j = k
   · subst e
     obtain ⟨g1, g2, _, g4⟩ := hS.pn j x hx
     exact ⟨(upd_same _ _ _).trans (hβ.symm.trans g1), (upd_same _ _ _).trans g2, hvk, g4⟩
   · obtain ⟨g1, g2, g3, g4⟩ := hS'.pn j x (by show (if j = k then none else C.pin j) = some x; rw [if_neg e]; exact hx)
     exact ⟨(upd_other _ _ e).trans g1, (upd_other _ _ e).trans g2, g3, g4⟩
  lk := fun j km n l cur hj hn' => by
   rw [hver'] at hn'
   have hj' : (upd s'.rows k ⟨0, .box (rs.map .r)⟩ j).c = .mi km n l cur := hj
   by_cases e : j = k
   · subst e; rw [upd_same] at hj'; cases hj'
   · rw [upd_other _ _ e] at hj'
     have hl := hS'.lk j km n l cur hj' hn'
     show (upd s'.rows k ⟨0, .box (rs.map .r)⟩ km).c.isMpi = true
     rw [upd_other _ _ (hmi' j km n l cur hj')]
     exact hl }
theorem awp_name {c : Code} {n : Nat} {l : List (Nat × AV)} {vs : Nat → Nat} {cs : List (Nat × RowC)} (t : Nat) {k : Nat} (ht : look l t = .pt k (vs k) 0) (h : ∀ u, awp P C c Q (st n ((t, .pu k (vs k) u) :: l) vs cs)) : awp P C c Q (st n l vs cs) := fun a w ⟨p, hp⟩ => by
 have hx := hp.tm t
 have e2 : (st n l vs cs).tm t = .pt k (vs k) 0 := ht
 rw [e2] at hx
 simp only [AV.rel] at hx
 obtain ⟨b, hb, hbv⟩ := hx.2 rfl
 refine h ⟨b, 0, none⟩ a w ⟨p, { hp with tm := fun j => ?_ }⟩
 show AV.rel w _ _ (look ((t, .pu k (vs k) ⟨b, 0, none⟩) :: l) j) _
 rw [look_cons]
 split
 · rename_i e
   subst e
   simp only [AV.rel]
   exact ⟨hbv, hx⟩
 · exact hp.tm j
theorem sub_unname {n : Nat} {l : List (Nat × AV)} {vs : Nat → Nat} {cs : List (Nat × RowC)} (t : Nat) {k m : Nat} {u : Addr} (ht : look l t = .pu k m u) : Sub (st n l vs cs) (st n ((t, .pt k m 0) :: l) vs cs) := fun C a w ⟨p, hp⟩ => by
 refine ⟨p, { hp with tm := fun j => ?_ }⟩
 show AV.rel w _ _ (look ((t, .pt k m 0) :: l) j) _
 rw [look_cons]
 split
 · rename_i e
   subst e
   have hx := hp.tm j
   have e2 : (st n l vs cs).tm j = .pu k m u := ht
   rw [e2] at hx
   simp only [AV.rel] at hx ⊢
   exact hx.2
 · exact hp.tm j
end
end Go.Oc

namespace Go.Oc
open Go Go.RowKit
set_option linter.unusedVariables false
set_option linter.unusedSimpArgs false
theorem park_un (k : Nat) (u : Addr) : AV.park k u (.r .un) = .r .un := by simp only [AV.park]
theorem look_park (k : Nat) (u : Addr) : ∀ (l : List (Nat × AV)) (t : Nat), look (l.map fun x => (x.1, x.2.park k u)) t = (look l t).park k u
 | [], t => (park_un k u).symm
 | (j, x) :: l, t => by
   simp only [List.map_cons, look_cons]
   split
   · rfl
   · exact look_park k u l t
theorem lookc_park (k : Nat) (u : Addr) : ∀ (cs : List (Nat × RowC)) (j : Nat), lookc (cs.map fun x => (x.1, x.2.park k u)) j = (lookc cs j).park k u
 | [], _ => rfl
 | (i, c) :: cs, j => by
   simp only [List.map_cons, lookc_cons]
   split
   · rfl
   · exact lookc_park k u cs j
section
variable {P : Program} {C : Ctx} {n : Nat} {l : List (Nat × AV)} {vs : Nat → Nat} {cs : List (Nat × RowC)} {Q : Exit → AS → Prop}
theorem awp_parkS {c : Code} (k t0 : Nat) (u : Addr) (rs : List RV) (ht0 : look l t0 = .pu k 0 u) (hC : (C.rd = none ∧ C.X = XS.none) ∧ ∀ b, ¬ C.own b) (hk : 1000 ≤ k) (hv : vs k = 0) (hc : lookc cs k = .box (rs.map .r)) (hcb : ∃ x, C.pin k = some x ∧ ∀ b, x.1 = some b → C.bor b)
 (h : ∀ us C2, (C2.rd = none ∧ C2.X = XS.none) ∧ (∀ b, ¬ C2.own b) → Parked C2 u us → awp P C2 c (fun e s' => s'.tm t0 = .r (.vl u) ∧ s'.rows k = ⟨0, .sus (rs.map .r) us⟩ ∧ Q e ⟨s'.n, upd s'.tm t0 (.pu k 0 u), upd s'.rows k ⟨0, .box (rs.map .r)⟩⟩)
  (st n (l.map fun x => (x.1, x.2.park k u)) vs (insc (cs.map fun x => (x.1, x.2.park k u)) k (.sus (rs.map .r) us)))) : awp P C c Q (st n l vs cs) := by
 refine awp_park k t0 u rs ht0 hC.1.2 hC.1.1 hC.2 hk hv hc hcb fun us C2 hC2 hP => ?_
 have e : (⟨n, fun t => ((st n l vs cs).tm t).park k u, fun j => if j = k then ⟨0, .sus (rs.map .r) us⟩ else ⟨((st n l vs cs).rows j).ver, ((st n l vs cs).rows j).c.park k u⟩⟩ : AS)
  = st n (l.map fun x => (x.1, x.2.park k u)) vs (insc (cs.map fun x => (x.1, x.2.park k u)) k (.sus (rs.map .r) us)) := by
  simp only [st, AS.mk.injEq, true_and]
  constructor
  · funext t
    exact (look_park k u l t).symm
  · funext j
    rw [lookc_insc]
    split
    · rename_i e; subst e; rw [hv]
    · rw [lookc_park]
 have := h us C2 hC2 hP
 rw [← e] at this
 exact this
theorem st_unpark (k t0 : Nat) (x : AV) (c : RowC) (hv : vs k = 0) : (⟨n, upd (st n l vs cs).tm t0 x, upd (st n l vs cs).rows k ⟨0, c⟩⟩ : AS) = st n ((t0, x) :: l) vs (insc cs k c) := by
 simp only [st, AS.mk.injEq, true_and]
 constructor
 · funext t
   rw [look_cons]
   unfold upd
   split <;> rfl
 · funext j
   rw [lookc_insc]
   unfold upd
   split
   · rename_i e; subst e; rw [hv]
   · rfl
theorem awp_rangeK {t : Nat} {ps : Array Tmp} {assign body : Code} (hC : (C.rd = none ∧ C.X = XS.none) ∧ ∀ b, ¬ C.own b) (k t0 : Nat) (u : Addr) (ht00 : look l t0 = .pu k 0 u) (hk : 1000 ≤ k) (hcb : ∃ x, C.pin k = some x ∧ ∀ b, x.1 = some b → C.bor b) (rs : List RV) (hl0 : Lent vs) (hc : lookc cs k = .box (rs.map .r))
 {f : FuncId} {cf : List AV} {args : List RV} (xs : List (List RV)) (hI : ICalls P true f args xs) (ts : List Nat) (hnd : ts.Nodup) (F : (Nat → Nat) → List (Nat × AV)) (R : Nat → (Nat → Nat) → List (Nat × RowC)) (I : Nat → Prop)
 (h0 : ∀ us, ∃ vs', Lent vs' ∧ Sub (st n (l.map fun x => (x.1, x.2.park k u)) vs (insc (cs.map fun x => (x.1, x.2.park k u)) k (.sus (rs.map .r) us))) (st n (F vs') vs' (insc (R 0 vs') k (.sus (rs.map .r) us)))) (hi0 : I 0)
 (hts : ∀ vs, (F vs).map (·.1) = ts) (ht0 : ∀ vs, look (F vs) t0 = .r (.vl u)) (hg : ∀ vs, callee? (look (F vs) t) = some (f, cf))
 (hcap : ∀ (w : World) (p : Plan) (ver : Nat → Nat) (R' : Nat → Prop) (vals : List Value), AV.relV w p ver cf vals → RV.rel w R' (.rp rs) (.pointer (some u)) → (∀ b, p.R b → R' b) → RV.relV w R' args vals)
 (hd : ∀ i vs, lookc (R i vs) 0 = .dead) (hps : ∀ t ∈ ps.toList, t < n) (hlen : ∀ e ∈ xs, e.length = ps.size)
 (round : ∀ i e vs us usp C, xs[i]? = some e → I i → Lent vs → awp P C assign (fun x s2 => x = .normal ∧ ∀ C, awp P C body (fun x s3 => x = .normal ∧ I (i + 1) ∧ ∃ vs', Lent vs' ∧ Sub s3 (st n [] vs' ((0, .sus ((F vs').map (·.2)) us) :: insc (R (i + 1) vs') k (.sus (rs.map .r) usp)))) s2)
  (st n (psL ps.toList e (F vs)) vs ((0, .sus ((F vs).map (·.2)) us) :: insc (R i vs) k (.sus (rs.map .r) usp))))
 (done : ∀ vs us, Lent vs → I xs.length → Q .normal (st n ((t0, .pu k 0 u) :: F vs) vs (insc ((0, .sus ((F vs).map (·.2)) us) :: R xs.length vs) k (.box (rs.map .r))))) : awp P C (.rangeFunc (.tmp t) ps assign body) Q (st n l vs cs) := by
 refine awp_parkS k t0 u rs ht00 hC hk (hl0 k hk) hc hcb fun usp C2 hC2 hP => ?_
 obtain ⟨vs0, hv0, hsub0⟩ := h0 usp
 refine awp_sub hsub0 ?_
 have hk0 : k ≠ 0 := by omega
 have hdrop : ∀ i e rest, xs.drop i = e :: rest → xs[i]? = some e ∧ xs.drop (i + 1) = rest := fun i e rest h => by
  refine ⟨?_, by rw [← List.drop_drop, h]; rfl⟩
  have : (xs.drop i)[0]? = some e := by rw [h]; rfl
  simpa using this
 have hz : ∀ vs, ts.zip ((F vs).map (·.2)) = F vs := fun vs => by rw [← hts vs]; exact zip_keys _
 refine awp_rangeFunc hC2.1.1 hC2.1.2 (F := f) (cs := cf) (args := args) (xs := xs) (z := true) (hg vs0) (fun p a w hS vals hV => by
  obtain ⟨b0, hb0, hr⟩ := parked_read (k := k) (rs := rs) hS (by show lookc (insc (R 0 vs0) k _) k = _; rw [lookc_insc, if_pos rfl]) hP
  exact ⟨fun b => b = b0, fun b hb => ⟨hb ▸ hb0, rfl⟩, hcap w p _ _ vals hV hr fun _ h => .inl h⟩) hI
  (by show lookc (insc (R 0 vs0) k _) 0 = _; rw [lookc_insc, if_neg (Ne.symm hk0)]; exact hd 0 vs0) ts hps
  (fun left us s' => ∃ i vs, left = xs.drop i ∧ i ≤ xs.length ∧ I i ∧ Lent vs ∧ s' = st n [] vs ((0, .sus ((F vs).map (·.2)) us) :: insc (R i vs) k (.sus (rs.map .r) usp)))
  (fun c us s' => False)
  (fun us => ⟨0, vs0, rfl, Nat.zero_le _, hi0, hv0, ?_⟩) ?_ ?_ (fun c us s' _ h => h.elim)
 · refine (upd_rows_st (c := .sus (ts.map (st n (F vs0) vs0 (insc (R 0 vs0) k (.sus (rs.map .r) usp))).tm) us)).trans ?_
   congr 3
   have hkk : (F vs0).map (·.2) = ts.map (look (F vs0)) := by
    have := look_keys (F vs0) (by rw [hts vs0]; exact hnd)
    rw [hts vs0] at this
    exact this
   rw [hkk]; rfl
 · rintro e rest us s' _ ⟨i, vs, hl, hle, hI', hvl, rfl⟩
   obtain ⟨h1, h2⟩ := hdrop i e rest hl.symm
   refine ⟨hlen e (List.mem_of_getElem? h1), (F vs).map (·.2), rfl, fun C' => ?_⟩
   have hr := round i e vs us usp C' h1 hI' hvl
   rw [hz, psA_look]
   refine awp_mono ?_ hr
   rintro x s2 ⟨hx, hbody⟩
   refine ⟨hx, fun C'' => awp_mono ?_ (hbody C'')⟩
   rintro x s3 ⟨rfl, hI3, vs', hvl', hsub⟩
   refine ⟨_, hsub, i + 1, vs', h2.symm, ?_, hI3, hvl', rfl⟩
   have := (List.getElem?_eq_some_iff.1 h1).1
   omega
 · rintro us s' _ ⟨i, vs, hl, hle, hI', hvl, rfl⟩
   have hi : i = xs.length := by
    have : (xs.drop i).length = 0 := by rw [← hl]; rfl
    rw [List.length_drop] at this; omega
   subst hi
   refine ⟨(F vs).map (·.2), rfl, ?_⟩
   rw [hz]
   refine ⟨ht0 vs, ?_, ?_⟩
   · show (⟨vs k, lookc ((0, .sus ((F vs).map (·.2)) us) :: insc (R xs.length vs) k (.sus (rs.map .r) usp)) k⟩ : Row) = _
     rw [lookc_cons, if_neg hk0, lookc_insc, if_pos rfl, hvl k hk]
   · have hq := done vs us hvl hI'
     have e := st_unpark (n := n) (l := F vs) (vs := vs) (cs := (0, .sus ((F vs).map (·.2)) us) :: insc (R xs.length vs) k (.sus (rs.map .r) usp)) k t0 (.pu k 0 u) (.box (rs.map .r)) (hvl k hk)
     have e2 : (st n ((t0, .pu k 0 u) :: F vs) vs (insc ((0, .sus ((F vs).map (·.2)) us) :: insc (R xs.length vs) k (.sus (rs.map .r) usp)) k (.box (rs.map .r))) : AS) = st n ((t0, .pu k 0 u) :: F vs) vs (insc ((0, .sus ((F vs).map (·.2)) us) :: R xs.length vs) k (.box (rs.map .r))) := by
      simp only [st, AS.mk.injEq, true_and]
      funext j
      simp only [lookc_insc, lookc_cons]
      split
      · rfl
      · split
        · rfl
        · rfl
     rw [← e2, ← e] at hq
     exact hq
end
attribute [go_sem] AV.park AV.parkL RowC.park
end Go.Oc

namespace Go.Proofs.Ytgkejinoaommeaa
open Go Go.Oc
set_option linter.unusedSimpArgs false
set_option linter.unusedVariables false
set_option maxRecDepth 8000
def atE (l : List Int) (v : Int) : Int := indexF (fun x => v == x) l
theorem atE_lt (v : Int) : ∀ (l : List Int), atE l v < l.length
 | [] => by simp [atE, indexF]
 | x :: l => by
   have ih := atE_lt v l
   unfold atE at ih ⊢
   simp only [indexF, List.length_cons]
   split
   · omega
   · split <;> omega
theorem indexE_ok (l : List Int) (v : Int) : ACalls Try.prog 93 [ints l, i64 v] (i64 (atE l v)) := by
 refine acalls_st (rs := [i64 (atE l v)]) [.tmp 4] Try.func93 rfl (by kernel_rfl) Try.ntmps93 rfl (by simp) rfl fun C vs => ?_
 repeat refine awp_seq ?_
 refine awp_reg (by kernel_rfl) fun K hK => ?_
 simp only [go_sem]
 (try simp (disch := omega) only [wrapI])
 repeat first | intro _ | refine ⟨(by omega), ?_⟩ | refine ⟨⟨by omega, by omega⟩, ?_⟩
 refine hK _ ?_
 clear hK K
 refine awp_sub (sub_keep [0, 1]) ?_
 simp only [go_sem]
 repeat refine awp_seq ?_
 refine awp_reg (by kernel_rfl) fun K hK => ?_
 simp only [go_sem]
 (try simp (disch := omega) only [wrapI])
 intro hl
 repeat first | intro _ | refine ⟨(by omega), ?_⟩ | refine ⟨⟨by omega, by omega⟩, ?_⟩
 refine hK _ ?_
 clear hK K
 refine awp_sub (sub_keep [0, 1, 7, 8]) ?_
 simp only [go_sem]
 repeat refine awp_seq ?_
 refine awp_block ?_
 refine awp_upto (n := 19) l.length (fun i vs => [(0, .r (ints l)), (1, .r (i64 v)), (7, .r (i64 l.length)), (8, .r (i64 i))]) (fun _ => [])
  (fun i => atE l v = if atE (l.drop i) v < 0 then -1 else i + atE (l.drop i) v) 0 (fit_of [] ?_ rfl) (Nat.zero_le _) ?_ ?_
 · try simp only [go_sem]
 · simp only [List.drop_zero]
   have := indexF_ge (fun x => v == x) l
   unfold atE
   split
   · omega
   · simp
 · intro i vs hi hI
   repeat refine awp_seq ?_
   refine awp_reg (by kernel_rfl) fun K hK => ?_
   simp only [go_sem]
   (try simp (disch := omega) only [wrapI])
   repeat first | intro _ | refine ⟨(by omega), ?_⟩ | refine ⟨⟨by omega, by omega⟩, ?_⟩
   refine hK _ ?_
   clear hK K
   refine awp_sub (sub_keep [0, 1, 7, 8, 9]) ?_
   simp only [go_sem]
   repeat refine awp_seq ?_
   refine awp_cond rfl (fun hc => ?_) (fun hc => ?_) <;> (try simp only [go_sem] at hc)
   · have hci := hc
     obtain ⟨x, hx⟩ := opt_of_lt hci
     rw [drop_of_opt hx] at hI
     refine awp_skip ?_
     try simp only [go_sem]
     repeat refine awp_seq ?_
     refine awp_block ?_
     repeat refine awp_seq ?_
     refine awp_reg (by kernel_rfl) fun K hK => ?_
     simp only [go_sem]
     (try simp (disch := omega) only [wrapI])
     repeat first | intro _ | refine ⟨(by omega), ?_⟩ | refine ⟨⟨by omega, by omega⟩, ?_⟩
     refine hK _ ?_
     clear hK K
     refine awp_sub (sub_keep [0, 1, 5, 7, 8]) ?_
     simp only [go_sem]
     repeat refine awp_seq ?_
     refine awp_reg (by kernel_rfl) fun K hK => ?_
     simp only [go_sem, hx, hci]
     (try simp (disch := omega) only [wrapI])
     repeat first | intro _ | refine ⟨(by omega), ?_⟩ | refine ⟨⟨by omega, by omega⟩, ?_⟩
     refine hK _ ?_
     clear hK K
     refine awp_sub (sub_keep [0, 1, 5, 7, 8, 16]) ?_
     simp only [go_sem]
     by_cases he : (v == x) = true
     · have h2 : atE l v = i := by rw [hI]; simp [atE, indexF, he]
       rw [he, h2]
       repeat refine awp_seq ?_
       refine awp_cond rfl (fun hc => ?_) (fun hc => ?_) <;> (try simp only [go_sem] at hc)
       repeat refine awp_seq ?_
       refine awp_reg (by kernel_rfl) fun K hK => ?_
       simp only [go_sem]
       (try simp (disch := omega) only [wrapI])
       repeat first | intro _ | refine ⟨(by omega), ?_⟩ | refine ⟨⟨by omega, by omega⟩, ?_⟩
       refine hK _ ?_
       clear hK K
       refine awp_sub (sub_keep [4]) ?_
       simp only [go_sem]
       refine awp_ret ?_
       simp only [go_sem]
     · have he' : (v == x) = false := by simpa using he
       rw [he']
       repeat refine awp_seq ?_
       refine awp_cond rfl (fun hc => ?_) (fun hc => ?_) <;> (try simp only [go_sem] at hc)
       refine awp_skip ?_
       try simp only [go_sem]
       repeat refine awp_seq ?_
       refine awp_reg (by kernel_rfl) fun K hK => ?_
       simp only [go_sem]
       (try simp (disch := omega) only [wrapI])
       repeat first | intro _ | refine ⟨(by omega), ?_⟩ | refine ⟨⟨by omega, by omega⟩, ?_⟩
       refine hK _ ?_
       clear hK K
       try simp only [go_sem]
       refine ⟨hci, ?_, fit_of [] ?_ rfl⟩
       · rw [hI]
         simp only [atE, indexF, he', Bool.false_eq_true, if_false]
         have := indexF_ge (fun x => v == x) (l.drop (i + 1))
         split <;> split <;> omega
       · try simp only [go_sem]
   · have hil : i = l.length := by omega
     subst hil
     rw [List.drop_length] at hI
     have hI' : atE l v = -1 := by rw [hI]; simp [atE, indexF]
     refine awp_exit ?_
     simp only [go_sem]
     repeat refine awp_seq ?_
     refine awp_reg (by kernel_rfl) fun K hK => ?_
     simp only [go_sem]
     (try simp (disch := omega) only [wrapI])
     repeat first | intro _ | refine ⟨(by omega), ?_⟩ | refine ⟨⟨by omega, by omega⟩, ?_⟩
     refine hK _ ?_
     clear hK K
     refine awp_sub (sub_keep [4]) ?_
     simp only [go_sem]
     refine awp_ret ?_
     simp only [go_sem]
     rw [hI']
abbrev tR (t : List Int) : List RV := t.map fun x => i64 x
abbrev tA (t : List Int) : List AV := (tR t).map AV.r
abbrev zeroT : List Int := [0, 0, 0, 0, 0, 0, 0, 0, 0, 0]
def incT (t : List Int) (i : Nat) : List Int := t.set i (t.getD i 0 + 1)
theorem incT_len (t : List Int) (i : Nat) : (incT t i).length = t.length := by simp [incT]
theorem tA_drop {t : List Int} {i : Nat} {x : Int} (h : t[i]? = some x) : (tA t).drop i = .r (i64 x) :: (tA t).drop (i + 1) := by
 refine drop_of_opt ?_
 simp [h]
theorem tA_set {t : List Int} {i : Nat} {y : Int} (h : i < t.length) : (tA t).take i ++ (AV.r (RV.it .i64 y) :: (tA t).drop (i + 1)) = tA (t.set i y) := by
 have : ((t.set i y).map fun x => i64 x).map AV.r = (((t.map fun x => i64 x).map AV.r).set i (.r (i64 y))) := by simp [List.map_set]
 show _ = ((t.set i y).map fun x => i64 x).map AV.r
 rw [this, List.set_eq_take_append_cons_drop, if_pos (by simpa using h)]
theorem tA_len (t : List Int) : (tA t).length = t.length := by simp
def tallyK (beds : List Int) : List Int → List Int → Option (List Int)
 | t, [] => some t
 | t, d :: ds => if atE beds d < 0 then none else tallyK beds (incT t (atE beds d).toNat) ds
def knownXs (beds ds : List Int) : List (List RV) := match tallyK beds zeroT ds with | some t => [[.ag (tR t)]] | none => []
abbrev sheetR (beds le mo : List Int) : List RV := ints beds :: (tR le ++ tR mo)
theorem flat_tR : ∀ t : List Int, RV.flatL (tR t) = true
 | [] => rfl
 | x :: t => by simp only [tR, List.map_cons, RV.flatL, RV.flatB, Bool.true_and]; exact flat_tR t
def SmallT (b : Int) (t : List Int) : Prop := t.length = 10 ∧ ∀ x ∈ t, 0 ≤ x ∧ x ≤ b
theorem incT_small {b : Int} {t : List Int} {i : Nat} (h : SmallT b t) (hb : 0 ≤ b) : SmallT (b + 1) (incT t i) := by
 refine ⟨by rw [incT_len]; exact h.1, fun x hx => ?_⟩
 rcases List.mem_or_eq_of_mem_set hx with h1 | h1
 · have := h.2 x h1; omega
 · subst h1
   rw [List.getD_eq_getElem?_getD]
   cases e : t[i]? with
   | none => simp; omega
   | some y => have := h.2 y (mem_of_opt e); simp; omega
theorem known1_ok (beds ds le mo : List Int) (hb : beds.length ≤ 10) (hd : ds.length ≤ 1000) : ICalls Try.prog true 92 [.rp [ints ds], .rp [.rp (sheetR beds le mo)]] (knownXs beds ds) := by
 refine icalls_st Try.func92 rfl (by kernel_rfl) Try.ntmps92 rfl (by simp) fun C ll => ?_
 repeat refine awp_seq ?_
 refine awp_reg (by kernel_rfl) fun K hK => ?_
 simp only [go_sem, argL]
 (try simp (disch := omega) only [wrapI])
 repeat first | intro _ | refine ⟨(by omega), ?_⟩ | refine ⟨⟨by omega, by omega⟩, ?_⟩
 refine hK _ ?_
 clear hK K
 refine awp_sub (sub_keep [0, 1, 2, 4]) ?_
 simp only [go_sem]
 repeat refine awp_seq ?_
 refine awp_reg (by kernel_rfl) fun K hK => ?_
 simp only [go_sem]
 (try simp (disch := omega) only [wrapI])
 intros
 repeat first | intro _ | refine ⟨(by omega), ?_⟩ | refine ⟨⟨by omega, by omega⟩, ?_⟩
 refine hK _ ?_
 clear hK K
 refine awp_sub (sub_keep [0, 2, 4, 8, 9, 10]) ?_
 simp only [go_sem]
 repeat refine awp_seq ?_
 refine awp_block ?_
 refine awp_while (n := 31) (fun (y : Nat × List Int) vs => [(0, .r (.yl ll)), (2, .r (.rp [.rp (sheetR beds le mo)])), (4, .pt 4 (vs 4) 0), (8, .r (ints ds)), (9, .r (i64 ds.length)), (10, .r (i64 y.1))])
  (fun y => [(4, .box (tA y.2)), (999, .gh Try.prog ll true (some (knownXs beds ds)))]) (fun y => y.1 ≤ ds.length ∧ SmallT y.1 y.2 ∧ tallyK beds zeroT ds = tallyK beds y.2 (ds.drop y.1)) (fun y => ds.length - y.1) (0, zeroT) (fit_of [] ?_ ?_) ⟨Nat.zero_le _, ⟨rfl, by decide⟩, rfl⟩ ?_
 · try simp only [go_sem]
 · try simp only [go_sem]
   rfl
 · rintro ⟨i, t⟩ vs ⟨hi, hs, hK⟩
   simp only at hi hs hK
   repeat refine awp_seq ?_
   refine awp_reg (by kernel_rfl) fun K hK => ?_
   simp only [go_sem]
   (try simp (disch := omega) only [wrapI])
   repeat first | intro _ | refine ⟨(by omega), ?_⟩ | refine ⟨⟨by omega, by omega⟩, ?_⟩
   refine hK _ ?_
   clear hK K
   refine awp_sub (sub_keep [0, 2, 4, 8, 9, 10, 11]) ?_
   simp only [go_sem]
   repeat refine awp_seq ?_
   refine awp_cond rfl (fun hc => ?_) (fun hc => ?_) <;> (try simp only [go_sem] at hc)
   · have hci : i < ds.length := by first | exact hc | omega
     obtain ⟨d, hx⟩ := opt_of_lt hci
     rw [drop_of_opt hx, tallyK] at hK
     have hlt := atE_lt d beds
     refine awp_skip ?_
     try simp only [go_sem]
     repeat refine awp_seq ?_
     refine awp_block ?_
     repeat refine awp_seq ?_
     refine awp_reg (by kernel_rfl) fun K hK => ?_
     simp only [go_sem, hx, hci]
     (try simp (disch := omega) only [wrapI])
     repeat first | intro _ | refine ⟨(by omega), ?_⟩ | refine ⟨⟨by omega, by omega⟩, ?_⟩
     refine hK _ ?_
     clear hK K
     refine awp_sub (sub_keep [0, 2, 4, 6, 8, 9, 10]) ?_
     simp only [go_sem]
     repeat refine awp_seq ?_
     refine awp_reg (by kernel_rfl) fun K hK => ?_
     simp only [go_sem]
     (try simp (disch := omega) only [wrapI])
     refine xcall_eq (indexE_ok beds d) rfl (by simp only [go_sem, i64, ints]) (by simp only [go_sem, i64, ints]) (by first | exact .inl rfl | exact .inr rfl) ?_
     (try simp only [go_sem])
     (try simp (disch := omega) only [wrapI])
     repeat first | intro _ | refine ⟨(by omega), ?_⟩ | refine ⟨⟨by omega, by omega⟩, ?_⟩
     refine hK _ ?_
     clear hK K
     refine awp_sub (sub_keep [0, 2, 4, 7, 8, 9, 10]) ?_
     simp only [go_sem]
     by_cases hneg : atE beds d < 0
     · rw [if_pos hneg] at hK
       have hxs : knownXs beds ds = [] := by rw [knownXs, hK]
       have e1 : decide (atE beds d < 0) = true := by simp [hneg]
       rw [hxs]
       repeat refine awp_seq ?_
       refine awp_reg (by kernel_rfl) fun K hK => ?_
       simp only [go_sem]
       (try simp (disch := omega) only [wrapI])
       repeat first | intro _ | refine ⟨(by omega), ?_⟩ | refine ⟨⟨by omega, by omega⟩, ?_⟩
       refine hK _ ?_
       clear hK K
       rw [e1]
       repeat refine awp_seq ?_
       refine awp_cond rfl (fun hc => ?_) (fun hc => ?_) <;> (try simp only [go_sem] at hc)
       refine awp_ret ?_
       simp only [go_sem]
       exact ⟨_, _, .inl rfl⟩
     · rw [if_neg hneg] at hK
       have e1 : decide (atE beds d < 0) = false := by simp; omega
       obtain ⟨j, hj⟩ := Int.eq_ofNat_of_zero_le (show 0 ≤ atE beds d by omega)
       rw [hj, Int.toNat_natCast] at hK
       have hjl : j < t.length := by have := hs.1; omega
       obtain ⟨x, hxj⟩ := opt_of_lt hjl
       have hsm := hs.2 x (mem_of_opt hxj)
       have hinc : incT t j = t.set j (x + 1) := by simp [incT, List.getD_eq_getElem?_getD, hxj]
       have hd1 := tA_drop hxj
       have hset := tA_set (y := x + 1) hjl
       have hal := tA_len t
       have hj10 : (j : Int) < 10 := by have := hs.1; omega
       repeat refine awp_seq ?_
       refine awp_reg (by kernel_rfl) fun K hK => ?_
       simp only [go_sem]
       (try simp (disch := omega) only [wrapI])
       repeat first | intro _ | refine ⟨(by omega), ?_⟩ | refine ⟨⟨by omega, by omega⟩, ?_⟩
       refine hK _ ?_
       clear hK K
       rw [e1]
       repeat refine awp_seq ?_
       refine awp_cond rfl (fun hc => ?_) (fun hc => ?_) <;> (try simp only [go_sem] at hc)
       refine awp_skip ?_
       try simp only [go_sem]
       rw [hj]
       repeat refine awp_seq ?_
       refine awp_reg (by kernel_rfl) fun K hK => ?_
       simp only [go_sem, Nat.mul_one, hd1, hal, List.headD_cons, List.length_cons]
       (try simp (disch := omega) only [wrapI])
       repeat first | intro _ | refine ⟨(by omega), ?_⟩ | refine ⟨⟨by omega, by omega⟩, ?_⟩
       refine hK _ ?_
       clear hK K
       rw [hset, ← hinc]
       refine awp_sub (sub_keep [0, 2, 4, 8, 9, 10]) ?_
       simp only [go_sem]
       repeat refine awp_seq ?_
       refine awp_reg (by kernel_rfl) fun K hK => ?_
       simp only [go_sem]
       (try simp (disch := omega) only [wrapI])
       repeat first | intro _ | refine ⟨(by omega), ?_⟩ | refine ⟨⟨by omega, by omega⟩, ?_⟩
       refine hK _ ?_
       clear hK K
       try simp only [go_sem]
       refine ⟨(i + 1, incT t j), ⟨by omega, ?_, hK⟩, by simp only; omega, fit_of [] ?_ ?_⟩
       · have := incT_small (i := j) hs (by omega)
         simpa using this
       · try simp only [go_sem]
       · try simp only [go_sem]
   · have hil : i = ds.length := by omega
     subst hil
     rw [List.drop_length, tallyK] at hK
     have hxs : knownXs beds ds = [[.ag (tR t)]] := by rw [knownXs, hK]
     rw [hxs]
     have htk : List.take 10 (tR t) = tR t := List.take_of_length_le (by rw [List.length_map, hs.1]; exact Nat.le_refl _)
     have htl : (tR t).length = 10 := by rw [List.length_map, hs.1]
     refine awp_exit ?_
     simp only [go_sem]
     refine awp_sub (sub_frzP 4 4 (tR t) (by omega) rfl rfl) ?_
     refine awp_sub (sub_keep [0, 4]) ?_
     simp only [go_sem]
     repeat refine awp_seq ?_
     refine awp_reg (by kernel_rfl) fun K hK => ?_
     simp only [go_sem, htk, htl, Nat.le_refl]
     (try simp (disch := omega) only [wrapI])
     refine xcall_yield (z := true) (e := [.ag (tR t)]) (rest := []) (by simp only [go_sem]) rfl (by simp only [go_sem]) (.inl (by simp only [RV.flatL, RV.flatB, flat_tR, Bool.and_self])) ?_ ?_
     · simp only [go_sem]
       repeat first | intro _ | refine ⟨(by omega), ?_⟩ | refine ⟨⟨by omega, by omega⟩, ?_⟩
       refine hK _ ?_
       clear hK K
       exact ⟨_, _, .inl rfl⟩
     · simp only [go_sem]
       repeat first | intro _ | refine ⟨(by omega), ?_⟩ | refine ⟨⟨by omega, by omega⟩, ?_⟩
       refine hK _ ?_
       clear hK K
       exact ⟨_, _, .inr rfl⟩
theorem known_ok (u : Addr) (ds : List Int) : ACalls Try.prog 82 [.vl u, ints ds] (.fn 92 [.rp [ints ds], .rp [.vl u]]) := by
 refine acalls_st (rs := [.fn 92 [.rp [ints ds], .rp [.vl u]]]) [.tmp 4] Try.func82 rfl (by kernel_rfl) Try.ntmps82 rfl (by simp) rfl fun C vs => ?_
 repeat refine awp_seq ?_
 refine awp_reg (by kernel_rfl) fun K hK => ?_
 simp only [go_sem]
 (try simp (disch := omega) only [wrapI])
 repeat first | intro _ | refine ⟨(by omega), ?_⟩ | refine ⟨⟨by omega, by omega⟩, ?_⟩
 refine hK _ ?_
 clear hK K
 refine awp_sub (sub_keep [2, 3]) ?_
 simp only [go_sem]
 refine awp_sub (sub_frzP 2 2 [.vl u] (by omega) rfl rfl) ?_
 refine awp_sub (sub_frzP 3 3 [ints ds] (by omega) rfl rfl) ?_
 repeat refine awp_seq ?_
 refine awp_reg (by kernel_rfl) fun K hK => ?_
 simp only [go_sem]
 (try simp (disch := omega) only [wrapI])
 repeat first | intro _ | refine ⟨(by omega), ?_⟩ | refine ⟨⟨by omega, by omega⟩, ?_⟩
 refine hK _ ?_
 clear hK K
 refine awp_ret ?_
 simp only [go_sem]
 simp [RV.le, leL_refl.le_refl, leL_refl]
theorem three_ok (u : Addr) (n : Int) : ACalls Try.prog 83 [.vl u, i64 n] (.fn 94 [.rp [.vl u], .rp [i64 n]]) := by
 refine acalls_st (rs := [.fn 94 [.rp [.vl u], .rp [i64 n]]]) [.tmp 4] Try.func83 rfl (by kernel_rfl) Try.ntmps83 rfl (by simp) rfl fun C vs => ?_
 repeat refine awp_seq ?_
 refine awp_reg (by kernel_rfl) fun K hK => ?_
 simp only [go_sem]
 (try simp (disch := omega) only [wrapI])
 repeat first | intro _ | refine ⟨(by omega), ?_⟩ | refine ⟨⟨by omega, by omega⟩, ?_⟩
 refine hK _ ?_
 clear hK K
 refine awp_sub (sub_keep [2, 3]) ?_
 simp only [go_sem]
 refine awp_sub (sub_frzP 2 2 [.vl u] (by omega) rfl rfl) ?_
 refine awp_sub (sub_frzP 3 3 [i64 n] (by omega) rfl rfl) ?_
 repeat refine awp_seq ?_
 refine awp_reg (by kernel_rfl) fun K hK => ?_
 simp only [go_sem]
 (try simp (disch := omega) only [wrapI])
 repeat first | intro _ | refine ⟨(by omega), ?_⟩ | refine ⟨⟨by omega, by omega⟩, ?_⟩
 refine hK _ ?_
 clear hK K
 refine awp_ret ?_
 simp only [go_sem]
 simp [RV.le, leL_refl.le_refl, leL_refl]
end Go.Proofs.Ytgkejinoaommeaa

namespace Go.Proofs.Ytgkejinoaommeaa
open Go Go.Oc
set_option linter.unusedSimpArgs false
set_option linter.unusedVariables false
set_option maxRecDepth 8000
def shA (beds le mo : List Int) : List AV := (sheetR beds le mo).map AV.r
theorem shA_len (beds le mo : List Int) : (shA beds le mo).length = 1 + le.length + mo.length := by simp [shA, sheetR]; omega
theorem shA_eq (beds le mo : List Int) : shA beds le mo = AV.r (ints beds) :: (tA le ++ tA mo) := by simp [shA, sheetR]
theorem shA_drop1 {beds le mo : List Int} {k : Nat} {a : Int} (h : le[k]? = some a) : (shA beds le mo).drop (1 + k) = .r (RV.it .i64 a) :: (shA beds le mo).drop (1 + k + 1) := by
 refine drop_of_opt ?_
 have hk := (List.getElem?_eq_some_iff.1 h).1
 rw [shA_eq, Nat.add_comm 1 k, List.getElem?_cons_succ, List.getElem?_append_left (by simpa using hk)]
 simp [h]
theorem shA_drop2 {beds le mo : List Int} {k : Nat} {a : Int} (hl : le.length = 10) (h : mo[k]? = some a) : (shA beds le mo).drop (11 + k) = .r (RV.it .i64 a) :: (shA beds le mo).drop (11 + k + 1) := by
 refine drop_of_opt ?_
 rw [shA_eq, show 11 + k = (10 + k) + 1 by omega, List.getElem?_cons_succ, List.getElem?_append_right (by simp; omega)]
 have : 10 + k - (tA le).length = k := by rw [tA_len, hl]; omega
 rw [this]
 simp [h]
theorem set_split {α : Type} {l : List α} {i : Nat} {y : α} (h : i < l.length) : l.take i ++ (y :: l.drop (i + 1)) = l.set i y := by
 rw [List.set_eq_take_append_cons_drop, if_pos h]
theorem shA_set1 {beds le mo : List Int} {k : Nat} {y : Int} (h : k < le.length) : (shA beds le mo).take (1 + k) ++ (AV.r (RV.it .i64 y) :: (shA beds le mo).drop (1 + k + 1)) = shA beds (le.set k y) mo := by
 rw [set_split (by rw [shA_len]; omega), shA_eq, shA_eq, Nat.add_comm 1 k, List.set_cons_succ, List.set_append_left _ _ (by rw [tA_len]; exact h)]
 simp [List.map_set]
theorem shA_set2 {beds le mo : List Int} {k : Nat} {y : Int} (hl : le.length = 10) (h : k < mo.length) : (shA beds le mo).take (11 + k) ++ (AV.r (RV.it .i64 y) :: (shA beds le mo).drop (11 + k + 1)) = shA beds le (mo.set k y) := by
 rw [set_split (by rw [shA_len]; omega), shA_eq, shA_eq, show 11 + k = (10 + k) + 1 by omega, List.set_cons_succ, List.set_append_right _ _ (by rw [tA_len]; omega)]
 have : 10 + k - (tA le).length = k := by rw [tA_len, hl]; omega
 rw [this]
 simp [List.map_set]
def leastT (b : Bool) (le t : List Int) : List Int := if b then List.zipWith min le t else t
def mostT (mo t : List Int) : List Int := List.zipWith max mo t
def accT (s : Bool × List Int × List Int) (t : List Int) : Bool × List Int × List Int := (true, leastT s.1 s.2.1 t, mostT s.2.2 t)
def accL (xs : List (List Int)) : Bool × List Int × List Int := xs.foldl accT (false, zeroT, zeroT)
def mixT (new old : List Int) (k : Nat) : List Int := new.take k ++ old.drop k
theorem mix_get {new old : List Int} {k : Nat} (hn : new.length = 10) (ho : old.length = 10) (hk : k < 10) : (mixT new old k)[k]? = old[k]? := by
 unfold mixT
 rw [List.getElem?_append_right (by rw [List.length_take]; omega), List.length_take, hn, show k - min k 10 = 0 by omega, List.getElem?_drop, Nat.add_zero]
theorem mix_set {new old : List Int} {k : Nat} {y : Int} (hn : new[k]? = some y) (hnl : new.length = 10) (ho : old.length = 10) (hk : k < 10) : (mixT new old k).set k y = mixT new old (k + 1) := by
 unfold mixT
 rw [List.set_append_right _ _ (by rw [List.length_take]; omega), List.length_take, hnl, show k - min k 10 = 0 by omega]
 obtain ⟨z, hz⟩ := opt_of_lt (l := old) (i := k) (by omega)
 rw [drop_of_opt hz, List.set_cons_zero, take_of_opt hn]
 simp
theorem mix_len {new old : List Int} {k : Nat} (hn : new.length = 10) (ho : old.length = 10) (hk : k ≤ 10) : (mixT new old k).length = 10 := by
 unfold mixT
 rw [List.length_append, List.length_take, List.length_drop]; omega
theorem leastT_len {b : Bool} {le t : List Int} (h1 : le.length = 10) (h2 : t.length = 10) : (leastT b le t).length = 10 := by
 unfold leastT; split
 · rw [List.length_zipWith]; omega
 · exact h2
theorem mostT_len {mo t : List Int} (h1 : mo.length = 10) (h2 : t.length = 10) : (mostT mo t).length = 10 := by
 unfold mostT; rw [List.length_zipWith]; omega
theorem mem_zipW {f : Int → Int → Int} {x : Int} : ∀ {l m : List Int}, x ∈ List.zipWith f l m → ∃ a, a ∈ l ∧ ∃ b, b ∈ m ∧ x = f a b
 | [], _, h => by simp at h
 | _ :: _, [], h => by simp at h
 | a :: l, b :: m, h => by
   rw [List.zipWith_cons_cons] at h
   rcases List.mem_cons.1 h with h | h
   · exact ⟨a, by simp, b, by simp, h⟩
   · obtain ⟨a', h1, b', h2, h3⟩ := mem_zipW h
     exact ⟨a', by simp [h1], b', by simp [h2], h3⟩
theorem accL_snoc (xs : List (List Int)) (t : List Int) : accL (xs ++ [t]) = accT (accL xs) t := by simp [accL]
theorem accT_small {b : Int} {s : Bool × List Int × List Int} {t : List Int} (ht : SmallT b t) (h1 : SmallT b s.2.1) (h2 : SmallT b s.2.2) : SmallT b (accT s t).2.1 ∧ SmallT b (accT s t).2.2 := by
 refine ⟨⟨leastT_len h1.1 ht.1, fun x hx => ?_⟩, mostT_len h2.1 ht.1, fun x hx => ?_⟩
 · simp only [accT, leastT] at hx
   split at hx
   · obtain ⟨y, hy, z, hz, rfl⟩ := mem_zipW hx
     have := h1.2 y hy
     have := ht.2 z hz
     omega
   · exact ht.2 x hx
 · simp only [accT, mostT] at hx
   obtain ⟨y, hy, z, hz, rfl⟩ := mem_zipW hx
   have := h2.2 y hy
   have := ht.2 z hz
   omega
theorem zeroT_small {b : Int} (hb : 0 ≤ b) : SmallT b zeroT := ⟨rfl, fun x hx => by
 have : x = 0 := by simpa using hx
 omega⟩
theorem accL_small {b : Int} (hb : 0 ≤ b) : ∀ (xs : List (List Int)), (∀ t ∈ xs, SmallT b t) → SmallT b (accL xs).2.1 ∧ SmallT b (accL xs).2.2 := by
 have gen : ∀ (xs : List (List Int)) (s : Bool × List Int × List Int), (∀ t ∈ xs, SmallT b t) → SmallT b s.2.1 → SmallT b s.2.2 → SmallT b (xs.foldl accT s).2.1 ∧ SmallT b (xs.foldl accT s).2.2 := by
  intro xs
  induction xs with
  | nil => intro s _ h1 h2; exact ⟨h1, h2⟩
  | cons t xs ih =>
    intro s h h1 h2
    obtain ⟨g1, g2⟩ := accT_small (s := s) (h t (by simp)) h1 h2
    exact ih (accT s t) (fun y hy => h y (by simp [hy])) g1 g2
 exact fun xs h => gen xs _ h (zeroT_small hb) (zeroT_small hb)
theorem accL_some (xs : List (List Int)) : (accL xs).1 = !xs.isEmpty := by
 rcases List.eq_nil_or_concat xs with rfl | ⟨l, x, rfl⟩
 · rfl
 · rw [List.concat_eq_append, accL_snoc]; simp [accT]
theorem frzPL_r (ks : List (Nat × RowC)) (rows : Nat → Row) : ∀ l : List RV, frzPL ks rows (l.map AV.r)
 | [] => trivial
 | x :: l => ⟨trivial, frzPL_r ks rows l⟩
theorem frzL_r (ks : List (Nat × RowC)) (rows : Nat → Row) : ∀ l : List RV, frzL ks rows (l.map AV.r) = l.map AV.r
 | [] => rfl
 | x :: l => by simp only [List.map_cons, frzL, frz1, frzL_r ks rows l]
def addT (a b : List Int) : List Int := List.zipWith (· + ·) a b
set_option maxHeartbeats 1000000
theorem add_ok (u : Addr) (beds le mo : List Int) (f : Nat) (caps args : List RV) (xs : List (List Int)) (hle : SmallT 3000 le) (hmo : SmallT 3000 mo) (hxs : ∀ t ∈ xs, SmallT 3 t)
 (hI : ICalls Try.prog true f args (xs.map fun t => [.ag (tR t)]))
 (hcap : ∀ (w : World) (p : Plan) (ver : Nat → Nat) (R' : Nat → Prop) (vals : List Value), AV.relV w p ver (caps.map .r) vals → RV.rel w R' (.rp (sheetR beds le mo)) (.pointer (some u)) → (∀ b, p.R b → R' b) → RV.relV w R' args vals) :
 MCalls Try.prog 84 [(1000, .box (shA beds le mo))] [(1000, .box (shA beds (addT le (accL xs).2.1) (addT mo (accL xs).2.2)))] [.pu 1000 0 u, .r (.fn f caps)] (.r (.bo (!xs.isEmpty))) := by
 refine mcalls_stO (n := 73) (rs := [.r (.bo (!xs.isEmpty))]) _ _ [.cell 4 4] Try.func84 rfl (by kernel_rfl) Try.ntmps84 rfl (by simp) rfl rfl fun C hC => ?_
 repeat refine awp_seq ?_
 refine awp_reg (by kernel_rfl) fun K hK => ?_
 simp only [go_sem]
 (try simp (disch := omega) only [wrapI])
 repeat first | intro _ | refine ⟨(by omega), ?_⟩ | refine ⟨⟨by omega, by omega⟩, ?_⟩
 refine hK _ ?_
 clear hK K
 refine awp_sub (sub_keep [0, 1, 4]) ?_
 simp only [go_sem]
 repeat refine awp_seq ?_
 refine awp_reg (by kernel_rfl) fun K hK => ?_
 simp only [go_sem]
 (try simp (disch := omega) only [wrapI])
 repeat first | intro _ | refine ⟨(by omega), ?_⟩ | refine ⟨⟨by omega, by omega⟩, ?_⟩
 refine hK _ ?_
 clear hK K
 refine awp_sub (sub_keep [0, 1, 4, 5, 6]) ?_
 simp only [go_sem]
 repeat refine awp_seq ?_
 refine awp_reg (by kernel_rfl) fun K hK => ?_
 simp only [go_sem]
 (try simp (disch := omega) only [wrapI])
 repeat first | intro _ | refine ⟨(by omega), ?_⟩ | refine ⟨⟨by omega, by omega⟩, ?_⟩
 refine hK _ ?_
 clear hK K
 refine awp_sub (sub_keep [0, 4, 5, 6, 11]) ?_
 simp only [go_sem]
 repeat refine awp_seq ?_
 refine awp_block ?_
 repeat refine awp_seq ?_
 refine awp_rangeK ⟨hC.1, hC.2.1⟩ 1000 0 u rfl (by omega) (hC.2.2 1000 rfl) (sheetR beds le mo) (by intro j hj; simp only [upd]; (repeat' split); all_goals first | rfl | omega) rfl (cf := caps.map .r) (xs.map fun t => [.ag (tR t)]) hI [0, 4, 5, 6, 11] (by decide)
  (fun vs => [(0, .r (.vl u)), (4, .pt 4 (vs 4) 0), (5, .pt 5 (vs 5) 0), (6, .pt 6 (vs 6) 0), (11, .r (.fn f caps))])
  (fun i vs => [(4, .box [.r (.bo (!(xs.take i).isEmpty))]), (5, .box (tA (accL (xs.take i)).2.1)), (6, .box (tA (accL (xs.take i)).2.2))]) (fun _ => True) (fun us => ?_) trivial (fun _ => rfl) (fun _ => rfl) (fun _ => rfl) hcap (fun _ _ => rfl) (by simp) ?_ ?_ ?_
 · refine fitW_of (n := 73) (F := fun vs => [(0, .r (.vl u)), (4, .pt 4 (vs 4) 0), (5, .pt 5 (vs 5) 0), (6, .pt 6 (vs 6) 0), (11, .r (.fn f caps))])
    (R := fun vs => insc [(4, .box [.r (.bo (!(xs.take 0).isEmpty))]), (5, .box (tA (accL (xs.take 0)).2.1)), (6, .box (tA (accL (xs.take 0)).2.2))] 1000 (.sus ((sheetR beds le mo).map .r) us)) [] (by intro j hj; simp only [upd]; (repeat' split); all_goals first | rfl | omega) ?_ ?_
   · simp only [List.map_cons, List.map_nil, AV.park, AV.parkL, if_true, if_false, Nat.reduceEqDiff]
     try simp only [go_sem]
   · simp only [List.map_cons, List.map_nil, RowC.park, AV.park, AV.parkL]
     try simp only [go_sem]
     rfl
 · intro e he
   obtain ⟨t, _, rfl⟩ := List.mem_map.1 he
   rfl
 · intro i e vs us usp C' he _ hvl
   obtain ⟨t, ht, rfl⟩ : ∃ t, xs[i]? = some t ∧ e = [.ag (tR t)] := by
    rw [List.getElem?_map] at he
    cases hx : xs[i]? with
    | none => rw [hx] at he; cases he
    | some t => rw [hx] at he; injection he with he; exact ⟨t, rfl, he.symm⟩
   have hts := hxs t (mem_of_opt ht)
   obtain ⟨al, am⟩ := accL_small (b := 3) (by omega) (xs.take i) (fun t ht => hxs t (List.mem_of_mem_take ht))
   have hsn : xs.take (i + 1) = xs.take i ++ [t] := take_of_opt ht
   have hacc : accL (xs.take (i + 1)) = accT (accL (xs.take i)) t := by rw [hsn, accL_snoc]
   have hsm := accL_some (xs.take i)
   have hne : (xs.take (i + 1)).isEmpty = false := by rw [hsn]; simp
   rw [hacc, hne]
   rw [← hsm]
   generalize accL (xs.take i) = S at *
   obtain ⟨b, ol, om⟩ := S
   simp only [accT] at *
   have htk : List.take 10 (tR t) = tR t := List.take_of_length_le (by rw [List.length_map, hts.1]; exact Nat.le_refl _)
   have htl : (tR t).length = 10 := by rw [List.length_map, hts.1]
   have hol : ol.length = 10 := al.1
   have hom : om.length = 10 := am.1
   have hll : (leastT b ol t).length = 10 := leastT_len hol hts.1
   have hml : (mostT om t).length = 10 := mostT_len hom hts.1
   try simp only [go_sem]
   repeat refine awp_seq ?_
   refine awp_reg (by kernel_rfl) fun K hK => ?_
   simp only [go_sem]
   (try simp (disch := omega) only [wrapI])
   refine ⟨hts.1, ?_⟩
   repeat first | intro _ | refine ⟨(by omega), ?_⟩ | refine ⟨⟨by omega, by omega⟩, ?_⟩
   refine hK _ ?_
   clear hK K
   refine ⟨rfl, fun C'' => ?_⟩
   refine awp_sub (sub_frzP 7 7 (tR t) (by omega) rfl rfl) ?_
   refine awp_sub (sub_keep [4, 5, 6, 7]) ?_
   simp only [go_sem]
   repeat refine awp_seq ?_
   refine awp_block ?_
   repeat refine awp_seq ?_
   refine awp_reg (by kernel_rfl) fun K hK => ?_
   simp only [go_sem, htk, htl, Nat.le_refl]
   (try simp (disch := omega) only [wrapI])
   repeat first | intro _ | refine ⟨(by omega), ?_⟩ | refine ⟨⟨by omega, by omega⟩, ?_⟩
   refine hK _ ?_
   clear hK K
   refine awp_sub (sub_keep [4, 5, 6, 13, 14]) ?_
   simp only [go_sem]
   repeat refine awp_seq ?_
   refine awp_block ?_
   refine awp_uptoW (n := 73) 10 (fun k vs => [(4, .pt 4 (vs 4) 0), (5, .pt 5 (vs 5) 0), (6, .pt 6 (vs 6) 0), (13, .r (.ag (tR t))), (14, .r (i64 k))])
    (fun k vs => [(0, .sus [.r (.vl u), .pt 4 (vs 4) 0, .pt 5 (vs 5) 0, .pt 6 (vs 6) 0, .r (.fn f caps)] us), (4, .box [.r (.bo b)]), (5, .box (tA (mixT (leastT b ol t) ol k))), (6, .box (tA (mixT (mostT om t) om k))), (1000, .sus (AV.r (ints beds) :: List.map AV.r (tR le ++ tR mo)) usp)])
    (fun _ => True) 0 (fitW_of [7] (by intro j hj; simp only [upd]; (repeat' split); all_goals first | rfl | omega | exact hvl _ hj) ?_ ?_) (Nat.zero_le _) trivial ?_
   · try simp only [go_sem]
   · try simp only [go_sem]
     simp [mixT, killC, delc]
   · intro k vs hvl hk _
     repeat refine awp_seq ?_
     refine awp_reg (by kernel_rfl) fun K hK => ?_
     simp only [go_sem]
     (try simp (disch := omega) only [wrapI])
     repeat first | intro _ | refine ⟨(by omega), ?_⟩ | refine ⟨⟨by omega, by omega⟩, ?_⟩
     refine hK _ ?_
     clear hK K
     refine awp_sub (sub_keep [4, 5, 6, 13, 14, 15]) ?_
     simp only [go_sem]
     repeat refine awp_seq ?_
     refine awp_cond rfl (fun hc => ?_) (fun hc => ?_) <;> (try simp only [go_sem] at hc)
     · have hck : k < 10 := by first | exact hc | omega
       obtain ⟨x, hx⟩ := opt_of_lt (l := t) (i := k) (by rw [hts.1]; omega)
       obtain ⟨y, hy⟩ := opt_of_lt (l := ol) (i := k) (by omega)
       obtain ⟨z, hz⟩ := opt_of_lt (l := om) (i := k) (by omega)
       have hxs1 := hts.2 x (mem_of_opt hx)
       have hys1 := al.2 y (mem_of_opt hy)
       have hzs1 := am.2 z (mem_of_opt hz)
       have hnm : (mostT om t)[k]? = some (max z x) := by simp [mostT, List.getElem?_zipWith, hz, hx]
       have hMg : (mixT (mostT om t) om k)[k]? = some z := (mix_get hml hom hck).trans hz
       have hMl : (mixT (mostT om t) om k).length = 10 := mix_len hml hom hk
       have hMs := mix_set hnm hml hom hck
       have hLg : (mixT (leastT b ol t) ol k)[k]? = some y := (mix_get hll hol hck).trans hy
       have hLl : (mixT (leastT b ol t) ol k).length = 10 := mix_len hll hol hk
       have hdr : List.drop k (tR t) = i64 x :: List.drop (k + 1) (tR t) := drop_of_opt (by simp [hx])
       have hk10 : (k : Int) < 10 := by omega
       have hdM := tA_drop hMg
       have hsM := tA_set (t := mixT (mostT om t) om k) (i := k) (y := max z x) (by omega)
       rw [hMs] at hsM
       have htl2 : (tR t).length = 10 := htl
       generalize hM : mixT (mostT om t) om k = MK at *
       have hMA := tA_len MK
       have hns : (leastT b ol t)[k]? = some (if b then min y x else x) := by
        cases b
        · simpa [leastT] using hx
        · simp [leastT, List.getElem?_zipWith, hy, hx]
       have hLs := mix_set hns hll hol hck
       generalize hL : mixT (leastT b ol t) ol k = LK at *
       have hdL := tA_drop hLg
       have hLA := tA_len LK
       refine awp_skip ?_
       try simp only [go_sem]
       repeat refine awp_seq ?_
       refine awp_block ?_
       repeat refine awp_seq ?_
       refine awp_reg (by kernel_rfl) fun K hK => ?_
       simp only [go_sem, Nat.mul_one, hdr, htl, List.headD_cons]
       (try simp (disch := omega) only [wrapI])
       repeat first | intro _ | refine ⟨(by omega), ?_⟩ | refine ⟨⟨by omega, by omega⟩, ?_⟩
       refine hK _ ?_
       clear hK K
       refine awp_sub (sub_keep [4, 5, 6, 8, 9, 13, 14]) ?_
       simp only [go_sem]
       repeat refine awp_seq ?_
       refine awp_reg (by kernel_rfl) fun K hK => ?_
       simp only [go_sem]
       (try simp (disch := omega) only [wrapI])
       repeat first | intro _ | refine ⟨(by omega), ?_⟩ | refine ⟨⟨by omega, by omega⟩, ?_⟩
       refine hK _ ?_
       clear hK K
       refine awp_sub (sub_keep [4, 5, 6, 8, 9, 13, 14, 19]) ?_
       simp only [go_sem]
       cases b
       · have hLx := hLs
         simp only [Bool.false_eq_true, if_false] at hLx
         have hs0 := tA_set (t := LK) (i := k) (y := x) (by omega)
         have hg2 : (LK.set k x)[k]? = some x := by rw [List.getElem?_set, if_pos rfl, if_pos (by omega)]
         have hd2 := tA_drop hg2
         have hl2 := tA_len (LK.set k x)
         have hl3 : (LK.set k x).length = 10 := by rw [List.length_set]; exact hLl
         have hs2 := tA_set (t := LK.set k x) (i := k) (y := x) (by omega)
         rw [List.set_set, hLx] at hs2
         repeat refine awp_seq ?_
         refine awp_cond rfl (fun hc => ?_) (fun hc => ?_) <;> (try simp only [go_sem] at hc)
         repeat refine awp_seq ?_
         refine awp_reg (by kernel_rfl) fun K hK => ?_
         simp only [go_sem, Nat.mul_one, hLA]
         (try simp (disch := omega) only [wrapI])
         repeat first | intro _ | refine ⟨(by omega), ?_⟩ | refine ⟨⟨by omega, by omega⟩, ?_⟩
         refine hK _ ?_
         clear hK K
         rw [hs0]
         refine awp_sub (sub_keep [4, 5, 6, 8, 9, 13, 14]) ?_
         simp only [go_sem]
         repeat refine awp_seq ?_
         refine awp_dreg2 [(5, some 5), (6, some 6)] follows (by decide +kernel) (by kernel_rfl) (by simp only [keysOk, List.mem_cons, List.not_mem_nil, forall_eq_or_imp, Oc.keyOf, go_sem]; simp) fun K hK => ?_
         simp only [go_sem, Nat.mul_one, hd2, hdM, hl2, hMA, List.headD_cons, List.length_cons, Int.min_self]
         (try simp (disch := omega) only [wrapI])
         repeat first | intro _ | refine ⟨(by omega), ?_⟩ | refine ⟨⟨by omega, by omega⟩, ?_⟩
         refine hK _ ?_
         clear hK K
         rw [hLx, hs2, hsM]
         refine awp_sub (sub_keep [4, 5, 6, 13, 14]) ?_
         simp only [go_sem]
         repeat refine awp_seq ?_
         refine awp_reg (by kernel_rfl) fun K hK => ?_
         simp only [go_sem]
         (try simp (disch := omega) only [wrapI])
         repeat first | intro _ | refine ⟨(by omega), ?_⟩ | refine ⟨⟨by omega, by omega⟩, ?_⟩
         refine hK _ ?_
         clear hK K
         try simp only [go_sem]
         refine ⟨hck, fitW_of [] (by first | exact hvl | (intro j hj; simp only [upd]; (repeat' split); all_goals first | rfl | omega | exact hvl _ hj)) ?_ ?_⟩
         · try simp only [go_sem]
         · try simp only [go_sem]
       · have hLx := hLs
         simp only [if_true] at hLx
         have hs2 := tA_set (t := LK) (i := k) (y := min y x) (by omega)
         rw [hLx] at hs2
         repeat refine awp_seq ?_
         refine awp_cond rfl (fun hc => ?_) (fun hc => ?_) <;> (try simp only [go_sem] at hc)
         refine awp_skip ?_
         try simp only [go_sem]
         repeat refine awp_seq ?_
         refine awp_dreg2 [(5, some 5), (6, some 6)] follows (by decide +kernel) (by kernel_rfl) (by simp only [keysOk, List.mem_cons, List.not_mem_nil, forall_eq_or_imp, Oc.keyOf, go_sem]; simp) fun K hK => ?_
         simp only [go_sem, Nat.mul_one, hdL, hdM, hLA, hMA, List.headD_cons, List.length_cons]
         (try simp (disch := omega) only [wrapI])
         repeat first | intro _ | refine ⟨(by omega), ?_⟩ | refine ⟨⟨by omega, by omega⟩, ?_⟩
         refine hK _ ?_
         clear hK K
         rw [hs2, hsM]
         refine awp_sub (sub_keep [4, 5, 6, 13, 14]) ?_
         simp only [go_sem]
         repeat refine awp_seq ?_
         refine awp_reg (by kernel_rfl) fun K hK => ?_
         simp only [go_sem]
         (try simp (disch := omega) only [wrapI])
         repeat first | intro _ | refine ⟨(by omega), ?_⟩ | refine ⟨⟨by omega, by omega⟩, ?_⟩
         refine hK _ ?_
         clear hK K
         try simp only [go_sem]
         refine ⟨hck, fitW_of [] (by first | exact hvl | (intro j hj; simp only [upd]; (repeat' split); all_goals first | rfl | omega | exact hvl _ hj)) ?_ ?_⟩
         · try simp only [go_sem]
         · try simp only [go_sem]
     · have hk10 : k = 10 := by omega
       subst hk10
       have e1 : mixT (leastT b ol t) ol 10 = leastT b ol t := by
        unfold mixT
        rw [List.take_of_length_le (by omega), List.drop_of_length_le (by omega), List.append_nil]
       have e2 : mixT (mostT om t) om 10 = mostT om t := by
        unfold mixT
        rw [List.take_of_length_le (by omega), List.drop_of_length_le (by omega), List.append_nil]
       rw [e1, e2]
       refine awp_exit ?_
       simp only [go_sem]
       repeat refine awp_seq ?_
       refine awp_reg (by kernel_rfl) fun K hK => ?_
       simp only [go_sem]
       (try simp (disch := omega) only [wrapI])
       repeat first | intro _ | refine ⟨(by omega), ?_⟩ | refine ⟨⟨by omega, by omega⟩, ?_⟩
       refine hK _ ?_
       clear hK K
       try simp only [go_sem]
       refine ⟨vs, hvl, ?_⟩
       exact sub_look _ (allEq_mem (by simp only [go_sem]))
 · intro vs us hvl _
   have e0 : (AV.r (ints beds) :: List.map AV.r (tR le ++ tR mo)) = shA beds le mo := (shA_eq beds le mo ▸ by simp)
   have hlen : (xs.map fun t => [RV.ag (tR t)]).length = xs.length := List.length_map _
   obtain ⟨al, am⟩ := accL_small (b := 3) (by omega) xs hxs
   have hsm := accL_some xs
   rw [hlen, List.take_length]
   generalize accL xs = S at *
   obtain ⟨b, ol, om⟩ := S
   simp only at *
   rw [← hsm]
   try simp only [go_sem]
   rw [e0]
   refine awp_sub (sub_wake rfl) ?_
   refine awp_sub (sub_unname 0 rfl) ?_
   refine awp_sub (sub_frzP 5 5 (tR ol) (by omega) rfl rfl) ?_
   refine awp_sub (sub_frzP 6 6 (tR om) (by omega) rfl rfl) ?_
   refine awp_sub (sub_keep [0, 4, 5, 6]) ?_
   simp only [go_sem]
   repeat refine awp_seq ?_
   refine awp_reg (by kernel_rfl) fun K hK => ?_
   simp only [go_sem]
   (try simp (disch := omega) only [wrapI])
   repeat first | intro _ | refine ⟨(by omega), ?_⟩ | refine ⟨⟨by omega, by omega⟩, ?_⟩
   refine hK _ ?_
   clear hK K
   refine awp_sub (sub_keep [0, 4, 5, 6, 38]) ?_
   simp only [go_sem]
   repeat refine awp_seq ?_
   refine awp_block ?_
   have hol : ol.length = 10 := al.1
   have hom : om.length = 10 := am.1
   have hlel : le.length = 10 := hle.1
   have hmol : mo.length = 10 := hmo.1
   have hal : (addT le ol).length = 10 := by unfold addT; rw [List.length_zipWith]; omega
   have haml : (addT mo om).length = 10 := by unfold addT; rw [List.length_zipWith]; omega
   refine awp_upto0 (n := 73) 10 (fun k vs => [(0, .pt 1000 0 0), (4, .pt 4 (vs 4) 0), (5, .r (.rp (tR ol))), (6, .r (.rp (tR om))), (38, .r (i64 k))])
    (fun k => [(4, .box [.r (.bo b)]), (1000, .box (shA beds (mixT (addT le ol) le k) (mixT (addT mo om) mo k)))]) (fun _ => True) 0 (fit0_of [] (by intro j hj; simp only [upd]; (repeat' split); all_goals first | rfl | omega | exact hvl _ hj) ?_ ?_) (Nat.zero_le _) trivial ?_
   · try simp only [go_sem]
   · try simp only [go_sem]
     simp [mixT]
   · intro k vs hvl hk _
     have hv0 := hvl 1000 (by omega)
     repeat refine awp_seq ?_
     refine awp_reg (by kernel_rfl) fun K hK => ?_
     simp only [go_sem]
     (try simp (disch := omega) only [wrapI])
     repeat first | intro _ | refine ⟨(by omega), ?_⟩ | refine ⟨⟨by omega, by omega⟩, ?_⟩
     refine hK _ ?_
     clear hK K
     refine awp_sub (sub_keep [0, 4, 5, 6, 38, 39]) ?_
     simp only [go_sem]
     repeat refine awp_seq ?_
     refine awp_cond rfl (fun hc => ?_) (fun hc => ?_) <;> (try simp only [go_sem] at hc)
     · have hck : k < 10 := by first | exact hc | omega
       obtain ⟨x, hx⟩ := opt_of_lt (l := ol) (i := k) (by omega)
       obtain ⟨y, hy⟩ := opt_of_lt (l := om) (i := k) (by omega)
       obtain ⟨a, ha⟩ := opt_of_lt (l := le) (i := k) (by omega)
       obtain ⟨c, hcc⟩ := opt_of_lt (l := mo) (i := k) (by omega)
       have b1 := al.2 x (mem_of_opt hx)
       have b2 := am.2 y (mem_of_opt hy)
       have b3 := hle.2 a (mem_of_opt ha)
       have b4 := hmo.2 c (mem_of_opt hcc)
       have hk10 : (k : Int) < 10 := by omega
       have n1 : (addT le ol)[k]? = some (a + x) := by simp [addT, List.getElem?_zipWith, ha, hx]
       have n2 : (addT mo om)[k]? = some (c + y) := by simp [addT, List.getElem?_zipWith, hcc, hy]
       have g1 : (mixT (addT le ol) le k)[k]? = some a := (mix_get hal hlel hck).trans ha
       have g2 : (mixT (addT mo om) mo k)[k]? = some c := (mix_get haml hmol hck).trans hcc
       have l1 : (mixT (addT le ol) le k).length = 10 := mix_len hal hlel hk
       have l2 : (mixT (addT mo om) mo k).length = 10 := mix_len haml hmol hk
       have s1 := mix_set n1 hal hlel hck
       have s2 := mix_set n2 haml hmol hck
       generalize mixT (addT le ol) le k = LK at *
       generalize mixT (addT mo om) mo k = MK at *
       have d1 := shA_drop1 (beds := beds) (mo := MK) g1
       have d2 := shA_drop2 (beds := beds) l1 g2
       have t1 := shA_set1 (beds := beds) (mo := MK) (y := a + x) (show k < LK.length by omega)
       rw [s1] at t1
       have l3 : (mixT (addT le ol) le (k + 1)).length = 10 := mix_len hal hlel (by omega)
       have d3 := shA_drop2 (beds := beds) l3 g2
       have t2 := shA_set2 (beds := beds) (le := mixT (addT le ol) le (k + 1)) (mo := MK) (k := k) (y := c + y) l3 (by omega)
       rw [s2] at t2
       have dx : List.drop k (tR ol) = i64 x :: List.drop (k + 1) (tR ol) := drop_of_opt (by simp [hx])
       have dy : List.drop k (tR om) = i64 y :: List.drop (k + 1) (tR om) := drop_of_opt (by simp [hy])
       have hL1 := shA_len beds LK MK
       have hL2 := shA_len beds (mixT (addT le ol) le (k + 1)) MK
       refine awp_skip ?_
       try simp only [go_sem]
       repeat refine awp_seq ?_
       refine awp_block ?_
       repeat refine awp_seq ?_
       refine awp_reg (by kernel_rfl) fun K hK => ?_
       simp only [go_sem]
       (try simp (disch := omega) only [wrapI])
       repeat first | intro _ | refine ⟨(by omega), ?_⟩ | refine ⟨⟨by omega, by omega⟩, ?_⟩
       refine hK _ ?_
       clear hK K
       refine awp_sub (sub_keep [0, 4, 5, 6, 10, 38]) ?_
       simp only [go_sem]
       repeat refine awp_seq ?_
       refine awp_dreg2 [(0, some 1000), (5, none), (6, none)] follows (by decide +kernel) (by kernel_rfl) (by simp only [keysOk, List.mem_cons, List.not_mem_nil, forall_eq_or_imp, Oc.keyOf, go_sem]; simp) fun K hK => ?_
       simp only [go_sem, Nat.mul_one, hv0, d1, d2, d3, dx, dy, t1, t2, hL1, hL2, l1, l2, l3, List.headD_cons, List.length_cons, Nat.zero_add]
       (try simp (disch := omega) only [wrapI])
       simp only [t1, t2, hL2, l3, l2]
       repeat first | intro _ | refine ⟨(by omega), ?_⟩ | refine ⟨⟨by omega, by omega⟩, ?_⟩
       refine hK _ ?_
       clear hK K
       refine awp_sub (sub_keep [0, 4, 5, 6, 38]) ?_
       simp only [go_sem]
       repeat refine awp_seq ?_
       refine awp_reg (by kernel_rfl) fun K hK => ?_
       simp only [go_sem]
       (try simp (disch := omega) only [wrapI])
       repeat first | intro _ | refine ⟨(by omega), ?_⟩ | refine ⟨⟨by omega, by omega⟩, ?_⟩
       refine hK _ ?_
       clear hK K
       try simp only [go_sem]
       refine ⟨hck, fit0_of [] (by first | exact hvl | (intro j hj; simp only [upd]; (repeat' split); all_goals first | rfl | omega | exact hvl _ hj)) ?_ ?_⟩
       · try simp only [go_sem]
       · try simp only [go_sem]
     · have hk10 : k = 10 := by omega
       subst hk10
       have e1 : mixT (addT le ol) le 10 = addT le ol := by
        unfold mixT
        rw [List.take_of_length_le (by omega), List.drop_of_length_le (by omega), List.append_nil]
       have e2 : mixT (addT mo om) mo 10 = addT mo om := by
        unfold mixT
        rw [List.take_of_length_le (by omega), List.drop_of_length_le (by omega), List.append_nil]
       rw [e1, e2]
       refine awp_exit ?_
       simp only [go_sem]
       repeat refine awp_seq ?_
       refine awp_reg (by kernel_rfl) fun K hK => ?_
       simp only [go_sem]
       (try simp (disch := omega) only [wrapI])
       repeat first | intro _ | refine ⟨(by omega), ?_⟩ | refine ⟨⟨by omega, by omega⟩, ?_⟩
       refine hK _ ?_
       clear hK K
       refine awp_ret ?_
       simp only [go_sem]
       exact ⟨frzPL_r _ _ _, congrArg RowC.box (frzL_r _ _ _)⟩
end Go.Proofs.Ytgkejinoaommeaa

namespace Go.Proofs.Ytgkejinoaommeaa
open Go Go.Oc
set_option linter.unusedSimpArgs false
set_option linter.unusedVariables false
set_option maxRecDepth 8000
def BedsOk (beds : List Int) : Prop := beds.length ≤ 10 ∧ ∀ b ∈ beds, 0 ≤ b ∧ b ≤ 499
def tally3 (i k m : Nat) : List Int := incT (incT (incT zeroT i) k) m
def cell3 (beds : List Int) (n : Int) (i k m : Nat) : List (List Int) :=
 if scoreOf (beds.getD i 0) + scoreOf (beds.getD k 0) + scoreOf (beds.getD m 0) = n then [tally3 i k m] else []
def rowM (beds : List Int) (n : Int) (i k m : Nat) : List (List Int) := ((List.range beds.length).drop m).flatMap (cell3 beds n i k)
def rowK (beds : List Int) (n : Int) (i k : Nat) : List (List Int) := ((List.range beds.length).drop k).flatMap fun k => rowM beds n i k k
def rowI (beds : List Int) (n : Int) (i : Nat) : List (List Int) := ((List.range beds.length).drop i).flatMap fun i => rowK beds n i i
def threeT (beds : List Int) (n : Int) : List (List Int) := rowI beds n 0
theorem range_drop {N m : Nat} (h : m < N) : (List.range N).drop m = m :: (List.range N).drop (m + 1) := drop_of_opt (by simp [h])
theorem rowM_step {beds : List Int} {n : Int} {i k m : Nat} (h : m < beds.length) : rowM beds n i k m = cell3 beds n i k m ++ rowM beds n i k (m + 1) := by
 unfold rowM; rw [range_drop h, List.flatMap_cons]
theorem rowK_step {beds : List Int} {n : Int} {i k : Nat} (h : k < beds.length) : rowK beds n i k = rowM beds n i k k ++ rowK beds n i (k + 1) := by
 unfold rowK; rw [range_drop h, List.flatMap_cons]
theorem rowI_step {beds : List Int} {n : Int} {i : Nat} (h : i < beds.length) : rowI beds n i = rowK beds n i i ++ rowI beds n (i + 1) := by
 unfold rowI; rw [range_drop h, List.flatMap_cons]
theorem rowM_end {beds : List Int} {n : Int} {i k m : Nat} (h : beds.length ≤ m) : rowM beds n i k m = [] := by
 unfold rowM; rw [List.drop_of_length_le (by simpa using h)]; rfl
theorem rowK_end {beds : List Int} {n : Int} {i k : Nat} (h : beds.length ≤ k) : rowK beds n i k = [] := by
 unfold rowK; rw [List.drop_of_length_le (by simpa using h)]; rfl
theorem rowI_end {beds : List Int} {n : Int} {i : Nat} (h : beds.length ≤ i) : rowI beds n i = [] := by
 unfold rowI; rw [List.drop_of_length_le (by simpa using h)]; rfl
theorem incT_eq {t : List Int} {i : Nat} {x : Int} (h : t[i]? = some x) : incT t i = t.set i (x + 1) := by simp [incT, List.getD_eq_getElem?_getD, h]
theorem tally3_small (i k m : Nat) : SmallT 3 (tally3 i k m) := by
 have h0 : SmallT 0 zeroT := zeroT_small (by omega)
 have h1 := incT_small (i := i) h0 (by omega)
 have h2 := incT_small (i := k) h1 (by omega)
 exact incT_small (i := m) h2 (by omega)
theorem threeT_small {beds : List Int} {n : Int} : ∀ t ∈ threeT beds n, SmallT 3 t := fun t ht => by
 unfold threeT rowI at ht
 obtain ⟨i, _, ht⟩ := List.mem_flatMap.1 ht
 unfold rowK at ht
 obtain ⟨k, _, ht⟩ := List.mem_flatMap.1 ht
 unfold rowM at ht
 obtain ⟨m, _, ht⟩ := List.mem_flatMap.1 ht
 unfold cell3 at ht
 split at ht
 · rw [List.mem_singleton.1 ht]; exact tally3_small i k m
 · cases ht
abbrev yl1 (l : List (List Int)) : List (List RV) := l.map fun t => [.ag (tR t)]
theorem three1_ok (beds le mo : List Int) (n : Int) (hb : BedsOk beds) : ICalls Try.prog true 94 [.rp [.rp (sheetR beds le mo)], .rp [i64 n]] (yl1 (threeT beds n)) := by
 have hlen := hb.1
 refine icalls_st Try.func94 rfl (by kernel_rfl) Try.ntmps94 rfl (by simp) fun C ll => ?_
 repeat refine awp_seq ?_
 refine awp_reg (by kernel_rfl) fun K hK => ?_
 simp only [go_sem, argL]
 (try simp (disch := omega) only [wrapI])
 intros
 repeat first | intro _ | refine ⟨(by omega), ?_⟩ | refine ⟨⟨by omega, by omega⟩, ?_⟩
 refine hK _ ?_
 clear hK K
 refine awp_sub (sub_keep [0, 1, 2, 14, 15, 16]) ?_
 simp only [go_sem]
 repeat refine awp_seq ?_
 refine awp_block ?_
 refine awp_upto (n := 85) beds.length (fun i vs => [(0, .r (.yl ll)), (1, .r (.rp [.rp (sheetR beds le mo)])), (2, .r (.rp [i64 n])), (14, .r (ints beds)), (15, .r (i64 beds.length)), (16, .r (i64 i))])
  (fun i => [(999, .gh Try.prog ll true (some (yl1 (rowI beds n i))))]) (fun _ => True) 0 (fit_of [] ?_ ?_) (Nat.zero_le _) trivial ?_
 · try simp only [go_sem]
 · try simp only [go_sem]
   rfl
 · intro i vs hi _
   repeat refine awp_seq ?_
   refine awp_reg (by kernel_rfl) fun K hK => ?_
   simp only [go_sem]
   (try simp (disch := omega) only [wrapI])
   repeat first | intro _ | refine ⟨(by omega), ?_⟩ | refine ⟨⟨by omega, by omega⟩, ?_⟩
   refine hK _ ?_
   clear hK K
   refine awp_sub (sub_keep [0, 1, 2, 14, 15, 16, 17]) ?_
   simp only [go_sem]
   repeat refine awp_seq ?_
   refine awp_cond rfl (fun hc => ?_) (fun hc => ?_) <;> (try simp only [go_sem] at hc)
   · have hci := hc
     obtain ⟨a, ha⟩ := opt_of_lt hci
     have hs1 := rowI_step (n := n) hci
     refine awp_skip ?_
     try simp only [go_sem]
     repeat refine awp_seq ?_
     refine awp_block ?_
     repeat refine awp_seq ?_
     refine awp_reg (by kernel_rfl) fun K hK => ?_
     simp only [go_sem, ha, hci]
     (try simp (disch := omega) only [wrapI])
     repeat first | intro _ | refine ⟨(by omega), ?_⟩ | refine ⟨⟨by omega, by omega⟩, ?_⟩
     refine hK _ ?_
     clear hK K
     refine awp_sub (sub_keep [0, 1, 2, 4, 5, 14, 15, 16]) ?_
     simp only [go_sem]
     repeat refine awp_seq ?_
     refine awp_reg (by kernel_rfl) fun K hK => ?_
     simp only [go_sem]
     (try simp (disch := omega) only [wrapI])
     intros
     refine ⟨by omega, ?_⟩
     repeat first | intro _ | refine ⟨(by omega), ?_⟩ | refine ⟨⟨by omega, by omega⟩, ?_⟩
     refine hK _ ?_
     clear hK K
     refine awp_sub (sub_keep [0, 1, 2, 4, 5, 14, 15, 16, 26, 27, 28]) ?_
     simp only [go_sem]
     have hdm : List.drop i (beds.map fun x => [RV.it IntKind.i64 x]) = (beds.drop i).map fun x => [RV.it IntKind.i64 x] := List.map_drop.symm
     have hdl : (beds.drop i).length = beds.length - i := List.length_drop
     rw [hdm, hs1]
     repeat refine awp_seq ?_
     refine awp_block ?_
     refine awp_upto (n := 85) (beds.length - i) (fun k vs => [(0, .r (.yl ll)), (1, .r (.rp [.rp (sheetR beds le mo)])), (2, .r (.rp [i64 n])), (4, .r (i64 i)), (5, .r (i64 a)), (14, .r (ints beds)), (15, .r (i64 beds.length)), (16, .r (i64 i)), (26, .r (ints (beds.drop i))), (27, .r (i64 ((beds.length - i : Nat) : Int))), (28, .r (i64 k))])
      (fun k => [(999, .gh Try.prog ll true (some (yl1 (rowK beds n i (i + k) ++ rowI beds n (i + 1)))))]) (fun _ => True) 0 (fit_of [] ?_ ?_) (Nat.zero_le _) trivial ?_
     · try simp only [go_sem]
     · try simp only [go_sem]
     · intro k vs hk _
       repeat refine awp_seq ?_
       refine awp_reg (by kernel_rfl) fun K hK => ?_
       simp only [go_sem]
       (try simp (disch := omega) only [wrapI])
       repeat first | intro _ | refine ⟨(by omega), ?_⟩ | refine ⟨⟨by omega, by omega⟩, ?_⟩
       refine hK _ ?_
       clear hK K
       refine awp_sub (sub_keep [0, 1, 2, 4, 5, 14, 15, 16, 26, 27, 28, 29]) ?_
       simp only [go_sem]
       repeat refine awp_seq ?_
       refine awp_cond rfl (fun hc => ?_) (fun hc => ?_) <;> (try simp only [go_sem] at hc)
       · have hck : k < beds.length - i := by first | exact hc | omega
         have hkl : i + k < beds.length := by omega
         obtain ⟨b, hbx⟩ := opt_of_lt hkl
         have hbd : (beds.drop i)[k]? = some b := by rw [List.getElem?_drop]; exact hbx
         have hkd : k < (beds.drop i).length := by omega
         have hs2 := rowK_step (n := n) (i := i) hkl
         refine awp_skip ?_
         try simp only [go_sem]
         repeat refine awp_seq ?_
         refine awp_block ?_
         repeat refine awp_seq ?_
         refine awp_reg (by kernel_rfl) fun K hK => ?_
         simp only [go_sem, hbd, hkd]
         (try simp (disch := omega) only [wrapI])
         repeat first | intro _ | refine ⟨(by omega), ?_⟩ | refine ⟨⟨by omega, by omega⟩, ?_⟩
         refine hK _ ?_
         clear hK K
         refine awp_sub (sub_keep [0, 1, 2, 4, 5, 6, 7, 14, 15, 16, 26, 27, 28]) ?_
         simp only [go_sem]
         repeat refine awp_seq ?_
         refine awp_reg (by kernel_rfl) fun K hK => ?_
         simp only [go_sem]
         (try simp (disch := omega) only [wrapI])
         intros
         refine ⟨by omega, ?_⟩
         repeat first | intro _ | refine ⟨(by omega), ?_⟩ | refine ⟨⟨by omega, by omega⟩, ?_⟩
         refine hK _ ?_
         clear hK K
         refine awp_sub (sub_keep [0, 1, 2, 4, 5, 6, 7, 14, 15, 16, 26, 27, 28, 40, 41, 42]) ?_
         simp only [go_sem]
         have htn : ((i : Int) + (k : Int)).toNat = i + k := by omega
         have hdm2 : List.drop (i + k) (beds.map fun x => [RV.it IntKind.i64 x]) = (beds.drop (i + k)).map fun x => [RV.it IntKind.i64 x] := List.map_drop.symm
         have hdl2 : (beds.drop (i + k)).length = beds.length - (i + k) := List.length_drop
         rw [htn, hdm2, hs2]
         repeat refine awp_seq ?_
         refine awp_block ?_
         refine awp_upto (n := 85) (beds.length - (i + k)) (fun m vs => [(0, .r (.yl ll)), (1, .r (.rp [.rp (sheetR beds le mo)])), (2, .r (.rp [i64 n])), (4, .r (i64 i)), (5, .r (i64 a)), (6, .r (i64 k)), (7, .r (i64 b)), (14, .r (ints beds)), (15, .r (i64 beds.length)), (16, .r (i64 i)), (26, .r (ints (beds.drop i))), (27, .r (i64 ((beds.length - i : Nat) : Int))), (28, .r (i64 k)), (40, .r (ints (beds.drop (i + k)))), (41, .r (i64 ((beds.length - (i + k) : Nat) : Int))), (42, .r (i64 m))])
          (fun m => [(999, .gh Try.prog ll true (some (yl1 (rowM beds n i (i + k) (i + k + m) ++ (rowK beds n i (i + k + 1) ++ rowI beds n (i + 1))))))]) (fun _ => True) 0 (fit_of [] ?_ ?_) (Nat.zero_le _) trivial ?_
         · try simp only [go_sem]
         · try simp only [go_sem]
           simp [List.append_assoc]
         · intro m vs hm _
           repeat refine awp_seq ?_
           refine awp_reg (by kernel_rfl) fun K hK => ?_
           simp only [go_sem]
           (try simp (disch := omega) only [wrapI])
           repeat first | intro _ | refine ⟨(by omega), ?_⟩ | refine ⟨⟨by omega, by omega⟩, ?_⟩
           refine hK _ ?_
           clear hK K
           refine awp_sub (sub_keep [0, 1, 2, 4, 5, 6, 7, 14, 15, 16, 26, 27, 28, 40, 41, 42, 43]) ?_
           simp only [go_sem]
           repeat refine awp_seq ?_
           refine awp_cond rfl (fun hc => ?_) (fun hc => ?_) <;> (try simp only [go_sem] at hc)
           · have hcm : m < beds.length - (i + k) := by first | exact hc | omega
             have hml : i + k + m < beds.length := by omega
             obtain ⟨c, hcx⟩ := opt_of_lt hml
             have hcd : (beds.drop (i + k))[m]? = some c := by rw [List.getElem?_drop]; exact hcx
             have hmd : m < (beds.drop (i + k)).length := by omega
             have hs3 := rowM_step (n := n) (i := i) (k := i + k) hml
             have ba := hb.2 a (mem_of_opt ha)
             have bb := hb.2 b (mem_of_opt hbx)
             have bc := hb.2 c (mem_of_opt hcx)
             have sa := score_le ba.1 ba.2
             have sb := score_le bb.1 bb.2
             have sc := score_le bc.1 bc.2
             have hcell : cell3 beds n i (i + k) (i + k + m) = if scoreOf a + scoreOf b + scoreOf c = n then [tally3 i (i + k) (i + k + m)] else [] := by
              unfold cell3
              simp only [List.getD_eq_getElem?_getD, ha, hbx, hcx, Option.getD_some]
             rw [hs3, hcell]
             refine awp_skip ?_
             try simp only [go_sem]
             repeat refine awp_seq ?_
             refine awp_block ?_
             repeat refine awp_seq ?_
             refine awp_reg (by kernel_rfl) fun K hK => ?_
             simp only [go_sem, hcd, hmd]
             (try simp (disch := omega) only [wrapI])
             repeat first | intro _ | refine ⟨(by omega), ?_⟩ | refine ⟨⟨by omega, by omega⟩, ?_⟩
             refine hK _ ?_
             clear hK K
             refine awp_sub (sub_keep [0, 1, 2, 4, 5, 6, 7, 8, 9, 14, 15, 16, 26, 27, 28, 40, 41, 42]) ?_
             simp only [go_sem]
             repeat refine awp_seq ?_
             refine awp_dreg follows (by decide +kernel) (by kernel_rfl) fun K hK => ?_
             simp only [go_sem]
             (try simp (disch := omega) only [wrapI])
             refine xcall_eq (score_ok a ba.1 ba.2) rfl (by simp only [go_sem, i64, ints]) (by simp only [go_sem, i64, ints]) (by first | exact .inl rfl | exact .inr rfl) ?_
             (try simp only [go_sem])
             (try simp (disch := omega) only [wrapI])
             refine xcall_eq (score_ok b bb.1 bb.2) rfl (by simp only [go_sem, i64, ints]) (by simp only [go_sem, i64, ints]) (by first | exact .inl rfl | exact .inr rfl) ?_
             (try simp only [go_sem])
             (try simp (disch := omega) only [wrapI])
             refine xcall_eq (score_ok c bc.1 bc.2) rfl (by simp only [go_sem, i64, ints]) (by simp only [go_sem, i64, ints]) (by first | exact .inl rfl | exact .inr rfl) ?_
             (try simp only [go_sem])
             (try simp (disch := omega) only [wrapI])
             repeat first | intro _ | refine ⟨(by omega), ?_⟩ | refine ⟨⟨by omega, by omega⟩, ?_⟩
             refine hK _ ?_
             clear hK K
             refine awp_sub (sub_keep [0, 1, 2, 4, 5, 6, 7, 8, 9, 14, 15, 16, 26, 27, 28, 40, 41, 42, 56]) ?_
             simp only [go_sem]
             by_cases hsum : scoreOf a + scoreOf b + scoreOf c = n
             · have e1 : (scoreOf a + scoreOf b + scoreOf c != n) = false := by simp [hsum]
               rw [e1, if_pos hsum]
               repeat refine awp_seq ?_
               refine awp_cond rfl (fun hc => ?_) (fun hc => ?_) <;> (try simp only [go_sem] at hc)
               refine awp_skip ?_
               try simp only [go_sem]
               repeat refine awp_seq ?_
               refine awp_reg (by kernel_rfl) fun K hK => ?_
               simp only [go_sem]
               (try simp (disch := omega) only [wrapI])
               repeat first | intro _ | refine ⟨(by omega), ?_⟩ | refine ⟨⟨by omega, by omega⟩, ?_⟩
               refine hK _ ?_
               clear hK K
               refine awp_sub (sub_keep [0, 1, 2, 4, 5, 6, 7, 8, 9, 10, 14, 15, 16, 26, 27, 28, 40, 41, 42]) ?_
               simp only [go_sem]
               have ez : ([AV.r (RV.it IntKind.i64 0), AV.r (RV.it IntKind.i64 0), AV.r (RV.it IntKind.i64 0), AV.r (RV.it IntKind.i64 0), AV.r (RV.it IntKind.i64 0), AV.r (RV.it IntKind.i64 0), AV.r (RV.it IntKind.i64 0), AV.r (RV.it IntKind.i64 0), AV.r (RV.it IntKind.i64 0), AV.r (RV.it IntKind.i64 0)] : List AV) = tA zeroT := rfl
               have smx : SmallT 0 zeroT := zeroT_small (by omega)
               have smy : SmallT 1 (incT zeroT i) := incT_small smx (by omega)
               have smz : SmallT 2 (incT (incT zeroT i) (i + k)) := incT_small smy (by omega)
               have smw : SmallT 3 (tally3 i (i + k) (i + k + m)) := tally3_small _ _ _
               have q0 := smx.1
               have q1 := smy.1
               have q2 := smz.1
               have q3 := smw.1
               have htn3 : ((i : Int) + (k : Int) + (m : Int)).toNat = i + k + m := by omega
               have wk1 : IntKind.i64.wrap ((i : Int) + (k : Int)) = ((i + k : Nat) : Int) := by rw [wrapI] <;> omega
               have wk2 : IntKind.i64.wrap (((i + k : Nat) : Int) + (m : Int)) = ((i + k + m : Nat) : Int) := by rw [wrapI] <;> omega
               rw [ez]
               obtain ⟨x, hx⟩ := opt_of_lt (l := zeroT) (i := i) (by omega)
               have ix : incT zeroT (i) = (zeroT).set (i) (x + 1) := incT_eq hx
               have gx := smx.2 x (mem_of_opt hx)
               have dx := tA_drop hx
               have sx := tA_set (t := zeroT) (i := i) (y := x + 1) (by omega)
               have lx := tA_len (zeroT)
               rw [← ix] at sx
               repeat refine awp_seq ?_
               refine awp_reg (by kernel_rfl) fun K hK => ?_
               simp only [go_sem, Nat.mul_one, dx, lx, List.headD_cons, List.length_cons]
               (try simp (disch := omega) only [wrapI])
               repeat first | intro _ | refine ⟨(by omega), ?_⟩ | refine ⟨⟨by omega, by omega⟩, ?_⟩
               refine hK _ ?_
               clear hK K
               rw [sx]
               refine awp_sub (sub_keep [0, 1, 2, 4, 5, 6, 7, 8, 9, 10, 14, 15, 16, 26, 27, 28, 40, 41, 42]) ?_
               simp only [go_sem]
               obtain ⟨y, hy⟩ := opt_of_lt (l := incT zeroT i) (i := i + k) (by omega)
               have iy : incT (incT zeroT i) (i + k) = (incT zeroT i).set (i + k) (y + 1) := incT_eq hy
               have gy := smy.2 y (mem_of_opt hy)
               have dy := tA_drop hy
               have sy := tA_set (t := incT zeroT i) (i := i + k) (y := y + 1) (by omega)
               have ly := tA_len (incT zeroT i)
               rw [← iy] at sy
               repeat refine awp_seq ?_
               refine awp_reg (by kernel_rfl) fun K hK => ?_
               simp only [go_sem, Nat.mul_one]
               (try simp (disch := omega) only [wrapI])
               simp only [go_sem, Nat.mul_one, htn, dy, ly, List.headD_cons, List.length_cons]
               (try simp (disch := omega) only [wrapI])
               (try simp only [go_sem, Nat.mul_one, htn, dy, ly, List.headD_cons, List.length_cons])
               repeat first | intro _ | refine ⟨(by omega), ?_⟩ | refine ⟨⟨by omega, by omega⟩, ?_⟩
               refine hK _ ?_
               clear hK K
               rw [sy]
               refine awp_sub (sub_keep [0, 1, 2, 4, 5, 6, 7, 8, 9, 10, 14, 15, 16, 26, 27, 28, 40, 41, 42]) ?_
               simp only [go_sem]
               obtain ⟨z, hz⟩ := opt_of_lt (l := incT (incT zeroT i) (i + k)) (i := i + k + m) (by omega)
               have iz : incT (incT (incT zeroT i) (i + k)) (i + k + m) = (incT (incT zeroT i) (i + k)).set (i + k + m) (z + 1) := incT_eq hz
               have gz := smz.2 z (mem_of_opt hz)
               have dz := tA_drop hz
               have sz := tA_set (t := incT (incT zeroT i) (i + k)) (i := i + k + m) (y := z + 1) (by omega)
               have lz := tA_len (incT (incT zeroT i) (i + k))
               rw [← iz] at sz
               repeat refine awp_seq ?_
               refine awp_reg (by kernel_rfl) fun K hK => ?_
               simp only [go_sem, Nat.mul_one]
               (try simp (disch := omega) only [wrapI])
               simp only [go_sem, Nat.mul_one, htn3, dz, lz, List.headD_cons, List.length_cons]
               (try simp (disch := omega) only [wrapI])
               (try simp only [go_sem, Nat.mul_one, htn3, dz, lz, List.headD_cons, List.length_cons])
               repeat first | intro _ | refine ⟨(by omega), ?_⟩ | refine ⟨⟨by omega, by omega⟩, ?_⟩
               refine hK _ ?_
               clear hK K
               rw [sz]
               refine awp_sub (sub_keep [0, 1, 2, 4, 5, 6, 7, 8, 9, 10, 14, 15, 16, 26, 27, 28, 40, 41, 42]) ?_
               simp only [go_sem]
               have et : incT (incT (incT zeroT i) (i + k)) (i + k + m) = tally3 i (i + k) (i + k + m) := rfl
               rw [et]
               generalize hT : tally3 i (i + k) (i + k + m) = T at *
               have htk : List.take 10 (tR T) = tR T := List.take_of_length_le (by rw [List.length_map, q3]; exact Nat.le_refl _)
               have htl : (tR T).length = 10 := by rw [List.length_map, q3]
               refine awp_sub (sub_frzP 10 10 (tR T) (by omega) rfl rfl) ?_
               try simp only [go_sem]
               repeat refine awp_seq ?_
               refine awp_reg (by kernel_rfl) fun K hK => ?_
               simp only [go_sem, htk, htl, Nat.le_refl]
               (try simp (disch := omega) only [wrapI])
               refine xcall_yield (z := true) (e := [.ag (tR T)]) (rest := yl1 (rowM beds n i (i + k) (i + k + m + 1) ++ (rowK beds n i (i + k + 1) ++ rowI beds n (i + 1)))) (by simp only [go_sem]) rfl (by simp only [go_sem]) (.inl (by simp only [RV.flatL, RV.flatB, flat_tR, Bool.and_self])) ?_ ?_
               · simp only [go_sem]
                 repeat first | intro _ | refine ⟨(by omega), ?_⟩ | refine ⟨⟨by omega, by omega⟩, ?_⟩
                 refine hK _ ?_
                 clear hK K
                 refine awp_sub (sub_keep [0, 1, 2, 4, 5, 6, 7, 14, 15, 16, 26, 27, 28, 40, 41, 42, 81]) ?_
                 simp only [go_sem]
                 repeat refine awp_seq ?_
                 refine awp_cond rfl (fun hc => ?_) (fun hc => ?_) <;> (try simp only [go_sem] at hc)
                 refine awp_skip ?_
                 try simp only [go_sem]
                 repeat refine awp_seq ?_
                 refine awp_reg (by kernel_rfl) fun K hK => ?_
                 simp only [go_sem]
                 (try simp (disch := omega) only [wrapI])
                 repeat first | intro _ | refine ⟨(by omega), ?_⟩ | refine ⟨⟨by omega, by omega⟩, ?_⟩
                 refine hK _ ?_
                 clear hK K
                 try simp only [go_sem]
                 refine ⟨hcm, fit_of [] ?_ ?_⟩
                 · try simp only [go_sem]
                 · try simp only [go_sem]
                   simp [Nat.add_assoc]
               · simp only [go_sem]
                 repeat first | intro _ | refine ⟨(by omega), ?_⟩ | refine ⟨⟨by omega, by omega⟩, ?_⟩
                 refine hK _ ?_
                 clear hK K
                 refine awp_sub (sub_keep [81]) ?_
                 simp only [go_sem]
                 repeat refine awp_seq ?_
                 refine awp_cond rfl (fun hc => ?_) (fun hc => ?_) <;> (try simp only [go_sem] at hc)
                 refine awp_ret ?_
                 simp only [go_sem]
                 exact ⟨_, _, .inr rfl⟩
             · have e1 : (scoreOf a + scoreOf b + scoreOf c != n) = true := by simp [hsum]
               rw [e1, if_neg hsum]
               repeat refine awp_seq ?_
               refine awp_cond rfl (fun hc => ?_) (fun hc => ?_) <;> (try simp only [go_sem] at hc)
               refine awp_exit ?_
               simp only [go_sem]
               repeat refine awp_seq ?_
               refine awp_reg (by kernel_rfl) fun K hK => ?_
               simp only [go_sem]
               (try simp (disch := omega) only [wrapI])
               repeat first | intro _ | refine ⟨(by omega), ?_⟩ | refine ⟨⟨by omega, by omega⟩, ?_⟩
               refine hK _ ?_
               clear hK K
               try simp only [go_sem]
               refine ⟨hcm, fit_of [] ?_ ?_⟩
               · try simp only [go_sem]
               · try simp only [go_sem]
                 simp [Nat.add_assoc]
           · have hme : m = beds.length - (i + k) := by omega
             refine awp_exit ?_
             simp only [go_sem]
             rw [rowM_end (m := i + k + m) (by omega)]
             repeat refine awp_seq ?_
             refine awp_reg (by kernel_rfl) fun K hK => ?_
             simp only [go_sem]
             (try simp (disch := omega) only [wrapI])
             repeat first | intro _ | refine ⟨(by omega), ?_⟩ | refine ⟨⟨by omega, by omega⟩, ?_⟩
             refine hK _ ?_
             clear hK K
             try simp only [go_sem]
             refine ⟨hck, fit_of [] ?_ ?_⟩
             · try simp only [go_sem]
             · try simp only [go_sem]
               simp [Nat.add_assoc]
       · have hke : k = beds.length - i := by omega
         refine awp_exit ?_
         simp only [go_sem]
         rw [rowK_end (k := i + k) (by omega)]
         repeat refine awp_seq ?_
         refine awp_reg (by kernel_rfl) fun K hK => ?_
         simp only [go_sem]
         (try simp (disch := omega) only [wrapI])
         repeat first | intro _ | refine ⟨(by omega), ?_⟩ | refine ⟨⟨by omega, by omega⟩, ?_⟩
         refine hK _ ?_
         clear hK K
         try simp only [go_sem]
         refine ⟨hci, fit_of [] ?_ ?_⟩
         · try simp only [go_sem]
         · try simp only [go_sem]
   · refine awp_exit ?_
     simp only [go_sem]
     rw [rowI_end (by omega)]
     exact ⟨_, _, .inl rfl⟩
end Go.Proofs.Ytgkejinoaommeaa

namespace Go.Proofs.Ytgkejinoaommeaa
open Go Go.Oc
set_option linter.unusedSimpArgs false
set_option linter.unusedVariables false
set_option maxRecDepth 8000
def truthsK (beds ds : List Int) : List (List Int) := match tallyK beds zeroT ds with | some t => [t] | none => []
theorem knownXs_eq (beds ds : List Int) : knownXs beds ds = yl1 (truthsK beds ds) := by
 unfold knownXs truthsK
 cases tallyK beds zeroT ds <;> rfl
theorem tallyK_small {beds : List Int} : ∀ {ds t r : List Int} {b : Int}, tallyK beds t ds = some r → 0 ≤ b → SmallT b t → SmallT (b + ds.length) r
 | [], t, r, b, h, hb, hs => by
   simp only [tallyK, Option.some.injEq] at h
   subst h
   simpa using hs
 | d :: ds, t, r, b, h, hb, hs => by
   rw [tallyK] at h
   split at h
   · cases h
   · have := tallyK_small h (by omega) (incT_small (i := (atE beds d).toNat) hs hb)
     rw [List.length_cons]
     have e : b + 1 + (ds.length : Int) = b + ((ds.length + 1 : Nat) : Int) := by omega
     rwa [e] at this
theorem truthsK_small {beds ds : List Int} (h : ds.length = 3) : ∀ t ∈ truthsK beds ds, SmallT 3 t := fun t ht => by
 unfold truthsK at ht
 cases e : tallyK beds zeroT ds with
 | none => rw [e] at ht; cases ht
 | some r =>
   rw [e] at ht
   rw [List.mem_singleton.1 ht]
   have := tallyK_small e (by omega) (zeroT_small (b := 0) (by omega))
   rw [h] at this
   exact this
def truthsV (beds ds : List Int) (n : Int) : List (List Int) := if ds = [] then threeT beds n else truthsK beds ds
def visitE (beds ds : List Int) (n : Int) : Int :=
 if ds ≠ [] ∧ (ds.length ≠ 3 ∨ n ≠ 0) then 4 else if ¬ (0 ≤ n ∧ n ≤ 240) then 3 else if (truthsV beds ds n).isEmpty then 9 else 0
theorem lift_rp {w : World} {R R' : Nat → Prop} {u : Addr} {rs : List RV} {v : Value} (h : RV.rel w R (.rp [.vl u]) v) (hu : RV.rel w R' (.rp rs) (.pointer (some u))) (hR : ∀ b, R b → R' b) : RV.rel w R' (.rp [.rp rs]) v := by
 simp only [RV.rel, RV.relC] at h ⊢
 obtain ⟨ad, hv, hr, ⟨x, hx, h1, h2⟩, _⟩ := h
 subst h2
 refine ⟨ad, hv, hR _ hr, ⟨_, hx, h1, ?_⟩, trivial⟩
 simpa only [RV.rel] using hu
theorem cap_known {u : Addr} {ds : List Int} {rs : List RV} (w : World) (p : Plan) (ver : Nat → Nat) (R' : Nat → Prop) (vals : List Value) (h : AV.relV w p ver ([.rp [ints ds], .rp [.vl u]].map .r) vals) (hu : RV.rel w R' (.rp rs) (.pointer (some u))) (hR : ∀ b, p.R b → R' b) :
 RV.relV w R' [.rp [ints ds], .rp [.rp rs]] vals := by
 simp only [List.map_cons, List.map_nil, AV.relV, AV.rel] at h
 obtain ⟨v1, vs, rfl, h1, v2, vs2, rfl, h2, rfl⟩ := h
 simp only [RV.relV]
 exact ⟨v1, [v2], rfl, RV.rel_mono hR (fun _ _ => rfl) _ _ h1, v2, [], rfl, lift_rp h2 hu hR, rfl⟩
theorem cap_three {u : Addr} {n : Int} {rs : List RV} (w : World) (p : Plan) (ver : Nat → Nat) (R' : Nat → Prop) (vals : List Value) (h : AV.relV w p ver ([.rp [.vl u], .rp [i64 n]].map .r) vals) (hu : RV.rel w R' (.rp rs) (.pointer (some u))) (hR : ∀ b, p.R b → R' b) :
 RV.relV w R' [.rp [.rp rs], .rp [i64 n]] vals := by
 simp only [List.map_cons, List.map_nil, AV.relV, AV.rel] at h
 obtain ⟨v1, vs, rfl, h1, v2, vs2, rfl, h2, rfl⟩ := h
 simp only [RV.relV]
 exact ⟨v1, [v2], rfl, lift_rp h1 hu hR, v2, [], rfl, RV.rel_mono hR (fun _ _ => rfl) _ _ h2, rfl⟩
theorem addT_zero : ∀ (a z : List Int), a.length = z.length → (∀ x ∈ z, x = 0) → addT a z = a
 | [], [], _, _ => rfl
 | a :: l, z :: m, h, hz => by
   have h0 := hz z (by simp)
   simp only [List.length_cons] at h
   have ih := addT_zero l m (by omega) fun x hx => hz x (by simp [hx])
   unfold addT at ih ⊢
   rw [List.zipWith_cons_cons, ih, h0, Int.add_zero]
 | [], _ :: _, h, _ => by simp at h
 | _ :: _, [], h, _ => by simp at h
theorem backL_r (ρ : List (Nat × Nat)) (ver : Nat → Nat) : ∀ l : List RV, backL ρ ver (l.map AV.r) = l.map AV.r
 | [] => rfl
 | x :: l => by simp only [List.map_cons, backL, backA, backL_r ρ ver l]
theorem shA_back (ρ : List (Nat × Nat)) (ver : Nat → Nat) (beds le mo : List Int) : backL ρ ver (shA beds le mo) = shA beds le mo := backL_r ρ ver _
theorem lendL_r (ρ : List (Nat × Nat)) (ver : Nat → Nat) : ∀ l : List RV, lendL ρ ver (l.map AV.r) = some (l.map AV.r)
 | [] => rfl
 | x :: l => by simp only [List.map_cons, lendL, lendA, lendL_r ρ ver l]
theorem shA_lend (ρ : List (Nat × Nat)) (ver : Nat → Nat) (beds le mo : List Int) : lendL ρ ver (shA beds le mo) = some (shA beds le mo) := lendL_r ρ ver _
theorem accL_nil : accL [] = (false, zeroT, zeroT) := rfl
def leV (beds le ds : List Int) (n : Int) : List Int := if visitE beds ds n = 0 then addT le (accL (truthsV beds ds n)).2.1 else le
def moV (beds mo ds : List Int) (n : Int) : List Int := if visitE beds ds n = 0 then addT mo (accL (truthsV beds ds n)).2.2 else mo
theorem visit_ok (beds le mo ds : List Int) (n : Int) (hb : BedsOk beds) (hle : SmallT 3000 le) (hmo : SmallT 3000 mo) :
 MCalls Try.prog 60 [(1000, .box (shA beds le mo))] [(1000, .box (shA beds (leV beds le ds n) (moV beds mo ds n)))] [.pt 1000 0 0, .ag [.r (ints ds), .r (i64 n)]] (.r (i64 (visitE beds ds n))) := by
 refine mcalls_stO (n := 45) (rs := [.r (i64 (visitE beds ds n))]) _ _ [.tmp 4] Try.func60 rfl (by kernel_rfl) Try.ntmps60 rfl (by simp) rfl rfl fun C hC => ?_
 refine awp_name 0 rfl fun u => ?_
 have hbl := hb.1
 have fin : ∀ l : List RV, frzPL [(1000, RowC.box (shA beds le mo))] (fun _ => ⟨0, .dead⟩) (l.map AV.r) := fun l => frzPL_r _ _ l
 repeat refine awp_seq ?_
 refine awp_reg (by kernel_rfl) fun K hK => ?_
 simp only [go_sem]
 (try simp (disch := omega) only [wrapI])
 repeat first | intro _ | refine ⟨(by omega), ?_⟩ | refine ⟨⟨by omega, by omega⟩, ?_⟩
 refine hK _ ?_
 clear hK K
 refine awp_sub (sub_frzP 3 3 [ints ds, i64 n] (by omega) rfl rfl) ?_
 refine awp_sub (sub_keep [0, 3, 4]) ?_
 simp only [go_sem]
 repeat refine awp_seq ?_
 refine awp_reg (by kernel_rfl) fun K hK => ?_
 simp only [go_sem]
 (try simp (disch := omega) only [wrapI])
 refine xcall_eq (known_ok u ds) rfl (by simp only [go_sem, i64, ints]) (by simp only [go_sem, i64, ints]) (by first | exact .inl rfl | exact .inr rfl) ?_
 (try simp only [go_sem])
 (try simp (disch := omega) only [wrapI])
 repeat first | intro _ | refine ⟨(by omega), ?_⟩ | refine ⟨⟨by omega, by omega⟩, ?_⟩
 refine hK _ ?_
 clear hK K
 refine awp_sub (sub_keep [0, 3, 5]) ?_
 simp only [go_sem]
 repeat refine awp_seq ?_
 refine awp_block ?_
 by_cases hds : ds = []
 · subst hds
   have e0 : visitE beds [] n = if ¬ (0 ≤ n ∧ n ≤ 240) then 3 else if (threeT beds n).isEmpty then 9 else 0 := by simp [visitE, truthsV]
   have eL : ∀ e, visitE beds [] n = e → e ≠ 0 → leV beds le [] n = le ∧ moV beds mo [] n = mo := fun e h1 h2 => by
    unfold leV moV
    rw [if_neg (by rw [h1]; exact h2), if_neg (by rw [h1]; exact h2)]
    exact ⟨rfl, rfl⟩
   repeat refine awp_seq ?_
   refine awp_reg (by kernel_rfl) fun K hK => ?_
   simp only [go_sem, List.length_nil, bne_self_eq_false]
   (try simp (disch := omega) only [wrapI])
   intros
   repeat first | intro _ | refine ⟨(by omega), ?_⟩ | refine ⟨⟨by omega, by omega⟩, ?_⟩
   refine hK _ ?_
   clear hK K
   refine awp_sub (sub_keep [0, 3, 5, 10]) ?_
   simp only [go_sem]
   repeat refine awp_seq ?_
   refine awp_cond rfl (fun hc => ?_) (fun hc => ?_) <;> (try simp only [go_sem] at hc)
   by_cases hn : 0 ≤ n ∧ n ≤ 240
   · have w1 : withinL 0 240 [n] = true := by simp [withinL]; omega
     rw [if_neg (by simpa using hn)] at e0
     repeat refine awp_seq ?_
     refine awp_reg (by kernel_rfl) fun K hK => ?_
     simp only [go_sem]
     (try simp (disch := omega) only [wrapI])
     refine xcall_eq (within_ok 0 240 [n]) rfl (by simp only [go_sem, i64, ints, w1]) (by simp only [go_sem, i64, ints, w1]) (by first | exact .inl rfl | exact .inr rfl) ?_
     (try simp only [go_sem, w1])
     (try simp (disch := omega) only [wrapI])
     repeat first | intro _ | refine ⟨(by omega), ?_⟩ | refine ⟨⟨by omega, by omega⟩, ?_⟩
     refine hK _ ?_
     clear hK K
     refine awp_sub (sub_keep [0, 3, 5, 26]) ?_
     simp only [go_sem]
     repeat refine awp_seq ?_
     refine awp_cond rfl (fun hc => ?_) (fun hc => ?_) <;> (try simp only [go_sem] at hc)
     repeat refine awp_seq ?_
     refine awp_reg (by kernel_rfl) fun K hK => ?_
     simp only [go_sem, List.length_nil, beq_self_eq_true]
     (try simp (disch := omega) only [wrapI])
     intros
     repeat first | intro _ | refine ⟨(by omega), ?_⟩ | refine ⟨⟨by omega, by omega⟩, ?_⟩
     refine hK _ ?_
     clear hK K
     refine awp_sub (sub_keep [0, 3, 5, 32]) ?_
     simp only [go_sem]
     repeat refine awp_seq ?_
     refine awp_cond rfl (fun hc => ?_) (fun hc => ?_) <;> (try simp only [go_sem] at hc)
     repeat refine awp_seq ?_
     refine awp_reg (by kernel_rfl) fun K hK => ?_
     simp only [go_sem]
     (try simp (disch := omega) only [wrapI])
     refine xcall_eq (three_ok u n) rfl (by simp only [go_sem, i64, ints]) (by simp only [go_sem, i64, ints]) (by first | exact .inl rfl | exact .inr rfl) ?_
     (try simp only [go_sem])
     (try simp (disch := omega) only [wrapI])
     repeat first | intro _ | refine ⟨(by omega), ?_⟩ | refine ⟨⟨by omega, by omega⟩, ?_⟩
     refine hK _ ?_
     clear hK K
     refine awp_sub (sub_keep [0, 5]) ?_
     simp only [go_sem]
     have hmut := add_ok u beds le mo 94 [.rp [.vl u], .rp [i64 n]] [.rp [.rp (sheetR beds le mo)], .rp [i64 n]] (threeT beds n) hle hmo threeT_small (three1_ok beds le mo n hb) cap_three
     repeat refine awp_seq ?_
     refine awp_reg (by kernel_rfl) fun K hK => ?_
     simp only [go_sem]
     (try simp (disch := omega) only [wrapI])
     refine xcall_mut (hmut) [(1000, 1000)] rfl (by simp only [go_sem, i64, ints, shA_lend, shA_back]) (by simp only [go_sem, i64, ints, shA_lend, shA_back]) (by rfl) (by rfl) ?_
     (try simp only [go_sem, shA_lend, shA_back])
     (try simp (disch := omega) only [wrapI])
     repeat first | intro _ | refine ⟨(by omega), ?_⟩ | refine ⟨⟨by omega, by omega⟩, ?_⟩
     refine hK _ ?_
     clear hK K
     try rw [shA_back]
     refine awp_sub (sub_keep [0, 44]) ?_
     simp only [go_sem]
     cases he : (threeT beds n).isEmpty
     · have e1 : visitE beds [] n = 0 := by rw [e0, he]; simp
       have eq1 : leV beds le [] n = addT le (accL (threeT beds n)).2.1 := by unfold leV; rw [if_pos e1]; rfl
       have eq2 : moV beds mo [] n = addT mo (accL (threeT beds n)).2.2 := by unfold moV; rw [if_pos e1]; rfl
       rw [e1, eq1, eq2]
       repeat refine awp_seq ?_
       refine awp_cond rfl (fun hc => ?_) (fun hc => ?_) <;> (try simp only [go_sem] at hc)
       refine awp_skip ?_
       try simp only [go_sem]
       repeat refine awp_seq ?_
       refine awp_reg (by kernel_rfl) fun K hK => ?_
       simp only [go_sem]
       (try simp (disch := omega) only [wrapI])
       repeat first | intro _ | refine ⟨(by omega), ?_⟩ | refine ⟨⟨by omega, by omega⟩, ?_⟩
       refine hK _ ?_
       clear hK K
       refine awp_sub (sub_keep [4]) ?_
       simp only [go_sem]
       refine awp_ret ?_
       simp only [go_sem]
       exact ⟨frzPL_r _ _ _, congrArg RowC.box (frzL_r _ _ _)⟩
     · have e1 : visitE beds [] n = 9 := by rw [e0, he]; simp
       obtain ⟨eq1, eq2⟩ := eL 9 e1 (by decide)
       have hnil : threeT beds n = [] := List.isEmpty_iff.1 he
       rw [hnil, accL_nil, addT_zero le zeroT hle.1 (by decide), addT_zero mo zeroT hmo.1 (by decide), e1, eq1, eq2]
       repeat refine awp_seq ?_
       refine awp_cond rfl (fun hc => ?_) (fun hc => ?_) <;> (try simp only [go_sem] at hc)
       repeat refine awp_seq ?_
       refine awp_reg (by kernel_rfl) fun K hK => ?_
       simp only [go_sem]
       (try simp (disch := omega) only [wrapI])
       repeat first | intro _ | refine ⟨(by omega), ?_⟩ | refine ⟨⟨by omega, by omega⟩, ?_⟩
       refine hK _ ?_
       clear hK K
       refine awp_sub (sub_keep [4]) ?_
       simp only [go_sem]
       refine awp_ret ?_
       simp only [go_sem]
       exact ⟨frzPL_r _ _ _, congrArg RowC.box (frzL_r _ _ _)⟩
   · have w1 : withinL 0 240 [n] = false := by simp [withinL]; omega
     rw [if_pos hn] at e0
     obtain ⟨eq1, eq2⟩ := eL 3 e0 (by decide)
     rw [e0, eq1, eq2]
     repeat refine awp_seq ?_
     refine awp_reg (by kernel_rfl) fun K hK => ?_
     simp only [go_sem]
     (try simp (disch := omega) only [wrapI])
     refine xcall_eq (within_ok 0 240 [n]) rfl (by simp only [go_sem, i64, ints, w1]) (by simp only [go_sem, i64, ints, w1]) (by first | exact .inl rfl | exact .inr rfl) ?_
     (try simp only [go_sem, w1])
     (try simp (disch := omega) only [wrapI])
     repeat first | intro _ | refine ⟨(by omega), ?_⟩ | refine ⟨⟨by omega, by omega⟩, ?_⟩
     refine hK _ ?_
     clear hK K
     refine awp_sub (sub_keep [0, 3, 5, 26]) ?_
     simp only [go_sem]
     repeat refine awp_seq ?_
     refine awp_cond rfl (fun hc => ?_) (fun hc => ?_) <;> (try simp only [go_sem] at hc)
     repeat refine awp_seq ?_
     refine awp_reg (by kernel_rfl) fun K hK => ?_
     simp only [go_sem]
     (try simp (disch := omega) only [wrapI])
     repeat first | intro _ | refine ⟨(by omega), ?_⟩ | refine ⟨⟨by omega, by omega⟩, ?_⟩
     refine hK _ ?_
     clear hK K
     refine awp_sub (sub_keep [4]) ?_
     simp only [go_sem]
     refine awp_ret ?_
     simp only [go_sem]
     exact ⟨frzPL_r _ _ _, congrArg RowC.box (frzL_r _ _ _)⟩
 · have hl0 : ((ds.length : Int) != 0) = true := by
    have : ds.length ≠ 0 := fun e => hds (List.eq_nil_of_length_eq_zero e)
    simpa using hds
   have eL : ∀ e, visitE beds ds n = e → e ≠ 0 → leV beds le ds n = le ∧ moV beds mo ds n = mo := fun e h1 h2 => by
    unfold leV moV
    rw [if_neg (by rw [h1]; exact h2), if_neg (by rw [h1]; exact h2)]
    exact ⟨rfl, rfl⟩
   have hq0 : ((ds.length : Int) == 0) = false := by simpa using hds
   by_cases h3 : ds.length = 3
   · have c3 : ((ds.length : Int) != 3) = false := by simp [h3]
     by_cases hn0 : n = 0
     · subst hn0
       have e0 : visitE beds ds 0 = if (truthsK beds ds).isEmpty then 9 else 0 := by simp [visitE, truthsV, h3, hds]
       have w1 : withinL 0 240 [0] = true := by decide
       repeat refine awp_seq ?_
       refine awp_reg (by kernel_rfl) fun K hK => ?_
       simp only [go_sem, hl0, c3, bne_self_eq_false]
       (try simp (disch := omega) only [wrapI])
       intros
       repeat first | intro _ | refine ⟨(by omega), ?_⟩ | refine ⟨⟨by omega, by omega⟩, ?_⟩
       refine hK _ ?_
       clear hK K
       refine awp_sub (sub_keep [0, 3, 5, 10]) ?_
       simp only [go_sem]
       repeat refine awp_seq ?_
       refine awp_cond rfl (fun hc => ?_) (fun hc => ?_) <;> (try simp only [go_sem] at hc)
       repeat refine awp_seq ?_
       refine awp_reg (by kernel_rfl) fun K hK => ?_
       simp only [go_sem]
       (try simp (disch := omega) only [wrapI])
       refine xcall_eq (within_ok 0 240 [0]) rfl (by simp only [go_sem, i64, ints, w1]) (by simp only [go_sem, i64, ints, w1]) (by first | exact .inl rfl | exact .inr rfl) ?_
       (try simp only [go_sem, w1])
       (try simp (disch := omega) only [wrapI])
       repeat first | intro _ | refine ⟨(by omega), ?_⟩ | refine ⟨⟨by omega, by omega⟩, ?_⟩
       refine hK _ ?_
       clear hK K
       refine awp_sub (sub_keep [0, 3, 5, 26]) ?_
       simp only [go_sem]
       repeat refine awp_seq ?_
       refine awp_cond rfl (fun hc => ?_) (fun hc => ?_) <;> (try simp only [go_sem] at hc)
       repeat refine awp_seq ?_
       refine awp_reg (by kernel_rfl) fun K hK => ?_
       simp only [go_sem, hq0]
       (try simp (disch := omega) only [wrapI])
       intros
       repeat first | intro _ | refine ⟨(by omega), ?_⟩ | refine ⟨⟨by omega, by omega⟩, ?_⟩
       refine hK _ ?_
       clear hK K
       refine awp_sub (sub_keep [0, 5, 32]) ?_
       simp only [go_sem]
       repeat refine awp_seq ?_
       refine awp_cond rfl (fun hc => ?_) (fun hc => ?_) <;> (try simp only [go_sem] at hc)
       refine awp_skip ?_
       try simp only [go_sem]
       have hmut := add_ok u beds le mo 92 [.rp [ints ds], .rp [.vl u]] [.rp [ints ds], .rp [.rp (sheetR beds le mo)]] (truthsK beds ds) hle hmo (truthsK_small h3) (by have h := known1_ok beds ds le mo hbl (by omega); rw [knownXs_eq] at h; exact h) cap_known
       repeat refine awp_seq ?_
       refine awp_reg (by kernel_rfl) fun K hK => ?_
       simp only [go_sem]
       (try simp (disch := omega) only [wrapI])
       refine xcall_mut (hmut) [(1000, 1000)] rfl (by simp only [go_sem, i64, ints, shA_lend, shA_back]) (by simp only [go_sem, i64, ints, shA_lend, shA_back]) (by rfl) (by rfl) ?_
       (try simp only [go_sem, shA_lend, shA_back])
       (try simp (disch := omega) only [wrapI])
       repeat first | intro _ | refine ⟨(by omega), ?_⟩ | refine ⟨⟨by omega, by omega⟩, ?_⟩
       refine hK _ ?_
       clear hK K
       try rw [shA_back]
       refine awp_sub (sub_keep [0, 44]) ?_
       simp only [go_sem]
       cases he : (truthsK beds ds).isEmpty
       · have e1 : visitE beds ds 0 = 0 := by rw [e0, he]; simp
         have eq1 : leV beds le ds 0 = addT le (accL (truthsK beds ds)).2.1 := by unfold leV truthsV; rw [if_pos e1, if_neg hds]
         have eq2 : moV beds mo ds 0 = addT mo (accL (truthsK beds ds)).2.2 := by unfold moV truthsV; rw [if_pos e1, if_neg hds]
         rw [e1, eq1, eq2]
         repeat refine awp_seq ?_
         refine awp_cond rfl (fun hc => ?_) (fun hc => ?_) <;> (try simp only [go_sem] at hc)
         refine awp_skip ?_
         try simp only [go_sem]
         repeat refine awp_seq ?_
         refine awp_reg (by kernel_rfl) fun K hK => ?_
         simp only [go_sem]
         (try simp (disch := omega) only [wrapI])
         repeat first | intro _ | refine ⟨(by omega), ?_⟩ | refine ⟨⟨by omega, by omega⟩, ?_⟩
         refine hK _ ?_
         clear hK K
         refine awp_sub (sub_keep [4]) ?_
         simp only [go_sem]
         refine awp_ret ?_
         simp only [go_sem]
         exact ⟨frzPL_r _ _ _, congrArg RowC.box (frzL_r _ _ _)⟩
       · have e1 : visitE beds ds 0 = 9 := by rw [e0, he]; simp
         obtain ⟨eq1, eq2⟩ := eL 9 e1 (by decide)
         have hnil : truthsK beds ds = [] := List.isEmpty_iff.1 he
         rw [hnil, accL_nil, addT_zero le zeroT hle.1 (by decide), addT_zero mo zeroT hmo.1 (by decide), e1, eq1, eq2]
         repeat refine awp_seq ?_
         refine awp_cond rfl (fun hc => ?_) (fun hc => ?_) <;> (try simp only [go_sem] at hc)
         repeat refine awp_seq ?_
         refine awp_reg (by kernel_rfl) fun K hK => ?_
         simp only [go_sem]
         (try simp (disch := omega) only [wrapI])
         repeat first | intro _ | refine ⟨(by omega), ?_⟩ | refine ⟨⟨by omega, by omega⟩, ?_⟩
         refine hK _ ?_
         clear hK K
         refine awp_sub (sub_keep [4]) ?_
         simp only [go_sem]
         refine awp_ret ?_
         simp only [go_sem]
         exact ⟨frzPL_r _ _ _, congrArg RowC.box (frzL_r _ _ _)⟩
     · have cn : (n != 0) = true := by simpa using hn0
       have e0 : visitE beds ds n = 4 := by simp [visitE, hds, hn0]
       obtain ⟨eq1, eq2⟩ := eL 4 e0 (by decide)
       rw [e0, eq1, eq2]
       repeat refine awp_seq ?_
       refine awp_reg (by kernel_rfl) fun K hK => ?_
       simp only [go_sem, hl0, c3, cn]
       (try simp (disch := omega) only [wrapI])
       intros
       repeat first | intro _ | refine ⟨(by omega), ?_⟩ | refine ⟨⟨by omega, by omega⟩, ?_⟩
       refine hK _ ?_
       clear hK K
       refine awp_sub (sub_keep [0, 3, 5, 10]) ?_
       simp only [go_sem]
       repeat refine awp_seq ?_
       refine awp_cond rfl (fun hc => ?_) (fun hc => ?_) <;> (try simp only [go_sem] at hc)
       repeat refine awp_seq ?_
       refine awp_reg (by kernel_rfl) fun K hK => ?_
       simp only [go_sem]
       (try simp (disch := omega) only [wrapI])
       repeat first | intro _ | refine ⟨(by omega), ?_⟩ | refine ⟨⟨by omega, by omega⟩, ?_⟩
       refine hK _ ?_
       clear hK K
       refine awp_sub (sub_keep [4]) ?_
       simp only [go_sem]
       refine awp_ret ?_
       simp only [go_sem]
       exact ⟨frzPL_r _ _ _, congrArg RowC.box (frzL_r _ _ _)⟩
   · have c3 : ((ds.length : Int) != 3) = true := by
      have : (ds.length : Int) ≠ 3 := by omega
      simpa using this
     have e0 : visitE beds ds n = 4 := by simp [visitE, hds, h3]
     obtain ⟨eq1, eq2⟩ := eL 4 e0 (by decide)
     rw [e0, eq1, eq2]
     repeat refine awp_seq ?_
     refine awp_reg (by kernel_rfl) fun K hK => ?_
     simp only [go_sem, hl0, c3]
     (try simp (disch := omega) only [wrapI])
     intros
     repeat first | intro _ | refine ⟨(by omega), ?_⟩ | refine ⟨⟨by omega, by omega⟩, ?_⟩
     refine hK _ ?_
     clear hK K
     refine awp_sub (sub_keep [0, 3, 5, 10]) ?_
     simp only [go_sem]
     repeat refine awp_seq ?_
     refine awp_cond rfl (fun hc => ?_) (fun hc => ?_) <;> (try simp only [go_sem] at hc)
     repeat refine awp_seq ?_
     refine awp_reg (by kernel_rfl) fun K hK => ?_
     simp only [go_sem]
     (try simp (disch := omega) only [wrapI])
     repeat first | intro _ | refine ⟨(by omega), ?_⟩ | refine ⟨⟨by omega, by omega⟩, ?_⟩
     refine hK _ ?_
     clear hK K
     refine awp_sub (sub_keep [4]) ?_
     simp only [go_sem]
     refine awp_ret ?_
     simp only [go_sem]
     exact ⟨frzPL_r _ _ _, congrArg RowC.box (frzL_r _ _ _)⟩
end Go.Proofs.Ytgkejinoaommeaa

namespace Go.Proofs.Ytgkejinoaommeaa
open Go Go.Oc
set_option linter.unusedSimpArgs false
set_option linter.unusedVariables false
set_option maxRecDepth 8000
set_option maxHeartbeats 1000000
structure Vi where
 ds : List Int
 n : Int
abbrev viC (v : Vi) : List RV := [ints v.ds, i64 v.n]
abbrev visR (l : List Vi) : RV := .sl 2 (l.map viC)
def runF (bs : List Int) : List Int → List Int → Nat → List Vi → List Int × List Int × Option (Nat × Int)
 | le, mo, _, [] => (le, mo, none)
 | le, mo, i, v :: l => if visitE bs v.ds v.n = 0 then runF bs (leV bs le v.ds v.n) (moV bs mo v.ds v.n) (i + 1) l else (le, mo, some (i, visitE bs v.ds v.n))
def bedAt (bs le mo : List Int) (i : Nat) : Bd := ⟨bs.getD i 0, le.getD i 0, mo.getD i 0⟩
def fitV (a : Am) (l : List Vi) : Am × Int × Int × Int :=
 if 10 < a.beds.length then (⟨0, []⟩, 0, 0, 5) else if (bedOk a.at_ && !a.beds.isEmpty && seqOk none a.beds) = false then (⟨0, []⟩, 0, 0, 2) else if l = [] then (⟨0, []⟩, 0, 0, 7) else if 1000 < l.length then (⟨0, []⟩, 0, 0, 5) else
 match runF (a.beds.map (·.b)) zeroT zeroT 0 l with
 | (_, _, some (i, e)) => (⟨0, []⟩, 0, i, e)
 | (le, mo, none) => (⟨a.at_, (List.range a.beds.length).map (bedAt (a.beds.map (·.b)) le mo)⟩, 3 * l.length, 0, 0)
theorem SmallT.mono {b c : Int} {t : List Int} (h : SmallT b t) (hc : b ≤ c) : SmallT c t := ⟨h.1, fun x hx => by have := h.2 x hx; omega⟩
theorem truthsV_small {bs ds : List Int} {n : Int} (h : visitE bs ds n = 0) : ∀ t ∈ truthsV bs ds n, SmallT 3 t := by
 unfold truthsV
 split
 · exact threeT_small
 · rename_i hds
   refine truthsK_small ?_
   unfold visitE at h
   split at h
   · cases h
   · rename_i h1
     have : ¬ (ds.length ≠ 3) := fun h2 => h1 ⟨hds, .inl h2⟩
     omega
theorem addT_small {b c : Int} {s t : List Int} (h1 : SmallT b s) (h2 : SmallT c t) : SmallT (b + c) (addT s t) := by
 refine ⟨by unfold addT; rw [List.length_zipWith, h1.1, h2.1]; rfl, fun x hx => ?_⟩
 obtain ⟨y, hy, z, hz, rfl⟩ := mem_zipW hx
 have := h1.2 y hy
 have := h2.2 z hz
 omega
theorem leV_small {b : Int} {bs le ds : List Int} {n : Int} (h : SmallT b le) : SmallT (b + 3) (leV bs le ds n) ∧ True := by
 refine ⟨?_, trivial⟩
 unfold leV
 split
 · rename_i h0
   exact addT_small h (accL_small (by omega) _ (truthsV_small h0)).1
 · exact h.mono (by omega)
theorem moV_small {b : Int} {bs mo ds : List Int} {n : Int} (h : SmallT b mo) : SmallT (b + 3) (moV bs mo ds n) := by
 unfold moV
 split
 · rename_i h0
   exact addT_small h (accL_small (by omega) _ (truthsV_small h0)).2
 · exact h.mono (by omega)
theorem bedOk_le {b : Int} (h : bedOk b = true) : 0 ≤ b ∧ b ≤ 499 := by
 simp only [bedOk, Bool.or_eq_true, Bool.and_eq_true, decide_eq_true_eq] at h
 omega
theorem seqOk_le : ∀ {l : List Bd} {p : Option Int}, seqOk p l = true → ∀ x ∈ l, 0 ≤ x.b ∧ x.b ≤ 499
 | [], _, _ => by simp
 | y :: l, p, h => by
   simp only [seqOk, Bool.and_eq_true, Bool.or_eq_true, decide_eq_true_eq] at h
   intro x hx
   rcases List.mem_cons.1 hx with rfl | hx
   · rcases h.1.1 with h1 | h1
     · omega
     · exact bedOk_le h1
   · exact seqOk_le h.2 x hx
theorem fit_ok (a : Am) (l : List Vi) (hw : WfA a) : ACalls Try.prog 28 [aimV a, visR l] (.tu [aimV (fitV a l).1, i64 (fitV a l).2.1, i64 (fitV a l).2.2.1, i64 (fitV a l).2.2.2]) := by
 refine acalls_st (rs := [aimV (fitV a l).1, i64 (fitV a l).2.1, i64 (fitV a l).2.2.1, i64 (fitV a l).2.2.2]) [.cell 4 36, .tmp 5, .tmp 6, .tmp 7] Try.func28 rfl (by kernel_rfl) Try.ntmps28 rfl (by simp) rfl fun C vs => ?_
 repeat refine awp_seq ?_
 refine awp_reg (by kernel_rfl) fun K hK => ?_
 simp only [go_sem]
 (try simp (disch := omega) only [wrapI])
 repeat first | intro _ | refine ⟨(by omega), ?_⟩ | refine ⟨⟨by omega, by omega⟩, ?_⟩
 refine hK _ ?_
 clear hK K
 refine awp_sub (sub_frzP 2 2 (aimR a) (by omega) rfl rfl) ?_
 refine awp_sub (sub_keep [1, 2, 4]) ?_
 simp only [go_sem]
 repeat refine awp_seq ?_
 refine awp_reg (by kernel_rfl) fun K hK => ?_
 simp only [go_sem, aimR]
 (try simp (disch := omega) only [wrapI])
 repeat first | intro _ | refine ⟨(by omega), ?_⟩ | refine ⟨⟨by omega, by omega⟩, ?_⟩
 refine hK _ ?_
 clear hK K
 refine awp_sub (sub_frzP 8 8 [i64 a.at_, bedsR a.beds, i64 0] (by omega) rfl rfl) ?_
 refine awp_sub (sub_keep [1, 2, 4, 8]) ?_
 simp only [go_sem]
 repeat refine awp_seq ?_
 refine awp_block ?_
 by_cases h1 : 10 < a.beds.length
 · have c1 : decide ((10 : Int) < (a.beds.length : Int)) = true := by simp; omega
   have hv : fitV a l = (⟨0, []⟩, 0, 0, 5) := by rw [fitV, if_pos h1]
   rw [hv]
   repeat refine awp_seq ?_
   refine awp_reg (by kernel_rfl) fun K hK => ?_
   simp only [go_sem, c1, aimR]
   (try simp (disch := omega) only [wrapI])
   intros
   repeat first | intro _ | refine ⟨(by omega), ?_⟩ | refine ⟨⟨by omega, by omega⟩, ?_⟩
   refine hK _ ?_
   clear hK K
   refine awp_sub (sub_keep [1, 2, 4, 8, 19]) ?_
   simp only [go_sem]
   repeat refine awp_seq ?_
   refine awp_cond rfl (fun hc => ?_) (fun hc => ?_) <;> (try simp only [go_sem] at hc)
   repeat refine awp_seq ?_
   refine awp_reg (by kernel_rfl) fun K hK => ?_
   simp only [go_sem]
   (try simp (disch := omega) only [wrapI])
   repeat first | intro _ | refine ⟨(by omega), ?_⟩ | refine ⟨⟨by omega, by omega⟩, ?_⟩
   refine hK _ ?_
   clear hK K
   refine awp_sub (sub_keep [4, 5, 6, 7]) ?_
   simp only [go_sem]
   refine awp_ret ?_
   simp only [go_sem]
 have c1 : decide ((10 : Int) < (a.beds.length : Int)) = false := by simp; omega
 repeat refine awp_seq ?_
 refine awp_reg (by kernel_rfl) fun K hK => ?_
 simp only [go_sem, c1, aimR]
 (try simp (disch := omega) only [wrapI])
 intros
 repeat first | intro _ | refine ⟨(by omega), ?_⟩ | refine ⟨⟨by omega, by omega⟩, ?_⟩
 refine hK _ ?_
 clear hK K
 refine awp_sub (sub_keep [1, 2, 4, 8, 19]) ?_
 simp only [go_sem]
 repeat refine awp_seq ?_
 refine awp_cond rfl (fun hc => ?_) (fun hc => ?_) <;> (try simp only [go_sem] at hc)
 repeat refine awp_seq ?_
 refine awp_reg (by kernel_rfl) fun K hK => ?_
 simp only [go_sem]
 (try simp (disch := omega) only [wrapI])
 refine xcall_eq (areBeds_ok a.at_ a.beds 0 hw.1 hw.2) rfl (by simp only [go_sem, i64, ints]) (by simp only [go_sem, i64, ints]) (by first | exact .inl rfl | exact .inr rfl) ?_
 (try simp only [go_sem])
 (try simp (disch := omega) only [wrapI])
 repeat first | intro _ | refine ⟨(by omega), ?_⟩ | refine ⟨⟨by omega, by omega⟩, ?_⟩
 refine hK _ ?_
 clear hK K
 refine awp_sub (sub_keep [1, 2, 4, 25]) ?_
 simp only [go_sem]
 cases h2 : (bedOk a.at_ && !a.beds.isEmpty && seqOk none a.beds)
 · have hv : fitV a l = (⟨0, []⟩, 0, 0, 2) := by rw [fitV, if_neg h1, if_pos h2]
   rw [hv]
   repeat refine awp_seq ?_
   refine awp_cond rfl (fun hc => ?_) (fun hc => ?_) <;> (try simp only [go_sem] at hc)
   repeat refine awp_seq ?_
   refine awp_reg (by kernel_rfl) fun K hK => ?_
   simp only [go_sem]
   (try simp (disch := omega) only [wrapI])
   repeat first | intro _ | refine ⟨(by omega), ?_⟩ | refine ⟨⟨by omega, by omega⟩, ?_⟩
   refine hK _ ?_
   clear hK K
   refine awp_sub (sub_keep [4, 5, 6, 7]) ?_
   simp only [go_sem]
   refine awp_ret ?_
   simp only [go_sem]
 repeat refine awp_seq ?_
 refine awp_cond rfl (fun hc => ?_) (fun hc => ?_) <;> (try simp only [go_sem] at hc)
 by_cases h3 : l = []
 · have c3 : ((l.length : Int) == 0) = true := by simp [h3]
   have hv : fitV a l = (⟨0, []⟩, 0, 0, 7) := by rw [fitV, if_neg h1, if_neg (by rw [h2]; decide), if_pos h3]
   rw [hv]
   repeat refine awp_seq ?_
   refine awp_reg (by kernel_rfl) fun K hK => ?_
   simp only [go_sem, c3]
   (try simp (disch := omega) only [wrapI])
   intros
   repeat first | intro _ | refine ⟨(by omega), ?_⟩ | refine ⟨⟨by omega, by omega⟩, ?_⟩
   refine hK _ ?_
   clear hK K
   refine awp_sub (sub_keep [1, 2, 4, 30]) ?_
   simp only [go_sem]
   repeat refine awp_seq ?_
   refine awp_cond rfl (fun hc => ?_) (fun hc => ?_) <;> (try simp only [go_sem] at hc)
   repeat refine awp_seq ?_
   refine awp_reg (by kernel_rfl) fun K hK => ?_
   simp only [go_sem]
   (try simp (disch := omega) only [wrapI])
   repeat first | intro _ | refine ⟨(by omega), ?_⟩ | refine ⟨⟨by omega, by omega⟩, ?_⟩
   refine hK _ ?_
   clear hK K
   refine awp_sub (sub_keep [4, 5, 6, 7]) ?_
   simp only [go_sem]
   refine awp_ret ?_
   simp only [go_sem]
 have c3 : ((l.length : Int) == 0) = false := by simpa using h3
 repeat refine awp_seq ?_
 refine awp_reg (by kernel_rfl) fun K hK => ?_
 simp only [go_sem, c3]
 (try simp (disch := omega) only [wrapI])
 intros
 repeat first | intro _ | refine ⟨(by omega), ?_⟩ | refine ⟨⟨by omega, by omega⟩, ?_⟩
 refine hK _ ?_
 clear hK K
 refine awp_sub (sub_keep [1, 2, 4, 30]) ?_
 simp only [go_sem]
 repeat refine awp_seq ?_
 refine awp_cond rfl (fun hc => ?_) (fun hc => ?_) <;> (try simp only [go_sem] at hc)
 by_cases h4 : 1000 < l.length
 · have c4 : decide ((1000 : Int) < (l.length : Int)) = true := by simp; omega
   have hv : fitV a l = (⟨0, []⟩, 0, 0, 5) := by rw [fitV, if_neg h1, if_neg (by rw [h2]; decide), if_neg h3, if_pos h4]
   rw [hv]
   repeat refine awp_seq ?_
   refine awp_reg (by kernel_rfl) fun K hK => ?_
   simp only [go_sem, c4]
   (try simp (disch := omega) only [wrapI])
   intros
   repeat first | intro _ | refine ⟨(by omega), ?_⟩ | refine ⟨⟨by omega, by omega⟩, ?_⟩
   refine hK _ ?_
   clear hK K
   refine awp_sub (sub_keep [1, 2, 4, 35]) ?_
   simp only [go_sem]
   repeat refine awp_seq ?_
   refine awp_cond rfl (fun hc => ?_) (fun hc => ?_) <;> (try simp only [go_sem] at hc)
   repeat refine awp_seq ?_
   refine awp_reg (by kernel_rfl) fun K hK => ?_
   simp only [go_sem]
   (try simp (disch := omega) only [wrapI])
   repeat first | intro _ | refine ⟨(by omega), ?_⟩ | refine ⟨⟨by omega, by omega⟩, ?_⟩
   refine hK _ ?_
   clear hK K
   refine awp_sub (sub_keep [4, 5, 6, 7]) ?_
   simp only [go_sem]
   refine awp_ret ?_
   simp only [go_sem]
 have c4 : decide ((1000 : Int) < (l.length : Int)) = false := by simp; omega
 repeat refine awp_seq ?_
 refine awp_reg (by kernel_rfl) fun K hK => ?_
 simp only [go_sem, c4]
 (try simp (disch := omega) only [wrapI])
 intros
 repeat first | intro _ | refine ⟨(by omega), ?_⟩ | refine ⟨⟨by omega, by omega⟩, ?_⟩
 refine hK _ ?_
 clear hK K
 refine awp_sub (sub_keep [1, 2, 4, 35]) ?_
 simp only [go_sem]
 repeat refine awp_seq ?_
 refine awp_cond rfl (fun hc => ?_) (fun hc => ?_) <;> (try simp only [go_sem] at hc)
 refine awp_skip ?_
 try simp only [go_sem]
 have hV : fitV a l = match runF (a.beds.map (·.b)) zeroT zeroT 0 l with
  | (_, _, some (i, e)) => (⟨0, []⟩, 0, i, e)
  | (le, mo, none) => (⟨a.at_, (List.range a.beds.length).map (bedAt (a.beds.map (·.b)) le mo)⟩, 3 * l.length, 0, 0) := by
  rw [fitV, if_neg h1, if_neg (by rw [h2]; decide), if_neg h3, if_neg h4]
 have hseq : seqOk none a.beds = true := by
  simp only [Bool.and_eq_true] at h2
  exact h2.2
 have hle := seqOk_le hseq
 obtain ⟨bs, hbs⟩ : ∃ bs, bs = a.beds.map (·.b) := ⟨_, rfl⟩
 have hbl : bs.length = a.beds.length := by rw [hbs]; simp
 have hbo : BedsOk bs := ⟨by omega, fun b hb => by
  rw [hbs] at hb
  obtain ⟨x, hx, rfl⟩ := List.mem_map.1 hb
  exact hle x hx⟩
 rw [← hbs] at hV
 repeat refine awp_seq ?_
 refine awp_reg (by kernel_rfl) fun K hK => ?_
 simp only [go_sem]
 (try simp (disch := omega) only [wrapI])
 repeat first | intro _ | refine ⟨(by omega), ?_⟩ | refine ⟨⟨by omega, by omega⟩, ?_⟩
 refine hK _ ?_
 clear hK K
 refine awp_sub (sub_keep [1, 2, 4, 9]) ?_
 simp only [go_sem]
 repeat refine awp_seq ?_
 refine awp_reg (by kernel_rfl) fun K hK => ?_
 simp only [go_sem, aimR]
 (try simp (disch := omega) only [wrapI])
 intros
 repeat first | intro _ | refine ⟨(by omega), ?_⟩ | refine ⟨⟨by omega, by omega⟩, ?_⟩
 refine hK _ ?_
 clear hK K
 refine awp_sub (sub_keep [1, 2, 4, 9, 43, 44, 45]) ?_
 simp only [go_sem]
 repeat refine awp_seq ?_
 refine awp_block ?_
 refine awp_sub (sub_ownB 41 0 57 33 1 (by omega) (by omega) rfl rfl) ?_
 try simp only [go_sem]
 refine awp_uptoV (n := 115) a.beds.length (fun i vs => [(1, .r (visR l)), (2, .r (.rp [i64 a.at_, bedsR a.beds])), (4, .pt 4 (vs 4) 0), (9, .pt 41 (vs 41) 0), (43, .r (bedsR a.beds)), (44, .r (i64 a.beds.length)), (45, .r (i64 i))])
  (fun i vs => [(4, .box [.r (i64 0), .r .ns]), (41, .box (.os 57 (vs 57) 1 0 i :: (tA zeroT ++ tA zeroT))), (57, .arr 33 1 ((bs.take i).map fun x => [i64 x]))]) (fun _ => True) 0 (fitV_of [8] ?_ ?_) (Nat.zero_le _) trivial ?_
 · try simp only [go_sem]
 · try simp only [go_sem]
   try simp
 · intro i vs hi _
   repeat refine awp_seq ?_
   refine awp_reg (by kernel_rfl) fun K hK => ?_
   simp only [go_sem]
   (try simp (disch := omega) only [wrapI])
   repeat first | intro _ | refine ⟨(by omega), ?_⟩ | refine ⟨⟨by omega, by omega⟩, ?_⟩
   refine hK _ ?_
   clear hK K
   refine awp_sub (sub_keep [1, 2, 4, 9, 43, 44, 45, 46]) ?_
   simp only [go_sem]
   repeat refine awp_seq ?_
   refine awp_cond rfl (fun hc => ?_) (fun hc => ?_) <;> (try simp only [go_sem] at hc)
   · have hci := hc
     obtain ⟨x, hx⟩ := opt_of_lt hci
     have hbx : bs[i]? = some x.b := by rw [hbs, List.getElem?_map, hx]; rfl
     have htl : (bs.take i).length = i := by rw [List.length_take]; omega
     refine awp_skip ?_
     try simp only [go_sem]
     repeat refine awp_seq ?_
     refine awp_block ?_
     repeat refine awp_seq ?_
     refine awp_reg (by kernel_rfl) fun K hK => ?_
     simp only [go_sem, hx, hci, bedR]
     (try simp (disch := omega) only [wrapI])
     repeat first | intro _ | refine ⟨(by omega), ?_⟩ | refine ⟨⟨by omega, by omega⟩, ?_⟩
     refine hK _ ?_
     clear hK K
     refine awp_sub (sub_keep [1, 2, 4, 9, 11, 43, 44, 45]) ?_
     simp only [go_sem]
     repeat refine awp_seq ?_
     refine awp_dreg3 [(9, some 41), (11, some 11)] [41, 11] follows (by decide +kernel) (by kernel_rfl) (by simp only [keysOk, List.mem_cons, List.not_mem_nil, forall_eq_or_imp, Oc.keyOf, go_sem]; simp) (by intro k hk; simp only [List.mem_cons, List.not_mem_nil, or_false] at hk; first | (subst hk; exact ⟨_, rfl⟩) | (rcases hk with rfl | rfl <;> exact ⟨_, rfl⟩) | (rcases hk with rfl | rfl | rfl <;> exact ⟨_, rfl⟩)) fun K hK => ?_
     simp only [go_sem, htl, List.length_map]
     (try simp (disch := omega) only [wrapI])
     refine ⟨⟨by omega, by omega⟩, ?_⟩
     repeat first | intro _ | refine ⟨(by omega), ?_⟩ | refine ⟨⟨by omega, by omega⟩, ?_⟩
     refine hK _ ?_
     clear hK K
     refine awp_sub (sub_keep [1, 2, 4, 9, 43, 44, 45]) ?_
     simp only [go_sem]
     repeat refine awp_seq ?_
     refine awp_reg (by kernel_rfl) fun K hK => ?_
     simp only [go_sem]
     (try simp (disch := omega) only [wrapI])
     repeat first | intro _ | refine ⟨(by omega), ?_⟩ | refine ⟨⟨by omega, by omega⟩, ?_⟩
     refine hK _ ?_
     clear hK K
     try simp only [go_sem]
     refine ⟨hci, fitV_of [11] ?_ ?_⟩
     · try simp only [go_sem]
     · try simp only [go_sem]
       rw [take_of_opt hbx]
       simp
   · have hil : i = a.beds.length := by omega
     subst hil
     have etk : bs.take a.beds.length = bs := by rw [← hbl, List.take_length]
     have etl : List.take a.beds.length (bs.map fun x => [i64 x]) = bs.map fun x => [i64 x] := List.take_of_length_le (by rw [List.length_map]; omega)
     rw [etk]
     refine awp_exit ?_
     simp only [go_sem]
     refine awp_sub (sub_frzB 41 0 57 (by omega) (by omega) rfl rfl rfl (by rw [List.length_map]; omega)) ?_
     simp only [go_sem, List.drop_zero, etl, List.set_cons_zero]
     have esh : (AV.r (RV.sl 1 (bs.map fun x => [i64 x])) :: (tA zeroT ++ tA zeroT)) = shA bs zeroT zeroT := (shA_eq bs zeroT zeroT).symm
     rw [esh]
     refine awp_sub (sub_keep [1, 2, 4, 9]) ?_
     simp only [go_sem]
     repeat refine awp_seq ?_
     refine awp_reg (by kernel_rfl) fun K hK => ?_
     simp only [go_sem]
     (try simp (disch := omega) only [wrapI])
     intros
     repeat first | intro _ | refine ⟨(by omega), ?_⟩ | refine ⟨⟨by omega, by omega⟩, ?_⟩
     refine hK _ ?_
     clear hK K
     refine awp_sub (sub_keep [1, 2, 4, 9, 61, 62, 63]) ?_
     simp only [go_sem]
     repeat refine awp_seq ?_
     refine awp_block ?_
     refine awp_whileV (n := 115) (fun (y : Nat × List Int × List Int) vs => [(1, .r (visR l)), (2, .r (.rp [i64 a.at_, bedsR a.beds])), (4, .pt 4 (vs 4) 0), (9, .pt 41 (vs 41) 0), (61, .r (visR l)), (62, .r (i64 l.length)), (63, .r (i64 y.1))])
      (fun y vs => [(4, .box [.r (i64 0), .r .ns]), (41, .box (shA bs y.2.1 y.2.2))])
      (fun y => y.1 ≤ l.length ∧ SmallT (3 * (y.1 : Int)) y.2.1 ∧ SmallT (3 * (y.1 : Int)) y.2.2 ∧ runF bs zeroT zeroT 0 l = runF bs y.2.1 y.2.2 y.1 (l.drop y.1)) (fun y => l.length - y.1) (0, zeroT, zeroT) (fitV_of [] ?_ ?_) ⟨Nat.zero_le _, zeroT_small (by simp), zeroT_small (by simp), rfl⟩ ?_
     · try simp only [go_sem]
     · try simp only [go_sem]
     · rintro ⟨i, le, mo⟩ vs ⟨hi, hs1, hs2, hR⟩
       simp only at hi hs1 hs2 hR
       have hlel := hs1.1
       have hmol := hs2.1
       repeat refine awp_seq ?_
       refine awp_reg (by kernel_rfl) fun K hK => ?_
       simp only [go_sem]
       (try simp (disch := omega) only [wrapI])
       repeat first | intro _ | refine ⟨(by omega), ?_⟩ | refine ⟨⟨by omega, by omega⟩, ?_⟩
       refine hK _ ?_
       clear hK K
       refine awp_sub (sub_keep [1, 2, 4, 9, 61, 62, 63, 64]) ?_
       simp only [go_sem]
       repeat refine awp_seq ?_
       refine awp_cond rfl (fun hc => ?_) (fun hc => ?_) <;> (try simp only [go_sem] at hc)
       · have hci : i < l.length := by first | exact hc | omega
         obtain ⟨v, hx⟩ := opt_of_lt hci
         rw [drop_of_opt hx, runF] at hR
         refine awp_skip ?_
         try simp only [go_sem]
         repeat refine awp_seq ?_
         refine awp_block ?_
         repeat refine awp_seq ?_
         refine awp_reg (by kernel_rfl) fun K hK => ?_
         simp only [go_sem, hx, hci]
         (try simp (disch := omega) only [wrapI])
         repeat first | intro _ | refine ⟨(by omega), ?_⟩ | refine ⟨⟨by omega, by omega⟩, ?_⟩
         refine hK _ ?_
         clear hK K
         refine awp_sub (sub_keep [1, 2, 4, 9, 12, 13, 61, 62, 63]) ?_
         simp only [go_sem]
         repeat refine awp_seq ?_
         refine awp_reg (by kernel_rfl) fun K hK => ?_
         simp only [go_sem]
         (try simp (disch := omega) only [wrapI])
         refine xcall_mut (visit_ok bs le mo v.ds v.n hbo (hs1.mono (by omega)) (hs2.mono (by omega))) [(1000, 41)] rfl (by simp only [go_sem, i64, ints, shA_lend, shA_back]) (by simp only [go_sem, i64, ints, shA_lend, shA_back]) (by rfl) (by rfl) ?_
         (try simp only [go_sem, shA_lend, shA_back])
         (try simp (disch := omega) only [wrapI])
         repeat first | intro _ | refine ⟨(by omega), ?_⟩ | refine ⟨⟨by omega, by omega⟩, ?_⟩
         refine hK _ ?_
         clear hK K
         refine awp_sub (sub_keep [1, 2, 4, 9, 12, 14, 61, 62, 63]) ?_
         simp only [go_sem]
         by_cases hv0 : visitE bs v.ds v.n = 0
         · have c5 : (visitE bs v.ds v.n != 0) = false := by simp [hv0]
           rw [if_pos hv0] at hR
           repeat refine awp_seq ?_
           refine awp_reg (by kernel_rfl) fun K hK => ?_
           simp only [go_sem, c5]
           (try simp (disch := omega) only [wrapI])
           repeat first | intro _ | refine ⟨(by omega), ?_⟩ | refine ⟨⟨by omega, by omega⟩, ?_⟩
           refine hK _ ?_
           clear hK K
           refine awp_sub (sub_keep [1, 2, 4, 9, 12, 14, 61, 62, 63, 72]) ?_
           simp only [go_sem]
           repeat refine awp_seq ?_
           refine awp_cond rfl (fun hc => ?_) (fun hc => ?_) <;> (try simp only [go_sem] at hc)
           refine awp_skip ?_
           try simp only [go_sem]
           repeat refine awp_seq ?_
           refine awp_reg (by kernel_rfl) fun K hK => ?_
           simp only [go_sem]
           (try simp (disch := omega) only [wrapI])
           repeat first | intro _ | refine ⟨(by omega), ?_⟩ | refine ⟨⟨by omega, by omega⟩, ?_⟩
           refine hK _ ?_
           clear hK K
           try simp only [go_sem]
           refine ⟨(i + 1, leV bs le v.ds v.n, moV bs mo v.ds v.n), ⟨by omega, ?_, ?_, hR⟩, by simp only; omega, fitV_of [13] ?_ ?_⟩
           · have := (leV_small (bs := bs) (ds := v.ds) (n := v.n) hs1).1
             simpa [Int.mul_add] using this
           · have := moV_small (bs := bs) (ds := v.ds) (n := v.n) hs2
             simpa [Int.mul_add] using this
           · try simp only [go_sem]
           · try simp only [go_sem]
         · have c5 : (visitE bs v.ds v.n != 0) = true := by simpa using hv0
           rw [if_neg hv0] at hR
           have hv : fitV a l = (⟨0, []⟩, 0, (i : Int), visitE bs v.ds v.n) := by rw [hV, hR]
           rw [hv]
           repeat refine awp_seq ?_
           refine awp_reg (by kernel_rfl) fun K hK => ?_
           simp only [go_sem, c5]
           (try simp (disch := omega) only [wrapI])
           repeat first | intro _ | refine ⟨(by omega), ?_⟩ | refine ⟨⟨by omega, by omega⟩, ?_⟩
           refine hK _ ?_
           clear hK K
           refine awp_sub (sub_keep [1, 2, 4, 9, 12, 14, 61, 62, 63, 72]) ?_
           simp only [go_sem]
           repeat refine awp_seq ?_
           refine awp_cond rfl (fun hc => ?_) (fun hc => ?_) <;> (try simp only [go_sem] at hc)
           repeat refine awp_seq ?_
           refine awp_reg (by kernel_rfl) fun K hK => ?_
           simp only [go_sem]
           (try simp (disch := omega) only [wrapI])
           repeat first | intro _ | refine ⟨(by omega), ?_⟩ | refine ⟨⟨by omega, by omega⟩, ?_⟩
           refine hK _ ?_
           clear hK K
           refine awp_sub (sub_keep [4, 5, 6, 7]) ?_
           simp only [go_sem]
           refine awp_ret ?_
           simp only [go_sem]
       · have hil : i = l.length := by omega
         subst hil
         rw [List.drop_length, runF] at hR
         have hv : fitV a l = (⟨a.at_, (List.range a.beds.length).map (bedAt bs le mo)⟩, 3 * (l.length : Int), 0, 0) := by rw [hV, hR]
         rw [hv]
         have hll : l.length ≤ 1000 := by omega
         refine awp_exit ?_
         simp only [go_sem]
         refine awp_sub (sub_frzP 9 41 (sheetR bs le mo) (by omega) rfl rfl) ?_
         try simp only [go_sem]
         refine awp_sub (sub_keep [1, 2, 4, 9]) ?_
         simp only [go_sem]
         repeat refine awp_seq ?_
         refine awp_reg (by kernel_rfl) fun K hK => ?_
         simp only [go_sem]
         (try simp (disch := omega) only [wrapI])
         repeat first | intro _ | refine ⟨(by omega), ?_⟩ | refine ⟨⟨by omega, by omega⟩, ?_⟩
         refine hK _ ?_
         clear hK K
         refine awp_sub (sub_keep [1, 4, 9]) ?_
         simp only [go_sem]
         repeat refine awp_seq ?_
         refine awp_reg (by kernel_rfl) fun K hK => ?_
         simp only [go_sem, hbl]
         (try simp (disch := omega) only [wrapI])
         intros
         repeat first | intro _ | refine ⟨(by omega), ?_⟩ | refine ⟨⟨by omega, by omega⟩, ?_⟩
         refine hK _ ?_
         clear hK K
         refine awp_sub (sub_keep [1, 4, 9, 83, 84, 85]) ?_
         simp only [go_sem]
         repeat refine awp_seq ?_
         refine awp_block ?_
         refine awp_sub (sub_ownB 4 1 108 67 3 (by omega) (by omega) rfl rfl) ?_
         try simp only [go_sem]
         refine awp_uptoV (n := 115) a.beds.length (fun k vs => [(1, .r (visR l)), (4, .pt 4 (vs 4) 0), (9, .r (.rp (sheetR bs le mo))), (83, .r (ints bs)), (84, .r (i64 a.beds.length)), (85, .r (i64 k))])
          (fun k vs => [(4, .box [.r (i64 a.at_), .os 108 (vs 108) 3 0 k]), (108, .arr 67 3 (((List.range k).map (bedAt bs le mo)).map bedR))]) (fun _ => True) 0 (fitV_of [13] ?_ ?_) (Nat.zero_le _) trivial ?_
         · try simp only [go_sem]
         · try simp only [go_sem]
           try simp
         · intro k vs hk _
           repeat refine awp_seq ?_
           refine awp_reg (by kernel_rfl) fun K hK => ?_
           simp only [go_sem]
           (try simp (disch := omega) only [wrapI])
           repeat first | intro _ | refine ⟨(by omega), ?_⟩ | refine ⟨⟨by omega, by omega⟩, ?_⟩
           refine hK _ ?_
           clear hK K
           refine awp_sub (sub_keep [1, 4, 9, 83, 84, 85, 86]) ?_
           simp only [go_sem]
           repeat refine awp_seq ?_
           refine awp_cond rfl (fun hc => ?_) (fun hc => ?_) <;> (try simp only [go_sem] at hc)
           · have hck : k < a.beds.length := by first | exact hc | omega
             have hkb : k < bs.length := by omega
             obtain ⟨b, hbx⟩ := opt_of_lt hkb
             obtain ⟨x, hxl⟩ := opt_of_lt (l := le) (i := k) (by omega)
             obtain ⟨y, hyl⟩ := opt_of_lt (l := mo) (i := k) (by omega)
             have hat : bedAt bs le mo k = ⟨b, x, y⟩ := by simp [bedAt, List.getD_eq_getElem?_getD, hbx, hxl, hyl]
             have hrl : ((List.range k).map (bedAt bs le mo)).length = k := by simp
             have hk10 : (k : Int) < 10 := by omega
             have d1 : List.drop k (tR le ++ tR mo) = i64 x :: List.drop (k + 1) (tR le ++ tR mo) := drop_of_opt (by
              rw [List.getElem?_append_left (by simp; omega)]
              simp [hxl])
             have d0 : List.drop 10 (tR le ++ tR mo) = tR mo := by
              rw [List.drop_append_of_le_length (by simp; omega), List.drop_of_length_le (by simp; omega), List.nil_append]
             have d2 : List.drop k (tR mo) = i64 y :: List.drop (k + 1) (tR mo) := drop_of_opt (by simp [hyl])
             have hL20 : (tR le ++ tR mo).length = 20 := by simp; omega
             refine awp_skip ?_
             try simp only [go_sem]
             repeat refine awp_seq ?_
             refine awp_block ?_
             repeat refine awp_seq ?_
             refine awp_reg (by kernel_rfl) fun K hK => ?_
             simp only [go_sem, hbx, hkb]
             (try simp (disch := omega) only [wrapI])
             repeat first | intro _ | refine ⟨(by omega), ?_⟩ | refine ⟨⟨by omega, by omega⟩, ?_⟩
             refine hK _ ?_
             clear hK K
             refine awp_sub (sub_keep [1, 4, 9, 15, 16, 83, 84, 85]) ?_
             simp only [go_sem]
             repeat refine awp_seq ?_
             refine awp_dreg3 [(4, some 4), (9, none)] [4] follows (by decide +kernel) (by kernel_rfl) (by simp only [keysOk, List.mem_cons, List.not_mem_nil, forall_eq_or_imp, Oc.keyOf, go_sem]; simp) (by intro k hk; simp only [List.mem_cons, List.not_mem_nil, or_false] at hk; first | (subst hk; exact ⟨_, rfl⟩) | (rcases hk with rfl | rfl <;> exact ⟨_, rfl⟩) | (rcases hk with rfl | rfl | rfl <;> exact ⟨_, rfl⟩)) fun K hK => ?_
             simp only [go_sem, Nat.mul_one, hrl, List.length_map, d0, d1, d2, hL20, List.headD_cons, List.length_cons]
             (try simp (disch := omega) only [wrapI])
             refine ⟨by omega, by omega, ⟨by omega, by omega⟩, ?_⟩
             repeat first | intro _ | refine ⟨(by omega), ?_⟩ | refine ⟨⟨by omega, by omega⟩, ?_⟩
             refine hK _ ?_
             clear hK K
             refine awp_sub (sub_keep [1, 4, 9, 83, 84, 85]) ?_
             simp only [go_sem]
             repeat refine awp_seq ?_
             refine awp_reg (by kernel_rfl) fun K hK => ?_
             simp only [go_sem]
             (try simp (disch := omega) only [wrapI])
             repeat first | intro _ | refine ⟨(by omega), ?_⟩ | refine ⟨⟨by omega, by omega⟩, ?_⟩
             refine hK _ ?_
             clear hK K
             try simp only [go_sem]
             refine ⟨hck, fitV_of [] ?_ ?_⟩
             · try simp only [go_sem]
             · try simp only [go_sem]
               simp [List.range_succ, hat, bedR]
           · have hkl : k = a.beds.length := by omega
             subst hkl
             have etl2 : List.take a.beds.length (((List.range a.beds.length).map (bedAt bs le mo)).map bedR) = ((List.range a.beds.length).map (bedAt bs le mo)).map bedR := List.take_of_length_le (by simp)
             refine awp_exit ?_
             simp only [go_sem]
             refine awp_sub (sub_frzB 4 1 108 (by omega) (by omega) rfl rfl rfl (by simp)) ?_
             simp only [go_sem, List.drop_zero, etl2, List.set_cons_succ, List.set_cons_zero]
             refine awp_sub (sub_keep [1, 4]) ?_
             simp only [go_sem]
             repeat refine awp_seq ?_
             refine awp_reg (by kernel_rfl) fun K hK => ?_
             simp only [go_sem]
             (try simp (disch := omega) only [wrapI])
             intros
             repeat first | intro _ | refine ⟨(by omega), ?_⟩ | refine ⟨⟨by omega, by omega⟩, ?_⟩
             refine hK _ ?_
             clear hK K
             refine awp_sub (sub_keep [4, 5, 6, 7]) ?_
             simp only [go_sem]
             refine awp_ret ?_
             simp only [go_sem]
             done
end Go.Proofs.Ytgkejinoaommeaa
