/- Part 8 of the texts of this claim. -/
import Derived.Test.YtlbfkhikmigpbaaV37
namespace Go.Proofs.Ytlbfkhikmigpbaa
open Go Go.Oc
set_option linter.unusedSimpArgs false
set_option linter.unusedVariables false
set_option maxRecDepth 8000
structure RefH (r : Ru) : Prop where
 out : r.out = 0 ∨ r.out = 1 ∨ r.out = 2
 beds : ∀ a ∈ r.aims,∀ c ∈ a.beds,c.b = 0 ∨ 0 < scoreOf c.b
 hi : ∀ a ∈ r.aims,r.d ≤ hiS a.beds
theorem bedOk_pos {b : Int} (h : bedOk b = true) : 0 < scoreOf b:=by
 simp only [bedOk,Bool.or_eq_true,Bool.and_eq_true,decide_eq_true_eq] at h
 unfold scoreOf
 refine Int.mul_pos (by omega) (by omega)
theorem refH_of {r : Ru} (h : ruE r = 0) : RefH r:=by
 have h0:=h
 unfold ruE at h
 split at h
 · rename_i hc; exact absurd h hc
 · rename_i hc
   have hc : checkV r.d r.aims = 0:=by simpa using hc
   obtain ⟨_,_,o0,o2⟩:=ruG_of h0
   unfold checkV at hc
   split at hc
   · cases hc
   · split at hc
     · cases hc
     · split at hc
       · rename_i g3
         refine ⟨by omega,fun a ha c hc=>?_,fun a ha=>?_⟩
         · have ha1:=List.all_eq_true.1 g3 a ha
           simp only [aimOk,Bool.and_eq_true,decide_eq_true_eq] at ha1
           obtain ⟨⟨⟨⟨q1,q2⟩,q3⟩,q4⟩,q5⟩:=ha1
           rcases seq_beds q2 c hc with hb | hb
           · exact .inl hb
           · exact .inr (bedOk_pos hb)
         · have ha1:=List.all_eq_true.1 g3 a ha
           simp only [aimOk,Bool.and_eq_true,decide_eq_true_eq] at ha1
           exact ha1.2
       · cases hc
theorem hiS_chW (f : Int → Int) (l : List Bd) : hiS (chW f l) = hiS l:=by simp [hiS,chW,Function.comp_def]
structure Pos where
 round : Int
 start : Int
 left : Int
 darts : Int
abbrev posC (p : Pos) : List RV:=[i64 p.round,i64 p.start,i64 p.left,i64 p.darts]
abbrev posV (p : Pos) : RV:=.ag (posC p)
def oddsV (r : Ru) (most : Bool) (T : List (List Int)) (k st left d : Nat) : List Int:=meansV r most (nextV r most T k st (valV r most T k st d) (decide (d = 0)) left)
theorem one_ok (n : Int) : ACalls Try.prog 35 [i64 n] (spanV (n,n)):=by
 refine acalls_st (rs:=[spanV (n,n)]) [.cell 2 52] Try.func35 rfl (by kernel_rfl) Try.ntmps35 rfl (by simp) rfl fun C vs=>?_
 repeat refine zq ?_
 refine zb fun K hK=>?_;simp only [go_sem];(try simp (disch:=omega) only [zI]);repeat first | intro _ | refine ⟨by omega,?_⟩
 refine hK _ ?_;clear hK K;refine zw (zk [0,2]) ?_;simp only [go_sem]
 repeat refine zq ?_
 refine zb fun K hK=>?_;simp only [go_sem];(try simp (disch:=omega) only [zI]);repeat first | intro _ | refine ⟨by omega,?_⟩
 refine hK _ ?_;clear hK K;refine zw (zk [2]) ?_;simp only [go_sem];refine ze ?_;simp only [go_sem]
end Go.Proofs.Ytlbfkhikmigpbaa

namespace Go.Oc
open Go Go.RowKit
set_option linter.unusedVariables false
set_option linter.unusedSimpArgs false
def unl (listed : Array Bool) : Nat → Nat
 | 0=>0
 | m + 1=>unl listed m + if listed.getD m true then 0 else 1
theorem getD_setT {listed : Array Bool} {i j : Nat} : (listed.setIfInBounds i true).getD j true = if j = i then true else listed.getD j true:=by
 split
 · rename_i e
   subst e
   simp only [Array.getD_eq_getD_getElem?,Array.getElem?_setIfInBounds]
   split
   · split <;> simp_all
   · simp_all
 · rename_i e
   simp only [Array.getD_eq_getD_getElem?,Array.getElem?_setIfInBounds];rw [if_neg (fun h=>e h.symm)]
theorem unl_same {listed : Array Bool} {i : Nat} : ∀ m,m ≤ i → unl (listed.setIfInBounds i true) m = unl listed m
 | 0,_=>rfl
 | m + 1, h => by
   have e2 : m ≠ i:=by omega
   have e3:=unl_same (listed:=listed) (i:=i) m (by omega)
   simp only [unl,getD_setT,e3,if_neg e2]
theorem unl_set {listed : Array Bool} {i : Nat} (hi : listed.getD i true = false) : ∀ m,i < m → unl (listed.setIfInBounds i true) m + 1 = unl listed m
 | 0,h=>by omega
 | m + 1, h => by
   simp only [unl,getD_setT]
   by_cases e : i = m
   · subst e
     rw [unl_same _ (Nat.le_refl _)]
     simp [hi]
   · have:=unl_set hi m (by omega)
     have e2 : m ≠ i:=fun h=>e h.symm
     rw [if_neg e2]
     omega
theorem unl_zero {listed : Array Bool} : ∀ m,unl listed m = 0 → ∀ j,j < m → listed.getD j true = true
 | 0,_,j,h=>by omega
 | m + 1, h, j, hj => by
   simp only [unl] at h
   by_cases e : j = m
   · subst e
     by_cases hx : listed.getD j true = true
     · exact hx
     · simp [hx] at h
   · exact unl_zero m (by omega) j (by omega)
def stepAll (P : Program) (ops : Array Oper) (n : Nat) (F : (Nat → Bool) → (Nat → Nat) → List (Nat × AV)) (R : (Nat → Bool) → (Nat → Nat) → List (Nat × RowC)) : Nat → List Oper → Prop
 | _,[]=>True
 | k,o :: rest=>(∀ b vs,(∀ j e,j < ops.size → (deps ops j).contains e = true → b j = true → b e = true) → b k = false → (∀ e ∈ deps ops k,b e = true) →
  xop P false o (FitV n (F (upd b k true)) (R (upd b k true))) (st n (F b vs) vs (R b vs))) ∧ stepAll P ops n F R (k + 1) rest
theorem stepAll_get {P : Program} {ops : Array Oper} {n : Nat} {F : (Nat → Bool) → (Nat → Nat) → List (Nat × AV)} {R : (Nat → Bool) → (Nat → Nat) → List (Nat × RowC)} : ∀ {l : List Oper} {k i : Nat} {o : Oper},stepAll P ops n F R k l → l[i]? = some o →
 ∀ b vs, (∀ j e, j < ops.size → (deps ops j).contains e = true → b j = true → b e = true) → b (k + i) = false → (∀ e ∈ deps ops (k + i), b e = true) →
   xop P false o (FitV n (F (upd b (k + i) true)) (R (upd b (k + i) true))) (st n (F b vs) vs (R b vs))
 | [],_,_,_,_,h=>by simp at h
 | x :: l, k, 0, o, hs, h => by
   simp only [List.getElem?_cons_zero,Option.some.injEq] at h
   subst h
   exact hs.1
 | x :: l, k, i + 1, o, hs, h => by
   have:=stepAll_get (k:=k + 1) (i:=i) hs.2 (by simpa using h)
   rwa [show k + 1 + i = k + (i + 1) by omega] at this
def upOk (ops : Array Oper) : Bool:=(List.range ops.size).all fun j=>(deps ops j).all fun e=>decide (e < j)
section
variable {P : Program} {C : Ctx} {s : AS} {a : Act} {w : World} {ops : Array Oper}
theorem ready_nil {listed : Array Bool} (hu : upOk ops = true) (h : Region.ready .any ops listed = []) (hsz : listed.size = ops.size) : ∀ j,j < ops.size → listed.getD j true = true:=by
 intro j
 induction j using Nat.strongRecOn with
 | _ j ih =>
   intro hj
   by_cases hx : listed.getD j true = true
   · exact hx
   · exfalso
     have ho : ops[j]? = some ops[j]:=Array.getElem?_eq_getElem hj
     have hr : j ∈ Region.ready .any ops listed:=by
      refine mem_ready.2 ⟨by simpa using hx,ops[j],ho,fun e he hb=>?_⟩
      have hm : e.on ∈ deps ops j:=by unfold deps; rw [ho]; exact List.mem_map.2 ⟨e,List.mem_filter.2 ⟨by simpa using he,hb⟩,rfl⟩
      have hlt:=List.all_eq_true.1 (List.all_eq_true.1 hu j (by simpa using hj)) e.on hm
      simp only [decide_eq_true_eq] at hlt
      have:=ih e.on hlt (by omega)
      have h2 : e.on < listed.size:=by omega
      simpa [h2] using this
     rw [h] at hr
     cases hr
theorem inv_any {Q : AS → Prop} {Q' : Exit → Act → World → Prop} (hQ : ∀ s a w,Q s → SRel C s a w → Q' .normal a w) {n : Nat} {F : (Nat → Bool) → (Nat → Nat) → List (Nat × AV)} {R : (Nat → Bool) → (Nat → Nat) → List (Nat × RowC)}
 (hd : dstOk ops n = true) (hg : ops.all (fun o=>o.guard.isNone) = true) (hu : upOk ops = true) (hstep : stepAll P ops n F R 0 ops.toList)
 (hend : ∀ b vs,(∀ j,b j = true) → Q (st n (F b vs) vs (R b vs))) :
 ∀ (fuel : Nat) (vs : Nat → Nat) (listed : Array Bool) (a : Act) (w : World), listed.size = ops.size → down ops listed → unl listed ops.size ≤ fuel → SRel C (st n (F (fun j => listed.getD j true) vs) vs (R (fun j => listed.getD j true) vs)) a w →
   wpAnyIn (fnc C.rd) 0 P .any ops Q' fuel listed a w:=by
 have all : ∀ {listed : Array Bool},listed.size = ops.size → (∀ j,j < ops.size → listed.getD j true = true) → ∀ j,(fun j=>listed.getD j true) j = true:=fun {listed} hsz h j=>by
  by_cases hj : j < ops.size
  · exact h j hj
  · show listed.getD j true = true
    have : ¬ j < listed.size:=by omega
    simp [this]
 intro fuel
 induction fuel with
 | zero =>
   intro vs listed a w hsz hdn hf hs
   have h0:=unl_zero (listed:=listed) ops.size (by omega)
   refine ⟨List.eq_nil_iff_forall_not_mem.2 fun j hj=>?_,hQ _ _ _ (hend _ _ (all hsz h0)) hs⟩
   obtain ⟨h1,o,ho,_⟩:=mem_ready.1 hj
   have:=h0 j (Array.getElem?_eq_some_iff.1 ho).1
   rw [this] at h1
   cases h1
 | succ fuel ih =>
   intro vs listed a w hsz hdn hf hs
   refine ⟨fun h0=>hQ _ _ _ (hend _ _ (all hsz (ready_nil hu h0 hsz))) hs,fun i hi=>?_⟩
   obtain ⟨hi1,o,ho,hall⟩:=mem_ready.1 hi
   unfold wpOpIn
   rw [ho]
   simp only
   have hil : i < ops.size:=(Array.getElem?_eq_some_iff.1 ho).1
   have hgo : o.guard = none:=by
    have:=Array.all_eq_true_iff_forall_mem.1 hg o (Array.mem_of_getElem? ho)
    simpa using this
   obtain ⟨p,hp⟩:=hs
   rw [if_pos (wantA_sound hp (by simp [wantA,hgo]))]
   have hx:=stepAll_get (k:=0) (i:=i) hstep (by rw [Array.getElem?_toList]; exact ho) (fun j=>listed.getD j true) vs (fun j e hj he hb=>?_) (by rw [Nat.zero_add]; exact hi1) (fun e he=>?_)
   · rw [Nat.zero_add] at hx
     refine xop_sound hp hx (dstOk_get hd ho) (fun a' w' p' s' hs' hn hK=>?_) (dstOk_nd hd ho)
     obtain ⟨vs',hsub⟩:=hK
     have e : upd (fun j=>listed.getD j true) i true = fun j=>(listed.setIfInBounds i true).getD j true:=by
      funext j
      rw [getD_setT]
      rfl
     rw [e] at hsub
     exact ih vs' _ a' w' (by simpa using hsz) (down_set hdn hi) (by have:=unl_set hi1 ops.size hil; omega) (hsub C a' w' ⟨p',hs'⟩)
   · have hjs : j < listed.size:=by omega
     have hb' : listed.getD j true = true:=hb
     have h2:=hdn j (by simpa [hjs] using hb') e (by simpa using he)
     show listed.getD e true = true
     by_cases hes : e < listed.size
     · simpa [hes] using h2
     · simp [hes]
   · have h2:=ready_deps hi e (by simpa using he)
     show listed.getD e true = true
     by_cases hes : e < listed.size
     · simpa [hes] using h2
     · simp [hes]
end
theorem awp_inv {P : Program} {C : Ctx} {id : Nat} {l : List Oper} {n : Nat} {Q : Exit → AS → Prop} {s : AS} (F : (Nat → Bool) → (Nat → Nat) → List (Nat × AV)) (R : (Nat → Bool) → (Nat → Nat) → List (Nat × RowC)) (hm : P.follows .mixedOrders = true)
 (hd : dstOk l.toArray n = true) (hg : l.toArray.all (fun o=>o.guard.isNone) = true) (hu : upOk l.toArray = true) (h0 : FitV n (F fun j=>decide (l.length ≤ j)) (R fun j=>decide (l.length ≤ j)) s)
 (hstep : stepAll P l.toArray n F R 0 l) (hend : ∀ b vs,(∀ j,b j = true) → Q .normal (st n (F b vs) vs (R b vs))) : awp P C (.region id l.toArray true) Q s:=fun a w hs=>by
 obtain ⟨vs,hsub⟩:=h0
 obtain ⟨p,hp⟩:=hsub C a w hs
 have hs' : SR C p _ a { w with drawn:=w.drawn + 1 }:=hp.below (w':=w.drew) ((Below.refl _ _).drew) (fun _ h=>h) (fun _ h=>.inl h) hp.rb
 refine wpIn_region_any hm ?_
 have e : (fun j=>(Array.replicate l.toArray.size false).getD j true) = fun j=>decide (l.length ≤ j):=by
  funext j
  by_cases h : j < l.length
  · have : ¬ l.length ≤ j:=by omega
    simp [h,this]
  · have : l.length ≤ j:=by omega
    simp [h,this]
 refine inv_any (Q:=fun s=>Q .normal s) (n:=n) (F:=F) (R:=R) (fun s a w hq hs=>⟨s,hs,hq⟩) hd hg hu (by simpa using hstep) hend _ vs _ _ _ (by simp) (fun j hj=>?_) ?_ ?_
 · exfalso
   simp only [Array.getD_eq_getD_getElem?,Array.getElem?_replicate] at hj
   split at hj <;> simp at hj
 · have : ∀ m,unl (Array.replicate l.toArray.size false) m ≤ m:=by
    intro m
    induction m with
    | zero=>exact Nat.le_refl _
    | succ m ih=>simp only [unl]; split <;> omega
   exact this _
 · rw [e]
   exact ⟨p,hs'⟩
def allB (b : Nat → Bool) (v : Bool) : List Nat → Prop
 | []=>True
 | e :: es=>b e = v ∧ allB b v es
def chU (ops : Array Oper) (n : Nat) : List Nat → List Nat → Bool
 | _,[]=>true
 | seen,e :: es=>((deps ops n).contains e || seen.any fun j=>decide (j < ops.size) && (deps ops j).contains e) && chU ops n (e :: seen) es
def chD (ops : Array Oper) (n : Nat) : List Nat → List Nat → Bool
 | _,[]=>true
 | seen,e :: es=>(decide (e < ops.size) && ((deps ops e).contains n || seen.any fun j=>(deps ops e).contains j)) && chD ops n (e :: seen) es
theorem upT0 {ops : Array Oper} {b : Nat → Bool} {n : Nat} (hdn : ∀ j e,j < ops.size → (deps ops j).contains e = true → b j = true → b e = true) (hde : ∀ e ∈ deps ops n,b e = true) : ∀ (es seen : List Nat),(∀ j ∈ seen,b j = true) → chU ops n seen es = true → allB b true es
 | [],_,_,_=>trivial
 | e :: es, seen, hs, h => by
   simp only [chU,Bool.and_eq_true,Bool.or_eq_true,List.any_eq_true,decide_eq_true_eq] at h
   have he : b e = true:=by
    rcases h.1 with h1 | ⟨j,hj,h1,h2⟩
    · exact hde e (by simpa using h1)
    · exact hdn j e h1 h2 (hs j hj)
   refine ⟨he,upT0 hdn hde es (e :: seen) (fun j hj=>?_) h.2⟩
   rcases List.mem_cons.1 hj with rfl | hj
   · exact he
   · exact hs j hj
theorem upT {ops : Array Oper} {b : Nat → Bool} {n : Nat} (hdn : ∀ j e,j < ops.size → (deps ops j).contains e = true → b j = true → b e = true) (hde : ∀ e ∈ deps ops n,b e = true) (es : List Nat) (h : chU ops n [] es = true) : allB b true es:=upT0 hdn hde es [] (by simp) h
theorem dnT0 {ops : Array Oper} {b : Nat → Bool} {n : Nat} (hdn : ∀ j e,j < ops.size → (deps ops j).contains e = true → b j = true → b e = true) (hbk : b n = false) : ∀ (es seen : List Nat),(∀ j ∈ seen,b j = false) → chD ops n seen es = true → allB b false es
 | [],_,_,_=>trivial
 | e :: es, seen, hs, h => by
   simp only [chD,Bool.and_eq_true,Bool.or_eq_true,List.any_eq_true,decide_eq_true_eq] at h
   have he : b e = false:=by
    cases hb : b e
    · rfl
    · rcases h.1.2 with h1 | ⟨j,hj,h2⟩
      · rw [hdn e n h.1.1 h1 hb] at hbk; cases hbk
      · have:=hs j hj
        rw [hdn e j h.1.1 h2 hb] at this; cases this
   refine ⟨he,dnT0 hdn hbk es (e :: seen) (fun j hj=>?_) h.2⟩
   rcases List.mem_cons.1 hj with rfl | hj
   · exact he
   · exact hs j hj
theorem dnT {ops : Array Oper} {b : Nat → Bool} {n : Nat} (hdn : ∀ j e,j < ops.size → (deps ops j).contains e = true → b j = true → b e = true) (hbk : b n = false) (es : List Nat) (h : chD ops n [] es = true) : allB b false es:=dnT0 hdn hbk es [] (by simp) h
end Go.Oc

namespace Go.Proofs.Ytlbfkhikmigpbaa
open Go Go.Oc
set_option linter.unusedSimpArgs false
set_option linter.unusedVariables false
set_option maxRecDepth 8000
set_option maxHeartbeats 2000000
def posOk (r : Ru) (p : Pos) : Bool:=inB p.round 0 ((r.ends.length : Int) - 1) && (inB p.start (lowestR r) r.start && (inB p.left (lowestR r) p.start && (inB p.darts 1 3 && (decide (p.darts < 3) || (p.left == p.start)))))
theorem within_in (a b n : Int) : withinL a b [n] = inB n a b:=by rw [within1L]; rfl
theorem isPosition_ok (r : Ru) (p : Pos) (hn : 1 ≤ r.ends.length) (hl : r.ends.length ≤ 1000) : ACalls Try.prog 47 [ruV r,posV p] (.bo (posOk r p)):=by
 have hla:=last_ok r hl
 have hlo:=dlowest_ok r
 have hlw : IntKind.i64.wrap ((r.ends.length : Int) - 1) = (r.ends.length : Int) - 1:=by rw [zI] <;> omega
 have w1:=dwithin_ok 0 ((r.ends.length : Int) - 1) [p.round]
 have w2:=dwithin_ok (lowestR r) r.start [p.start]
 have w3:=dwithin_ok (lowestR r) p.start [p.left]
 have w4:=dwithin_ok 1 3 [p.darts]
 rw [within_in] at w1 w2 w3 w4
 refine acalls_st (rs:=[.bo (posOk r p)]) [.tmp 4] Try.func47 rfl (by kernel_rfl) Try.ntmps47 rfl (by simp) rfl fun C vs=>?_
 repeat refine zq ?_
 refine zb fun K hK=>?_;simp only [go_sem];(try simp (disch:=omega) only [zI]);repeat first | intro _ | refine ⟨by omega,?_⟩
 refine hK _ ?_;clear hK K;refine zw (sub_frzP 2 2 (ruC r) (by omega) rfl rfl) ?_;refine zw (zk [2,3]) ?_;simp only [go_sem];refine zw (sub_frzP 3 3 (posC p) (by omega) rfl rfl) ?_;refine zw (zk [2,3]) ?_;simp only [go_sem]
 cases e1 : inB p.round 0 ((r.ends.length : Int) - 1)
 · rw [e1] at w1
   repeat refine zq ?_
   refine zg follows (by decide +kernel) (by kernel_rfl) fun K hK=>?_;simp only [go_sem,hlw];(try simp (disch:=omega) only [zI]);repeat first | intro _ | refine ⟨by omega,?_⟩
   refine zh (hla) rfl (by simp only [go_sem,i64,ints,hlw]) (by simp only [go_sem,i64,ints,hlw]) (by first | exact .inl rfl | exact .inr rfl) ?_
   (try simp only [go_sem,hlw]);(try simp (disch:=omega) only [zI]);repeat first | intro _ | refine ⟨by omega,?_⟩
   refine zh (w1) rfl (by simp only [go_sem,i64,ints,hlw]) (by simp only [go_sem,i64,ints,hlw]) (by first | exact .inl rfl | exact .inr rfl) ?_
   (try simp only [go_sem,hlw]);(try simp (disch:=omega) only [zI]);repeat first | intro _ | refine ⟨by omega,?_⟩
   refine hK _ ?_;clear hK K;refine zw (zk [4]) ?_;simp only [go_sem];refine ze ?_;simp only [go_sem]
   simp [posOk,e1]
 rw [e1] at w1
 cases e2 : inB p.start (lowestR r) r.start
 · rw [e2] at w2
   repeat refine zq ?_
   refine zg follows (by decide +kernel) (by kernel_rfl) fun K hK=>?_;simp only [go_sem,hlw];(try simp (disch:=omega) only [zI]);repeat first | intro _ | refine ⟨by omega,?_⟩
   refine zh (hla) rfl (by simp only [go_sem,i64,ints,hlw]) (by simp only [go_sem,i64,ints,hlw]) (by first | exact .inl rfl | exact .inr rfl) ?_
   (try simp only [go_sem,hlw]);(try simp (disch:=omega) only [zI]);repeat first | intro _ | refine ⟨by omega,?_⟩
   refine zh (w1) rfl (by simp only [go_sem,i64,ints,hlw]) (by simp only [go_sem,i64,ints,hlw]) (by first | exact .inl rfl | exact .inr rfl) ?_
   (try simp only [go_sem,hlw]);(try simp (disch:=omega) only [zI]);repeat first | intro _ | refine ⟨by omega,?_⟩
   refine zh (hlo) rfl (by simp only [go_sem,i64,ints,hlw]) (by simp only [go_sem,i64,ints,hlw]) (by first | exact .inl rfl | exact .inr rfl) ?_
   (try simp only [go_sem,hlw]);(try simp (disch:=omega) only [zI]);repeat first | intro _ | refine ⟨by omega,?_⟩
   refine zh (w2) rfl (by simp only [go_sem,i64,ints,hlw]) (by simp only [go_sem,i64,ints,hlw]) (by first | exact .inl rfl | exact .inr rfl) ?_
   (try simp only [go_sem,hlw]);(try simp (disch:=omega) only [zI]);repeat first | intro _ | refine ⟨by omega,?_⟩
   refine hK _ ?_;clear hK K;refine zw (zk [4]) ?_;simp only [go_sem];refine ze ?_;simp only [go_sem]
   simp [posOk,e1,e2]
 rw [e2] at w2
 cases e3 : inB p.left (lowestR r) p.start
 · rw [e3] at w3
   repeat refine zq ?_
   refine zg follows (by decide +kernel) (by kernel_rfl) fun K hK=>?_;simp only [go_sem,hlw];(try simp (disch:=omega) only [zI]);repeat first | intro _ | refine ⟨by omega,?_⟩
   refine zh (hla) rfl (by simp only [go_sem,i64,ints,hlw]) (by simp only [go_sem,i64,ints,hlw]) (by first | exact .inl rfl | exact .inr rfl) ?_
   (try simp only [go_sem,hlw]);(try simp (disch:=omega) only [zI]);repeat first | intro _ | refine ⟨by omega,?_⟩
   refine zh (w1) rfl (by simp only [go_sem,i64,ints,hlw]) (by simp only [go_sem,i64,ints,hlw]) (by first | exact .inl rfl | exact .inr rfl) ?_
   (try simp only [go_sem,hlw]);(try simp (disch:=omega) only [zI]);repeat first | intro _ | refine ⟨by omega,?_⟩
   refine zh (hlo) rfl (by simp only [go_sem,i64,ints,hlw]) (by simp only [go_sem,i64,ints,hlw]) (by first | exact .inl rfl | exact .inr rfl) ?_
   (try simp only [go_sem,hlw]);(try simp (disch:=omega) only [zI]);repeat first | intro _ | refine ⟨by omega,?_⟩
   refine zh (w2) rfl (by simp only [go_sem,i64,ints,hlw]) (by simp only [go_sem,i64,ints,hlw]) (by first | exact .inl rfl | exact .inr rfl) ?_
   (try simp only [go_sem,hlw]);(try simp (disch:=omega) only [zI]);repeat first | intro _ | refine ⟨by omega,?_⟩
   refine zh (hlo) rfl (by simp only [go_sem,i64,ints,hlw]) (by simp only [go_sem,i64,ints,hlw]) (by first | exact .inl rfl | exact .inr rfl) ?_
   (try simp only [go_sem,hlw]);(try simp (disch:=omega) only [zI]);repeat first | intro _ | refine ⟨by omega,?_⟩
   refine zh (w3) rfl (by simp only [go_sem,i64,ints,hlw]) (by simp only [go_sem,i64,ints,hlw]) (by first | exact .inl rfl | exact .inr rfl) ?_
   (try simp only [go_sem,hlw]);(try simp (disch:=omega) only [zI]);repeat first | intro _ | refine ⟨by omega,?_⟩
   refine hK _ ?_;clear hK K;refine zw (zk [4]) ?_;simp only [go_sem];refine ze ?_;simp only [go_sem]
   simp [posOk,e1,e2,e3]
 rw [e3] at w3
 cases e4 : inB p.darts 1 3
 · rw [e4] at w4
   repeat refine zq ?_
   refine zg follows (by decide +kernel) (by kernel_rfl) fun K hK=>?_;simp only [go_sem,hlw];(try simp (disch:=omega) only [zI]);repeat first | intro _ | refine ⟨by omega,?_⟩
   refine zh (hla) rfl (by simp only [go_sem,i64,ints,hlw]) (by simp only [go_sem,i64,ints,hlw]) (by first | exact .inl rfl | exact .inr rfl) ?_
   (try simp only [go_sem,hlw]);(try simp (disch:=omega) only [zI]);repeat first | intro _ | refine ⟨by omega,?_⟩
   refine zh (w1) rfl (by simp only [go_sem,i64,ints,hlw]) (by simp only [go_sem,i64,ints,hlw]) (by first | exact .inl rfl | exact .inr rfl) ?_
   (try simp only [go_sem,hlw]);(try simp (disch:=omega) only [zI]);repeat first | intro _ | refine ⟨by omega,?_⟩
   refine zh (hlo) rfl (by simp only [go_sem,i64,ints,hlw]) (by simp only [go_sem,i64,ints,hlw]) (by first | exact .inl rfl | exact .inr rfl) ?_
   (try simp only [go_sem,hlw]);(try simp (disch:=omega) only [zI]);repeat first | intro _ | refine ⟨by omega,?_⟩
   refine zh (w2) rfl (by simp only [go_sem,i64,ints,hlw]) (by simp only [go_sem,i64,ints,hlw]) (by first | exact .inl rfl | exact .inr rfl) ?_
   (try simp only [go_sem,hlw]);(try simp (disch:=omega) only [zI]);repeat first | intro _ | refine ⟨by omega,?_⟩
   refine zh (hlo) rfl (by simp only [go_sem,i64,ints,hlw]) (by simp only [go_sem,i64,ints,hlw]) (by first | exact .inl rfl | exact .inr rfl) ?_
   (try simp only [go_sem,hlw]);(try simp (disch:=omega) only [zI]);repeat first | intro _ | refine ⟨by omega,?_⟩
   refine zh (w3) rfl (by simp only [go_sem,i64,ints,hlw]) (by simp only [go_sem,i64,ints,hlw]) (by first | exact .inl rfl | exact .inr rfl) ?_
   (try simp only [go_sem,hlw]);(try simp (disch:=omega) only [zI]);repeat first | intro _ | refine ⟨by omega,?_⟩
   refine zh (w4) rfl (by simp only [go_sem,i64,ints,hlw]) (by simp only [go_sem,i64,ints,hlw]) (by first | exact .inl rfl | exact .inr rfl) ?_
   (try simp only [go_sem,hlw]);(try simp (disch:=omega) only [zI]);repeat first | intro _ | refine ⟨by omega,?_⟩
   refine hK _ ?_;clear hK K;refine zw (zk [4]) ?_;simp only [go_sem];refine ze ?_;simp only [go_sem]
   simp [posOk,e1,e2,e3,e4]
 rw [e4] at w4
 by_cases h5 : p.darts < 3
 · have d5 : decide (p.darts < 3) = true:=by simpa using h5
   repeat refine zq ?_
   refine zg follows (by decide +kernel) (by kernel_rfl) fun K hK=>?_;simp only [go_sem,hlw,d5];(try simp (disch:=omega) only [zI]);repeat first | intro _ | refine ⟨by omega,?_⟩
   refine zh (hla) rfl (by simp only [go_sem,i64,ints,hlw,d5]) (by simp only [go_sem,i64,ints,hlw,d5]) (by first | exact .inl rfl | exact .inr rfl) ?_
   (try simp only [go_sem,hlw,d5]);(try simp (disch:=omega) only [zI]);repeat first | intro _ | refine ⟨by omega,?_⟩
   refine zh (w1) rfl (by simp only [go_sem,i64,ints,hlw,d5]) (by simp only [go_sem,i64,ints,hlw,d5]) (by first | exact .inl rfl | exact .inr rfl) ?_
   (try simp only [go_sem,hlw,d5]);(try simp (disch:=omega) only [zI]);repeat first | intro _ | refine ⟨by omega,?_⟩
   refine zh (hlo) rfl (by simp only [go_sem,i64,ints,hlw,d5]) (by simp only [go_sem,i64,ints,hlw,d5]) (by first | exact .inl rfl | exact .inr rfl) ?_
   (try simp only [go_sem,hlw,d5]);(try simp (disch:=omega) only [zI]);repeat first | intro _ | refine ⟨by omega,?_⟩
   refine zh (w2) rfl (by simp only [go_sem,i64,ints,hlw,d5]) (by simp only [go_sem,i64,ints,hlw,d5]) (by first | exact .inl rfl | exact .inr rfl) ?_
   (try simp only [go_sem,hlw,d5]);(try simp (disch:=omega) only [zI]);repeat first | intro _ | refine ⟨by omega,?_⟩
   refine zh (hlo) rfl (by simp only [go_sem,i64,ints,hlw,d5]) (by simp only [go_sem,i64,ints,hlw,d5]) (by first | exact .inl rfl | exact .inr rfl) ?_
   (try simp only [go_sem,hlw,d5]);(try simp (disch:=omega) only [zI]);repeat first | intro _ | refine ⟨by omega,?_⟩
   refine zh (w3) rfl (by simp only [go_sem,i64,ints,hlw,d5]) (by simp only [go_sem,i64,ints,hlw,d5]) (by first | exact .inl rfl | exact .inr rfl) ?_
   (try simp only [go_sem,hlw,d5]);(try simp (disch:=omega) only [zI]);repeat first | intro _ | refine ⟨by omega,?_⟩
   refine zh (w4) rfl (by simp only [go_sem,i64,ints,hlw,d5]) (by simp only [go_sem,i64,ints,hlw,d5]) (by first | exact .inl rfl | exact .inr rfl) ?_
   (try simp only [go_sem,hlw,d5]);(try simp (disch:=omega) only [zI]);repeat first | intro _ | refine ⟨by omega,?_⟩
   refine hK _ ?_;clear hK K;refine zw (zk [4]) ?_;simp only [go_sem];refine ze ?_;simp only [go_sem]
   simp [posOk,e1,e2,e3,e4,h5]
 · have d5 : decide (p.darts < 3) = false:=by simpa using h5
   repeat refine zq ?_
   refine zg follows (by decide +kernel) (by kernel_rfl) fun K hK=>?_;simp only [go_sem,hlw,d5];(try simp (disch:=omega) only [zI]);repeat first | intro _ | refine ⟨by omega,?_⟩
   refine zh (hla) rfl (by simp only [go_sem,i64,ints,hlw,d5]) (by simp only [go_sem,i64,ints,hlw,d5]) (by first | exact .inl rfl | exact .inr rfl) ?_
   (try simp only [go_sem,hlw,d5]);(try simp (disch:=omega) only [zI]);repeat first | intro _ | refine ⟨by omega,?_⟩
   refine zh (w1) rfl (by simp only [go_sem,i64,ints,hlw,d5]) (by simp only [go_sem,i64,ints,hlw,d5]) (by first | exact .inl rfl | exact .inr rfl) ?_
   (try simp only [go_sem,hlw,d5]);(try simp (disch:=omega) only [zI]);repeat first | intro _ | refine ⟨by omega,?_⟩
   refine zh (hlo) rfl (by simp only [go_sem,i64,ints,hlw,d5]) (by simp only [go_sem,i64,ints,hlw,d5]) (by first | exact .inl rfl | exact .inr rfl) ?_
   (try simp only [go_sem,hlw,d5]);(try simp (disch:=omega) only [zI]);repeat first | intro _ | refine ⟨by omega,?_⟩
   refine zh (w2) rfl (by simp only [go_sem,i64,ints,hlw,d5]) (by simp only [go_sem,i64,ints,hlw,d5]) (by first | exact .inl rfl | exact .inr rfl) ?_
   (try simp only [go_sem,hlw,d5]);(try simp (disch:=omega) only [zI]);repeat first | intro _ | refine ⟨by omega,?_⟩
   refine zh (hlo) rfl (by simp only [go_sem,i64,ints,hlw,d5]) (by simp only [go_sem,i64,ints,hlw,d5]) (by first | exact .inl rfl | exact .inr rfl) ?_
   (try simp only [go_sem,hlw,d5]);(try simp (disch:=omega) only [zI]);repeat first | intro _ | refine ⟨by omega,?_⟩
   refine zh (w3) rfl (by simp only [go_sem,i64,ints,hlw,d5]) (by simp only [go_sem,i64,ints,hlw,d5]) (by first | exact .inl rfl | exact .inr rfl) ?_
   (try simp only [go_sem,hlw,d5]);(try simp (disch:=omega) only [zI]);repeat first | intro _ | refine ⟨by omega,?_⟩
   refine zh (w4) rfl (by simp only [go_sem,i64,ints,hlw,d5]) (by simp only [go_sem,i64,ints,hlw,d5]) (by first | exact .inl rfl | exact .inr rfl) ?_
   (try simp only [go_sem,hlw,d5]);(try simp (disch:=omega) only [zI]);repeat first | intro _ | refine ⟨by omega,?_⟩
   refine hK _ ?_;clear hK K;refine zw (zk [4]) ?_;simp only [go_sem];refine ze ?_;simp only [go_sem]
   simp [posOk,e1,e2,e3,e4,h5]
def bestS (l : List Sp) : Nat → Int
 | 0=>0
 | i + 1=>if (l.getD (bestS l i).toNat (0,0)).1 < (l.getD i (0,0)).1 then i else bestS l i
theorem bestS_lt (l : List Sp) : ∀ i,0 ≤ bestS l i ∧ (bestS l i < i ∨ bestS l i = 0)
 | 0=>by simp [bestS]
 | i + 1 => by
   have:=bestS_lt l i
   simp only [bestS]
   split <;> omega
theorem best_ok (l : List Sp) : ACalls Try.prog 50 [spansR l] (i64 (bestS l l.length)):=by
 refine acalls_st (rs:=[i64 (bestS l l.length)]) [.tmp 2] Try.func50 rfl (by kernel_rfl) Try.ntmps50 rfl (by simp) rfl fun C vs=>?_
 repeat refine zq ?_
 refine zb fun K hK=>?_;simp only [go_sem];(try simp (disch:=omega) only [zI]);repeat first | intro _ | refine ⟨by omega,?_⟩
 refine hK _ ?_;clear hK K;refine zw (zk [0,2]) ?_;simp only [go_sem]
 repeat refine zq ?_
 refine zb fun K hK=>?_;simp only [go_sem];(try simp (disch:=omega) only [zI])
 intro hl
 repeat first | intro _ | refine ⟨by omega,?_⟩
 refine hK _ ?_;clear hK K;refine zw (zk [0,2,5,6,7]) ?_;simp only [go_sem]
 repeat refine zq ?_
 refine zd ?_
 refine awp_upto (n:=23) l.length (fun i vs=>[(0,.r (spansR l)),(2,.r (i64 (bestS l i))),(5,.r (spansR l)),(6,.r (i64 l.length)),(7,.r (i64 i))])
  (fun i=>[]) (fun _=>True) 0 (fit_of [] ?_ ?_) (Nat.zero_le _) trivial ?_
 · try simp only [go_sem]
   rfl
 · try simp only [go_sem]
 · intro i vs hi _
   repeat refine zq ?_
   refine zb fun K hK=>?_;simp only [go_sem];(try simp (disch:=omega) only [zI]);repeat first | intro _ | refine ⟨by omega,?_⟩
   refine hK _ ?_;clear hK K;refine zw (zk [0,2,5,6,7,8]) ?_;simp only [go_sem]
   repeat refine zq ?_
   refine zc rfl (fun hc=>?_) (fun hc=>?_) <;> (try simp only [go_sem] at hc)
   · have hci : i < l.length:=by omega
     obtain ⟨x,hx⟩:=opt_of_lt hci
     obtain ⟨b,hb⟩ : ∃ b : Nat,bestS l i = (b : Int):=⟨(bestS l i).toNat,by have:=(bestS_lt l i).1; omega⟩
     have hbl : b < l.length:=by have:=(bestS_lt l i).2; omega
     obtain ⟨y,hy⟩:=opt_of_lt hbl
     have gx : l.getD i (0,0) = x:=by simp [List.getD,hx]
     have gy : l.getD b (0,0) = y:=by simp [List.getD,hy]
     have hB : bestS l (i + 1) = if y.1 < x.1 then (i : Int) else b:=by simp only [bestS,hb,Int.toNat_natCast,gx,gy]
     rw [hb]
     refine zx ?_
     try simp only [go_sem]
     repeat refine zq ?_
     refine zd ?_
     repeat refine zq ?_
     refine zb fun K hK=>?_;simp only [go_sem,hx,hci,spanR];(try simp (disch:=omega) only [zI]);repeat first | intro _ | refine ⟨by omega,?_⟩
     refine hK _ ?_;clear hK K;refine zw (sub_frzP 4 4 [i64 x.1,i64 x.2] (by omega) rfl rfl) ?_;refine zw (zk [0,2,3,4,5,6,7]) ?_;simp only [go_sem]
     by_cases hlt : y.1 < x.1
     · have d1 : decide (y.1 < x.1) = true:=by simpa using hlt
       repeat refine zq ?_
       refine zg follows (by decide +kernel) (by kernel_rfl) fun K hK=>?_;simp only [go_sem,hy,hbl,spanR,d1];(try simp (disch:=omega) only [zI]);repeat first | intro _ | refine ⟨by omega,?_⟩
       refine hK _ ?_;clear hK K;refine zw (zk [0,2,3,5,6,7,19]) ?_;simp only [go_sem]
       repeat refine zq ?_
       refine zc rfl (fun hc=>?_) (fun hc=>?_) <;> (try simp only [go_sem] at hc)
       repeat refine zq ?_
       refine zb fun K hK=>?_;simp only [go_sem];(try simp (disch:=omega) only [zI]);repeat first | intro _ | refine ⟨by omega,?_⟩
       refine hK _ ?_;clear hK K;refine zw (zk [0,2,5,6,7]) ?_;simp only [go_sem]
       repeat refine zq ?_
       refine zb fun K hK=>?_;simp only [go_sem];(try simp (disch:=omega) only [zI]);repeat first | intro _ | refine ⟨by omega,?_⟩
       refine hK _ ?_;clear hK K
       try simp only [go_sem]
       refine ⟨by omega,fit_of [] ?_ ?_⟩
       · try simp only [go_sem]
         rw [hB,if_pos hlt]
       · try simp only [go_sem]
     · have d1 : decide (y.1 < x.1) = false:=by simpa using hlt
       repeat refine zq ?_
       refine zg follows (by decide +kernel) (by kernel_rfl) fun K hK=>?_;simp only [go_sem,hy,hbl,spanR,d1];(try simp (disch:=omega) only [zI]);repeat first | intro _ | refine ⟨by omega,?_⟩
       refine hK _ ?_;clear hK K;refine zw (zk [0,2,3,5,6,7,19]) ?_;simp only [go_sem]
       repeat refine zq ?_
       refine zc rfl (fun hc=>?_) (fun hc=>?_) <;> (try simp only [go_sem] at hc)
       refine zx ?_
       try simp only [go_sem]
       repeat refine zq ?_
       refine zb fun K hK=>?_;simp only [go_sem];(try simp (disch:=omega) only [zI]);repeat first | intro _ | refine ⟨by omega,?_⟩
       refine hK _ ?_;clear hK K
       try simp only [go_sem]
       refine ⟨by omega,fit_of [] ?_ ?_⟩
       · try simp only [go_sem]
         rw [hB,if_neg hlt]
       · try simp only [go_sem]
   · have hil : i = l.length:=by omega
     subst hil
     refine zf ?_;simp only [go_sem]
     repeat refine zq ?_
     refine zb fun K hK=>?_;simp only [go_sem];(try simp (disch:=omega) only [zI]);repeat first | intro _ | refine ⟨by omega,?_⟩
     refine hK _ ?_;clear hK K;refine zw (zk [2]) ?_;simp only [go_sem];refine ze ?_;simp only [go_sem]
theorem fitV_sub {n : Nat} {F : (Nat → Nat) → List (Nat × AV)} {R : (Nat → Nat) → List (Nat × RowC)} {s s' : AS} (h : Sub s s') (hf : FitV n F R s') : FitV n F R s:=by
 obtain ⟨vs,hs⟩:=hf
 exact ⟨vs,fun C a w hw=>hs C a w (h C a w hw)⟩
abbrev pos (k s left d : Nat) : Pos:=⟨k,s,left,(d : Int) + 1⟩
def vB (b : Nat → Bool) (j : Nat) (v : AV) : AV:=if b j then v else .r .un
def odF (r : Ru) (T0 T1 : List (List Int)) (k s left d : Nat) (b : Nat → Bool) (vs : Nat → Nat) : List (Nat × AV) :=
 [(3,.r (.rp (posC (pos k s left d)))),(4,.r .ns),(6,.r (.rp [sideP r false T0,sideP r true T1])),(7,.r (.rp [i64 (left : Int),i64 ((d : Int) + 1)])),
  (34,vB b 0 (.r (.rp [sideP r false T0,sideP r true T1]))),
  (35,vB b 1 (.r (sideP r false T0))),
  (36,vB b 2 (.r (.rp (posC (pos k s left d))))),
  (37,vB b 3 (.r (i64 (k : Int)))),
  (38,vB b 4 (.r (.rp [i64 (s : Int),i64 (left : Int),i64 ((d : Int) + 1)]))),
  (39,vB b 5 (.r (i64 (s : Int)))),
  (40,vB b 6 (.pt 940 (vs 940) 0)),
  (41,vB b 7 (.r (.ag [i64 (left : Int),i64 ((d : Int) + 1)]))),
  (42,vB b 8 (.r (ints (oddsV r false T0 k s left d)))),
  (43,vB b 9 (.r (.rp [sideP r true T1]))),
  (44,vB b 10 (.r (sideP r true T1))),
  (45,vB b 11 (.r (.rp (posC (pos k s left d))))),
  (46,vB b 12 (.r (i64 (k : Int)))),
  (47,vB b 13 (.r (.rp [i64 (s : Int),i64 (left : Int),i64 ((d : Int) + 1)]))),
  (48,vB b 14 (.r (i64 (s : Int)))),
  (49,vB b 15 (.pt 942 (vs 942) 0)),
  (50,vB b 16 (.r (.ag [i64 (left : Int),i64 ((d : Int) + 1)]))),
  (51,vB b 17 (.r (ints (oddsV r true T1 k s left d)))),
  (8,vB b 18 (.r (ints (oddsV r false T0 k s left d)))),
  (9,vB b 19 (.r (ints (oddsV r true T1 k s left d))))]
def odR (r : Ru) (T0 T1 : List (List Int)) (k s left d : Nat) (b : Nat → Bool) (vs : Nat → Nat) : List (Nat × RowC) :=
 bif b 15 then [(940,.box (visC r false T0 (k : Int) (s : Int) 941 (vs 941))),(941,.mem (memoV r false T0 k s)),(942,.box (visC r true T1 (k : Int) (s : Int) 943 (vs 943))),(943,.mem (memoV r true T1 k s))]
 else bif b 6 then [(940,.box (visC r false T0 (k : Int) (s : Int) 941 (vs 941))),(941,.mem (memoV r false T0 k s))]
 else []
theorem dmeans_ok {r : Ru} (most : Bool) {T : List (List Int)} {k st : Nat} (h : VisG r T k st) (ha : AimsG r) (n left : Nat) (hn : n ≤ 99) (hl1 : 1 ≤ left) (hl : (left : Int) ≤ r.start) :
 MCalls Try.prog 49 (visL r most T k st) (visL r most T k st) [.pt 1000 0 0,.r (.ag [i64 (left : Int),i64 ((n : Int) + 1)])] (.r (ints (oddsV r most T k st left n))):=by
 have h40:=h.s40
 refine means_ok r most T k st n left _ (by omega) (by omega) ha.len (ha.ch fun b b0 b1=>nextV_le h hl b0 b1 fun _ x hx=>valV_le h ha n x hx) (fun a haM c hc=>((ha.beds a haM).2.2 c hc).1) fun b b0 b1=>?_
 refine next_ok r most T k st n left b h hl1 hl (by omega) b0 b1 fun hn0 left' h1 h2=>?_
 match n,hn0 with
 | m + 1,_=>exact vis_ok most h ha m left' (by omega) h1 h2
theorem dn {ops : Array Oper} {b : Nat → Bool} (h : ∀ j e,j < ops.size → (deps ops j).contains e = true → b j = true → b e = true) (j e : Nat) (h1 : j < ops.size) (h2 : (deps ops j).contains e = true) (he : b e = false) : b j = false:=by
 cases hb : b j
 · rfl
 · rw [h j e h1 h2 hb] at he; cases he
def oddsS (r : Ru) (k s left d : Nat) : List Sp:=(oddsV r false (tabF r false) k s left d).zip (oddsV r true (tabF r true) k s left d)
def oddsE (r : Ru) (p : Pos) : Int:=if ruE r = 0 then (if posOk r p = true then 0 else 2) else ruE r
def oddsR (r : Ru) (p : Pos) : RV:=if ruE r = 0 then (if posOk r p = true then spansR (oddsS r p.round.toNat p.start.toNat p.left.toNat (p.darts - 1).toNat) else .ns) else .ns
theorem posOk_nat {r : Ru} {p : Pos} (h : posOk r p = true) : ∃ k s left d : Nat,p = pos k s left d ∧ k < r.ends.length ∧ lowestR r ≤ s ∧ (s : Int) ≤ r.start ∧ lowestR r ≤ left ∧ left ≤ s ∧ d ≤ 2:=by
 have hlow : lowestR r = 1 ∨ lowestR r = 2:=by unfold lowestR; split <;> simp
 obtain ⟨a,b,c,e⟩:=p
 simp only [posOk,inB,Bool.and_eq_true,decide_eq_true_eq] at h
 obtain ⟨⟨h1,h2⟩,⟨h3,h4⟩,⟨h5,h6⟩,⟨h7,h8⟩,_⟩:=h
 refine ⟨a.toNat,b.toNat,c.toNat,(e - 1).toNat,?_,by omega,by omega,by omega,by omega,by omega,by omega⟩
 simp only [pos,Pos.mk.injEq]
 refine ⟨by omega,by omega,by omega,by omega⟩
theorem vis_tab {r : Ru} (h : RuG r) (most : Bool) {k : Nat} (hk : k < r.ends.length) (s : Nat) (hs : (s : Int) ≤ r.start) : VisG r (tabF r most) k s:=by
 refine ⟨hk,h.h10,h.ends,hs,h.s40,fun left hl=>?_⟩
 by_cases hk1 : k + 1 < r.ends.length
 · have hg:=tabI_get r most r.ends.length (Nat.le_refl _) (k + 1) (by omega) hk1
   refine ⟨_,_,fun _=>⟨hg,rowV_get _ _ _ _ _ hl,?_⟩⟩
   split
   · omega
   · have hv:=vis_at h most (r.ends.length - 1 - (k + 1)) (by omega) left hl
     rw [show r.ends.length - 1 - (r.ends.length - 1 - (k + 1)) = k + 1 by omega] at hv
     exact valV_le hv h.aims 3 left hl
 · exact ⟨[],0,fun h=>absurd h hk1⟩
theorem odds_ok (r : Ru) (hw : WfR r) (p : Pos) : ACalls Try.prog 21 [ruV r,posV p] (.tu [oddsR r p,i64 (oddsE r p)]):=by
 have hs:=sides_ok r hw
 refine acalls_st (rs:=[oddsR r p,i64 (oddsE r p)]) [.tmp 4,.tmp 5] Try.func21 rfl (by kernel_rfl) Try.ntmps21 rfl (by simp) rfl fun C vs=>?_
 repeat refine zq ?_
 refine zb fun K hK=>?_;simp only [go_sem];(try simp (disch:=omega) only [zI]);repeat first | intro _ | refine ⟨by omega,?_⟩
 refine hK _ ?_;clear hK K;refine zw (sub_frzP 2 2 (ruC r) (by omega) rfl rfl) ?_;refine zw (zk [2,3,4]) ?_;simp only [go_sem];refine zw (sub_frzP 3 3 (posC p) (by omega) rfl rfl) ?_;refine zw (zk [2,3,4]) ?_;simp only [go_sem]
 by_cases h0 : ruE r = 0
 rotate_left
 · have e1 : sidesV r = .ag [.np,.np]:=if_neg h0
   have c : (ruE r != 0) = true:=by simpa using h0
   rw [e1] at hs
   repeat refine zq ?_
   refine zb fun K hK=>?_;simp only [go_sem];(try simp (disch:=omega) only [zI])
   refine zh (hs) rfl (by simp only [go_sem,i64,ints]) (by simp only [go_sem,i64,ints]) (by first | exact .inl rfl | exact .inr rfl) ?_
   (try simp only [go_sem]);(try simp (disch:=omega) only [zI]);repeat first | intro _ | refine ⟨by omega,?_⟩
   refine hK _ ?_;clear hK K;refine zw (zk [3,4,5,6]) ?_;simp only [go_sem]
   repeat refine zq ?_
   refine zd ?_
   repeat refine zq ?_
   refine zb fun K hK=>?_;simp only [go_sem,c];(try simp (disch:=omega) only [zI]);repeat first | intro _ | refine ⟨by omega,?_⟩
   refine hK _ ?_;clear hK K;refine zw (zk [3,4,5,6,16]) ?_;simp only [go_sem]
   repeat refine zq ?_
   refine zc rfl (fun hc=>?_) (fun hc=>?_) <;> (try simp only [go_sem] at hc)
   repeat refine zq ?_
   refine zb fun K hK=>?_;simp only [go_sem];(try simp (disch:=omega) only [zI]);repeat first | intro _ | refine ⟨by omega,?_⟩
   refine hK _ ?_;clear hK K;refine zw (zk [4,5]) ?_;simp only [go_sem];refine ze ?_;simp only [go_sem];simp only [oddsR,oddsE,if_neg h0];exact ⟨rv_le _,trivial⟩
 have e1 : sidesV r = .ag [sideP r false (tabF r false),sideP r true (tabF r true)]:=if_pos h0
 obtain ⟨hG,hn1,_,_⟩:=ruG_of h0
 have h10:=hG.h10
 rw [e1,h0] at hs
 repeat refine zq ?_
 refine zb fun K hK=>?_;simp only [go_sem];(try simp (disch:=omega) only [zI])
 refine zh (hs) rfl (by simp only [go_sem,i64,ints]) (by simp only [go_sem,i64,ints]) (by first | exact .inl rfl | exact .inr rfl) ?_
 (try simp only [go_sem]);(try simp (disch:=omega) only [zI]);repeat first | intro _ | refine ⟨by omega,?_⟩
 refine hK _ ?_;clear hK K;refine zw (sub_frzP 6 6 [sideP r false (tabF r false),sideP r true (tabF r true)] (by omega) rfl rfl) ?_;refine zw (zk [3,4,5,6]) ?_;simp only [go_sem]
 repeat refine zq ?_
 refine zd ?_
 repeat refine zq ?_
 refine zb fun K hK=>?_;simp only [go_sem,bne_self_eq_false];(try simp (disch:=omega) only [zI]);repeat first | intro _ | refine ⟨by omega,?_⟩
 refine hK _ ?_;clear hK K;refine zw (zk [3,4,5,6,16]) ?_;simp only [go_sem]
 repeat refine zq ?_
 refine zc rfl (fun hc=>?_) (fun hc=>?_) <;> (try simp only [go_sem] at hc)
 have hip:=isPosition_ok r p hn1 (by omega)
 cases hp : posOk r p
 · rw [hp] at hip
   repeat refine zq ?_
   refine zg follows (by decide +kernel) (by kernel_rfl) fun K hK=>?_;simp only [go_sem];(try simp (disch:=omega) only [zI])
   refine zh (hip) rfl (by simp only [go_sem,i64,ints]) (by simp only [go_sem,i64,ints]) (by first | exact .inl rfl | exact .inr rfl) ?_
   (try simp only [go_sem]);(try simp (disch:=omega) only [zI]);repeat first | intro _ | refine ⟨by omega,?_⟩
   refine hK _ ?_;clear hK K;refine zw (zk [3,4,6,20]) ?_;simp only [go_sem]
   repeat refine zq ?_
   refine zc rfl (fun hc=>?_) (fun hc=>?_) <;> (try simp only [go_sem] at hc)
   repeat refine zq ?_
   refine zb fun K hK=>?_;simp only [go_sem];(try simp (disch:=omega) only [zI]);repeat first | intro _ | refine ⟨by omega,?_⟩
   refine hK _ ?_;clear hK K;refine zw (zk [4,5]) ?_;simp only [go_sem];refine ze ?_;simp only [go_sem];simp only [oddsR,oddsE,if_pos h0,hp,Bool.false_eq_true,if_false];exact ⟨rv_le _,trivial⟩
 rw [hp] at hip
 obtain ⟨k,s,left,d,rfl,hk,hs1,hs2,hl1,hl2,hd⟩:=posOk_nat hp
 have hlow : lowestR r = 1 ∨ lowestR r = 2:=by unfold lowestR; split <;> simp
 have hs40:=hG.s40
 have hA:=hG.aims
 have hE : oddsE r (pos k s left d) = 0:=by simp only [oddsE,if_pos h0,hp,if_true]
 have hR : oddsR r (pos k s left d) = spansR (oddsS r k s left d):=by
  simp only [oddsR,if_pos h0,hp,if_true,Int.toNat_natCast];rw [show ((d : Int) + 1 - 1).toNat = d by omega]
 rw [hE,hR]
 have hG0:=vis_tab hG false hk s hs2
 have hG1:=vis_tab hG true hk s hs2
 have hoS : oddsS r k s left d = (oddsV r false (tabF r false) k s left d).zip (oddsV r true (tabF r true) k s left d):=rfl
 generalize hT0 : tabF r false = T0 at *
 generalize hT1 : tabF r true = T1 at *
 repeat refine zq ?_
 refine zg follows (by decide +kernel) (by kernel_rfl) fun K hK=>?_;simp only [go_sem];(try simp (disch:=omega) only [zI])
 refine zh (hip) rfl (by simp only [go_sem,i64,ints]) (by simp only [go_sem,i64,ints]) (by first | exact .inl rfl | exact .inr rfl) ?_
 (try simp only [go_sem]);(try simp (disch:=omega) only [zI]);repeat first | intro _ | refine ⟨by omega,?_⟩
 refine hK _ ?_;clear hK K;refine zw (zk [3,4,6,20]) ?_;simp only [go_sem]
 repeat refine zq ?_
 refine zc rfl (fun hc=>?_) (fun hc=>?_) <;> (try simp only [go_sem] at hc)
 refine zx ?_
 try simp only [go_sem]
 repeat refine zq ?_
 refine zb fun K hK=>?_;simp only [go_sem];(try simp (disch:=omega) only [zI]);repeat first | intro _ | refine ⟨by omega,?_⟩
 refine hK _ ?_;clear hK K;refine zw (sub_frzP 7 7 [i64 (left : Int),i64 ((d : Int) + 1)] (by omega) rfl rfl) ?_;refine zw (zk [3,4,6,7]) ?_;simp only [go_sem]
 repeat refine zq ?_
 refine awp_inv (n:=71) (odF r T0 T1 k s left d) (odR r T0 T1 k s left d) follows (by kernel_rfl) (by kernel_rfl) (by decide +kernel) (zj [] ?_ ?_) ?_ ?_
 · simp only [go_sem,odF,vB,if_true,if_false,Bool.false_eq_true]
 · simp only [go_sem,odR]
 · refine ⟨fun b vs hdn hbk hde=>?_,fun b vs hdn hbk hde=>?_,fun b vs hdn hbk hde=>?_,fun b vs hdn hbk hde=>?_,fun b vs hdn hbk hde=>?_,fun b vs hdn hbk hde=>?_,fun b vs hdn hbk hde=>?_,fun b vs hdn hbk hde=>?_,fun b vs hdn hbk hde=>?_,fun b vs hdn hbk hde=>?_,fun b vs hdn hbk hde=>?_,fun b vs hdn hbk hde=>?_,fun b vs hdn hbk hde=>?_,fun b vs hdn hbk hde=>?_,fun b vs hdn hbk hde=>?_,fun b vs hdn hbk hde=>?_,fun b vs hdn hbk hde=>?_,fun b vs hdn hbk hde=>?_,fun b vs hdn hbk hde=>?_,fun b vs hdn hbk hde=>?_,trivial⟩
   · skip
     simp only [go_sem,odF]
     refine zj [] ?_ ?_
     · simp only [go_sem,odF,vB,upd,hbk,if_true]
     · simp only [go_sem,odR,upd,hbk,cond_true,cond_false]
   · skip
     have h0 : b 0 = true:=hde 0 (by decide +kernel)
     have e0 : ∀ v,vB b 0 v = v:=fun v=>by rw [vB,if_pos h0]
     simp only [go_sem,odF,e0]
     refine zj [] ?_ ?_
     · simp only [go_sem,odF,vB,upd,hbk,h0,if_true]
     · simp only [go_sem,odR,upd,hbk,h0,cond_true,cond_false]
   · skip
     simp only [go_sem,odF]
     refine zj [] ?_ ?_
     · simp only [go_sem,odF,vB,upd,hbk,if_true]
     · simp only [go_sem,odR,upd,hbk,cond_true,cond_false]
   · skip
     have h2 : b 2 = true:=hde 2 (by decide +kernel)
     have e2 : ∀ v,vB b 2 v = v:=fun v=>by rw [vB,if_pos h2]
     simp only [go_sem,odF,e2]
     refine zj [] ?_ ?_
     · simp only [go_sem,odF,vB,upd,hbk,h2,if_true]
     · simp only [go_sem,odR,upd,hbk,h2,cond_true,cond_false]
   · skip
     simp only [go_sem,odF]
     refine zj [] ?_ ?_
     · simp only [go_sem,odF,vB,upd,hbk,if_true]
     · simp only [go_sem,odR,upd,hbk,cond_true,cond_false]
   · skip
     have h4 : b 4 = true:=hde 4 (by decide +kernel)
     have e4 : ∀ v,vB b 4 v = v:=fun v=>by rw [vB,if_pos h4]
     simp only [go_sem,odF,e4]
     refine zj [] ?_ ?_
     · simp only [go_sem,odF,vB,upd,hbk,h4,if_true]
     · simp only [go_sem,odR,upd,hbk,h4,cond_true,cond_false]
   · skip
     have h1 : b 1 = true:=hde 1 (by decide +kernel)
     have e1 : ∀ v,vB b 1 v = v:=fun v=>by rw [vB,if_pos h1]
     have h3 : b 3 = true:=hde 3 (by decide +kernel)
     have e3 : ∀ v,vB b 3 v = v:=fun v=>by rw [vB,if_pos h3]
     have h5 : b 5 = true:=hde 5 (by decide +kernel)
     have e5 : ∀ v,vB b 5 v = v:=fun v=>by rw [vB,if_pos h5]
     have b8:=dn hdn 8 6 (by decide +kernel) (by decide +kernel) hbk
     have b15:=dn hdn 15 8 (by decide +kernel) (by decide +kernel) b8
     simp only [go_sem,odF,upd,e1,e3,e5,odR,hbk,b15,cond_false]
     refine xcall_new (newVisit_ok r false T0 (k : Int) (s : Int)) [(12,940),(10,941)] rfl (by rfl) (by rfl) (by rfl) (by rfl) (by rfl) ?_
     simp only [go_sem,idK,backA,backC,backL,pinOf,lendKey]
     refine fitV_sub (sub_shutM (memoV r false T0 k s) 941 (by rfl) (fun e he=>by cases he)) ?_
     refine zj [] ?_ ?_
     · simp only [go_sem,odF,vB,upd,hbk,h1,h3,h5,if_true]
     · simp only [go_sem,odR,upd,hbk,h1,h3,h5,b15,cond_true,cond_false]
   · skip
     simp only [go_sem,odF]
     refine zj [] ?_ ?_
     · simp only [go_sem,odF,vB,upd,hbk,if_true]
     · simp only [go_sem,odR,upd,hbk,cond_true,cond_false]
   · skip
     have h6 : b 6 = true:=hde 6 (by decide +kernel)
     have e6 : ∀ v,vB b 6 v = v:=fun v=>by rw [vB,if_pos h6]
     have h7 : b 7 = true:=hde 7 (by decide +kernel)
     have e7 : ∀ v,vB b 7 v = v:=fun v=>by rw [vB,if_pos h7]
     have b15:=dn hdn 15 8 (by decide +kernel) (by decide +kernel) hbk
     simp only [go_sem,odF,upd,e6,e7,odR,h6,b15,cond_false,cond_true]
     refine xcall_mut (dmeans_ok false hG0 hA d left (by omega) (by omega) (by omega)) [(1000,940),(1001,941)] rfl (by simp only [go_sem,i64,ints]) (by simp only [go_sem,i64,ints]) (by rfl) (by rfl) ?_
     (try simp only [go_sem])
     refine zj [] ?_ ?_
     · simp only [go_sem,odF,vB,upd,hbk,h6,h7,if_true]
     · simp only [go_sem,odR,upd,hbk,h6,h7,b15,cond_true,cond_false]
   · skip
     simp only [go_sem,odF]
     refine zj [] ?_ ?_
     · simp only [go_sem,odF,vB,upd,hbk,if_true]
     · simp only [go_sem,odR,upd,hbk,cond_true,cond_false]
   · skip
     have h9 : b 9 = true:=hde 9 (by decide +kernel)
     have e9 : ∀ v,vB b 9 v = v:=fun v=>by rw [vB,if_pos h9]
     simp only [go_sem,odF,e9]
     refine zj [] ?_ ?_
     · simp only [go_sem,odF,vB,upd,hbk,h9,if_true]
     · simp only [go_sem,odR,upd,hbk,h9,cond_true,cond_false]
   · skip
     simp only [go_sem,odF]
     refine zj [] ?_ ?_
     · simp only [go_sem,odF,vB,upd,hbk,if_true]
     · simp only [go_sem,odR,upd,hbk,cond_true,cond_false]
   · skip
     have h11 : b 11 = true:=hde 11 (by decide +kernel)
     have e11 : ∀ v,vB b 11 v = v:=fun v=>by rw [vB,if_pos h11]
     simp only [go_sem,odF,e11]
     refine zj [] ?_ ?_
     · simp only [go_sem,odF,vB,upd,hbk,h11,if_true]
     · simp only [go_sem,odR,upd,hbk,h11,cond_true,cond_false]
   · skip
     simp only [go_sem,odF]
     refine zj [] ?_ ?_
     · simp only [go_sem,odF,vB,upd,hbk,if_true]
     · simp only [go_sem,odR,upd,hbk,cond_true,cond_false]
   · skip
     have h13 : b 13 = true:=hde 13 (by decide +kernel)
     have e13 : ∀ v,vB b 13 v = v:=fun v=>by rw [vB,if_pos h13]
     simp only [go_sem,odF,e13]
     refine zj [] ?_ ?_
     · simp only [go_sem,odF,vB,upd,hbk,h13,if_true]
     · simp only [go_sem,odR,upd,hbk,h13,cond_true,cond_false]
   · skip
     have h8 : b 8 = true:=hde 8 (by decide +kernel)
     have e8 : ∀ v,vB b 8 v = v:=fun v=>by rw [vB,if_pos h8]
     have h10 : b 10 = true:=hde 10 (by decide +kernel)
     have e10 : ∀ v,vB b 10 v = v:=fun v=>by rw [vB,if_pos h10]
     have h12 : b 12 = true:=hde 12 (by decide +kernel)
     have e12 : ∀ v,vB b 12 v = v:=fun v=>by rw [vB,if_pos h12]
     have h14 : b 14 = true:=hde 14 (by decide +kernel)
     have e14 : ∀ v,vB b 14 v = v:=fun v=>by rw [vB,if_pos h14]
     have h6 : b 6 = true:=hdn 8 6 (by decide +kernel) (by decide +kernel) h8
     simp only [go_sem,odF,upd,e8,e10,e12,e14,odR,h6,hbk,cond_false,cond_true]
     refine xcall_new (newVisit_ok r true T1 (k : Int) (s : Int)) [(12,942),(10,943)] rfl (by rfl) (by rfl) (by rfl) (by rfl) (by rfl) ?_
     simp only [go_sem,idK,backA,backC,backL,pinOf,lendKey]
     refine fitV_sub (sub_shutM (memoV r true T1 k s) 943 (by rfl) (fun e he=>by cases he)) ?_
     refine zj [] ?_ ?_
     · simp only [go_sem,odF,vB,upd,hbk,h8,h10,h12,h14,h6,if_true]
     · simp only [go_sem,odR,upd,hbk,h8,h10,h12,h14,h6,cond_true,cond_false]
   · skip
     simp only [go_sem,odF]
     refine zj [] ?_ ?_
     · simp only [go_sem,odF,vB,upd,hbk,if_true]
     · simp only [go_sem,odR,upd,hbk,cond_true,cond_false]
   · skip
     have h15 : b 15 = true:=hde 15 (by decide +kernel)
     have e15 : ∀ v,vB b 15 v = v:=fun v=>by rw [vB,if_pos h15]
     have h16 : b 16 = true:=hde 16 (by decide +kernel)
     have e16 : ∀ v,vB b 16 v = v:=fun v=>by rw [vB,if_pos h16]
     simp only [go_sem,odF,upd,e15,e16,odR,h15,cond_true]
     refine xcall_mut (dmeans_ok true hG1 hA d left (by omega) (by omega) (by omega)) [(1000,942),(1001,943)] rfl (by simp only [go_sem,i64,ints]) (by simp only [go_sem,i64,ints]) (by rfl) (by rfl) ?_
     (try simp only [go_sem])
     refine zj [] ?_ ?_
     · simp only [go_sem,odF,vB,upd,hbk,h15,h16,if_true]
     · simp only [go_sem,odR,upd,hbk,h15,h16,cond_true,cond_false]
   · skip
     have h0 : b 0 = true:=hde 0 (by decide +kernel)
     have e0 : ∀ v,vB b 0 v = v:=fun v=>by rw [vB,if_pos h0]
     have h1 : b 1 = true:=hde 1 (by decide +kernel)
     have e1 : ∀ v,vB b 1 v = v:=fun v=>by rw [vB,if_pos h1]
     have h2 : b 2 = true:=hde 2 (by decide +kernel)
     have e2 : ∀ v,vB b 2 v = v:=fun v=>by rw [vB,if_pos h2]
     have h3 : b 3 = true:=hde 3 (by decide +kernel)
     have e3 : ∀ v,vB b 3 v = v:=fun v=>by rw [vB,if_pos h3]
     have h4 : b 4 = true:=hde 4 (by decide +kernel)
     have e4 : ∀ v,vB b 4 v = v:=fun v=>by rw [vB,if_pos h4]
     have h5 : b 5 = true:=hde 5 (by decide +kernel)
     have e5 : ∀ v,vB b 5 v = v:=fun v=>by rw [vB,if_pos h5]
     have h6 : b 6 = true:=hde 6 (by decide +kernel)
     have e6 : ∀ v,vB b 6 v = v:=fun v=>by rw [vB,if_pos h6]
     have h7 : b 7 = true:=hde 7 (by decide +kernel)
     have e7 : ∀ v,vB b 7 v = v:=fun v=>by rw [vB,if_pos h7]
     have h8 : b 8 = true:=hde 8 (by decide +kernel)
     have e8 : ∀ v,vB b 8 v = v:=fun v=>by rw [vB,if_pos h8]
     have h17 : b 17 = true:=hde 17 (by decide +kernel)
     have e17 : ∀ v,vB b 17 v = v:=fun v=>by rw [vB,if_pos h17]
     simp only [go_sem,odF,e0,e1,e2,e3,e4,e5,e6,e7,e8,e17]
     refine zj [] ?_ ?_
     · simp only [go_sem,odF,vB,upd,hbk,h0,h1,h2,h3,h4,h5,h6,h7,h8,h17,if_true]
     · simp only [go_sem,odR,upd,hbk,h0,h1,h2,h3,h4,h5,h6,h7,h8,h17,cond_true,cond_false]
   · skip
     have h0 : b 0 = true:=hde 0 (by decide +kernel)
     have e0 : ∀ v,vB b 0 v = v:=fun v=>by rw [vB,if_pos h0]
     have h1 : b 1 = true:=hde 1 (by decide +kernel)
     have e1 : ∀ v,vB b 1 v = v:=fun v=>by rw [vB,if_pos h1]
     have h2 : b 2 = true:=hde 2 (by decide +kernel)
     have e2 : ∀ v,vB b 2 v = v:=fun v=>by rw [vB,if_pos h2]
     have h3 : b 3 = true:=hde 3 (by decide +kernel)
     have e3 : ∀ v,vB b 3 v = v:=fun v=>by rw [vB,if_pos h3]
     have h4 : b 4 = true:=hde 4 (by decide +kernel)
     have e4 : ∀ v,vB b 4 v = v:=fun v=>by rw [vB,if_pos h4]
     have h5 : b 5 = true:=hde 5 (by decide +kernel)
     have e5 : ∀ v,vB b 5 v = v:=fun v=>by rw [vB,if_pos h5]
     have h6 : b 6 = true:=hde 6 (by decide +kernel)
     have e6 : ∀ v,vB b 6 v = v:=fun v=>by rw [vB,if_pos h6]
     have h7 : b 7 = true:=hde 7 (by decide +kernel)
     have e7 : ∀ v,vB b 7 v = v:=fun v=>by rw [vB,if_pos h7]
     have h8 : b 8 = true:=hde 8 (by decide +kernel)
     have e8 : ∀ v,vB b 8 v = v:=fun v=>by rw [vB,if_pos h8]
     have h9 : b 9 = true:=hde 9 (by decide +kernel)
     have e9 : ∀ v,vB b 9 v = v:=fun v=>by rw [vB,if_pos h9]
     have h10 : b 10 = true:=hde 10 (by decide +kernel)
     have e10 : ∀ v,vB b 10 v = v:=fun v=>by rw [vB,if_pos h10]
     have h11 : b 11 = true:=hde 11 (by decide +kernel)
     have e11 : ∀ v,vB b 11 v = v:=fun v=>by rw [vB,if_pos h11]
     have h12 : b 12 = true:=hde 12 (by decide +kernel)
     have e12 : ∀ v,vB b 12 v = v:=fun v=>by rw [vB,if_pos h12]
     have h13 : b 13 = true:=hde 13 (by decide +kernel)
     have e13 : ∀ v,vB b 13 v = v:=fun v=>by rw [vB,if_pos h13]
     have h14 : b 14 = true:=hde 14 (by decide +kernel)
     have e14 : ∀ v,vB b 14 v = v:=fun v=>by rw [vB,if_pos h14]
     have h15 : b 15 = true:=hde 15 (by decide +kernel)
     have e15 : ∀ v,vB b 15 v = v:=fun v=>by rw [vB,if_pos h15]
     have h16 : b 16 = true:=hde 16 (by decide +kernel)
     have e16 : ∀ v,vB b 16 v = v:=fun v=>by rw [vB,if_pos h16]
     have h17 : b 17 = true:=hde 17 (by decide +kernel)
     have e17 : ∀ v,vB b 17 v = v:=fun v=>by rw [vB,if_pos h17]
     have h18 : b 18 = true:=hde 18 (by decide +kernel)
     have e18 : ∀ v,vB b 18 v = v:=fun v=>by rw [vB,if_pos h18]
     simp only [go_sem,odF,e0,e1,e2,e3,e4,e5,e6,e7,e8,e9,e10,e11,e12,e13,e14,e15,e16,e17,e18]
     refine zj [] ?_ ?_
     · simp only [go_sem,odF,vB,upd,hbk,h0,h1,h2,h3,h4,h5,h6,h7,h8,h9,h10,h11,h12,h13,h14,h15,h16,h17,h18,if_true]
     · simp only [go_sem,odR,upd,hbk,h0,h1,h2,h3,h4,h5,h6,h7,h8,h9,h10,h11,h12,h13,h14,h15,h16,h17,h18,cond_true,cond_false]
 intro b vs hb
 have fb : ∀ j v,vB b j v = v:=fun j v=>by rw [vB,if_pos (hb j)]
 simp only [go_sem,odF,odR,fb,hb 15,cond_true];rw [hoS]
 have hl0 : (oddsV r false T0 k s left d).length = r.aims.length:=by simp [oddsV,meansV]
 have hl1' : (oddsV r true T1 k s left d).length = r.aims.length:=by simp [oddsV,meansV]
 have hal:=hA.len
 generalize oddsV r false T0 k s left d = L0 at *
 generalize oddsV r true T1 k s left d = L1 at *
 have hzl : (L0.zip L1).length = L0.length:=by rw [List.length_zip]; omega
 refine zw (sub_own 4 68 52 2 (by omega) rfl) ?_;refine zw (zk [4,8,9]) ?_;simp only [go_sem]
 repeat refine zq ?_
 refine zb fun K hK=>?_;simp only [go_sem];(try simp (disch:=omega) only [zI]);repeat first | intro _ | refine ⟨by omega,?_⟩
 refine hK _ ?_;clear hK K;refine zw (zk [4,8,9,53,54]) ?_;simp only [go_sem]
 repeat refine zq ?_
 refine zd ?_
 refine awp_uptoV (n:=71) L0.length (fun i vs=>[(4,.os 68 (vs 68) 2 0 i),(8,.r (ints L0)),(9,.r (ints L1)),(53,.r (i64 L0.length)),(54,.r (i64 i))])
  (fun i vs=>[(68,.arr 52 2 (((L0.zip L1).take i).map spanR))]) (fun _=>True) 0 (zj [940,941,942,943] ?_ ?_) (Nat.zero_le _) trivial ?_
 · try simp only [go_sem]
 · try simp only [go_sem]
 · intro i vs hi _
   repeat refine zq ?_
   refine zb fun K hK=>?_;simp only [go_sem];(try simp (disch:=omega) only [zI]);repeat first | intro _ | refine ⟨by omega,?_⟩
   refine hK _ ?_;clear hK K;refine zw (zk [4,8,9,53,54,55]) ?_;simp only [go_sem]
   repeat refine zq ?_
   refine zc rfl (fun hc=>?_) (fun hc=>?_) <;> (try simp only [go_sem] at hc)
   · have hci : i < L0.length:=by omega
     have hci1 : i < L1.length:=by omega
     obtain ⟨x,hx⟩:=opt_of_lt hci
     obtain ⟨y,hy⟩:=opt_of_lt hci1
     have hz : (L0.zip L1)[i]? = some (x,y):=by rw [List.getElem?_zip_eq_some]; exact ⟨hx,hy⟩
     have htk : (L0.zip L1).take (i + 1) = (L0.zip L1).take i ++ [(x,y)]:=take_of_opt hz
     have hli : ((L0.zip L1).take i).length = i:=by rw [List.length_take]; omega
     refine zx ?_
     try simp only [go_sem]
     repeat refine zq ?_
     refine zd ?_
     repeat refine zq ?_
     refine zb fun K hK=>?_;simp only [go_sem];(try simp (disch:=omega) only [zI]);repeat first | intro _ | refine ⟨by omega,?_⟩
     refine hK _ ?_;clear hK K;refine zw (zk [4,8,9,10,53,54]) ?_;simp only [go_sem]
     repeat refine zq ?_
     refine zg follows (by decide +kernel) (by kernel_rfl) fun K hK=>?_;simp only [go_sem,hx,hy,hci,hci1,hli];(try simp (disch:=omega) only [zI]);repeat first | intro _ | refine ⟨by omega,?_⟩
     refine hK _ ?_;clear hK K;refine zw (zk [4,8,9,53,54]) ?_;simp only [go_sem]
     repeat refine zq ?_
     refine zb fun K hK=>?_;simp only [go_sem];(try simp (disch:=omega) only [zI]);repeat first | intro _ | refine ⟨by omega,?_⟩
     refine hK _ ?_;clear hK K
     try simp only [go_sem]
     refine ⟨by omega,zj [] ?_ ?_⟩
     · try simp only [go_sem]
     · try simp only [go_sem]
       rw [htk]
       simp [spanR]
   · have hil : i = L0.length:=by omega
     subst hil
     have hzt : (L0.zip L1).take L0.length = L0.zip L1:=List.take_of_length_le (by omega)
     rw [hzt]
     refine zf ?_;simp only [go_sem];refine zw (sub_frz (ty:=52) (sz:=2) (off:=0) (m:=L0.length) (es:=(L0.zip L1).map spanR) 4 68 (by omega) (by try simp only [go_sem]) (by try simp only [go_sem]) (by rw [List.length_map,hzl]; omega)) ?_
     have e2 : (((L0.zip L1).map spanR).drop 0).take L0.length = (L0.zip L1).map spanR:=by
      rw [List.drop_zero,List.take_of_length_le (by rw [List.length_map,hzl]; exact Nat.le_refl _)]
     rw [e2]
     refine zw (zk [4]) ?_;simp only [go_sem]
     repeat refine zq ?_
     refine zb fun K hK=>?_;simp only [go_sem];(try simp (disch:=omega) only [zI]);repeat first | intro _ | refine ⟨by omega,?_⟩
     refine hK _ ?_;clear hK K;refine zw (zk [4,5]) ?_;simp only [go_sem];refine ze ?_;simp only [go_sem]
def oddsL (r : Ru) (p : Pos) : List Sp:=oddsS r p.round.toNat p.start.toNat p.left.toNat (p.darts - 1).toNat
theorem odds_len (r : Ru) (p : Pos) : (oddsL r p).length = r.aims.length:=by
 simp only [oddsL,oddsS,List.length_zip,oddsV,meansV,List.length_map]; omega
theorem odds_cases (r : Ru) (p : Pos) : (oddsE r p = 0 ∧ ruE r = 0 ∧ posOk r p = true ∧ oddsR r p = spansR (oddsL r p)) ∨ (oddsE r p ≠ 0 ∧ oddsR r p = .ns):=by
 unfold oddsE oddsR
 by_cases h : ruE r = 0
 · by_cases hp : posOk r p = true
   · exact .inl ⟨by rw [if_pos h,if_pos hp],h,hp,by rw [if_pos h,if_pos hp]; rfl⟩
   · exact .inr ⟨by rw [if_pos h,if_neg hp]; decide,by rw [if_pos h,if_neg hp]⟩
 · exact .inr ⟨by rw [if_neg h]; exact h,by rw [if_neg h]⟩
def bestL (l : List Sp) : Int:=bestS l l.length
def lowL (l : List Sp) : Int:=(l.getD (bestL l).toNat (0,0)).1
theorem bestL_nat {l : List Sp} (h : l ≠ []) : ∃ b : Nat,bestL l = b ∧ b < l.length:=by
 have hl:=List.length_pos_iff.2 h
 have:=bestS_lt l l.length
 exact ⟨(bestL l).toNat,by unfold bestL; omega,by unfold bestL; omega⟩
theorem aim_ok (r : Ru) (hw : WfR r) (p : Pos) : ACalls Try.prog 22 [ruV r,posV p] (.tu [i64 (if oddsE r p = 0 then bestL (oddsL r p) else 0),i64 (if oddsE r p = 0 then lowL (oddsL r p) else 0),i64 (oddsE r p)]):=by
 have ho:=odds_ok r hw p
 refine acalls_st (rs:=[i64 (if oddsE r p = 0 then bestL (oddsL r p) else 0),i64 (if oddsE r p = 0 then lowL (oddsL r p) else 0),i64 (oddsE r p)]) [.tmp 4,.tmp 5,.tmp 6] Try.func22 rfl (by kernel_rfl) Try.ntmps22 rfl (by simp) rfl fun C vs=>?_
 repeat refine zq ?_
 refine zb fun K hK=>?_;simp only [go_sem];(try simp (disch:=omega) only [zI]);repeat first | intro _ | refine ⟨by omega,?_⟩
 refine hK _ ?_;clear hK K;refine zw (sub_frzP 2 2 (ruC r) (by omega) rfl rfl) ?_;refine zw (zk [2,3]) ?_;simp only [go_sem];refine zw (sub_frzP 3 3 (posC p) (by omega) rfl rfl) ?_;refine zw (zk [2,3]) ?_;simp only [go_sem]
 rcases odds_cases r p with ⟨hE,h0,hp,hR⟩ | ⟨hE,hR⟩
 · rw [hE,hR] at ho
   rw [if_pos hE,if_pos hE,hE]
   obtain ⟨hG,_⟩:=ruG_of h0
   have hb:=best_ok (oddsL r p)
   have hne : oddsL r p ≠ []:=by
    intro h
    have:=odds_len r p
    rw [h] at this
    exact hG.aims.ne (List.eq_nil_of_length_eq_zero this.symm)
   obtain ⟨b,hbe,hbl⟩:=bestL_nat hne
   have hbs : bestS (oddsL r p) (oddsL r p).length = (b : Int):=hbe
   obtain ⟨x,hx⟩:=opt_of_lt hbl
   have hlow : lowL (oddsL r p) = x.1:=by unfold lowL; rw [hbe,Int.toNat_natCast]; simp [List.getD,hx]
   rw [hlow,hbe]
   rw [hbs] at hb
   generalize oddsL r p = L at *
   repeat refine zq ?_
   refine zb fun K hK=>?_;simp only [go_sem];(try simp (disch:=omega) only [zI])
   refine zh (ho) rfl (by simp only [go_sem,i64,ints]) (by simp only [go_sem,i64,ints]) (by first | exact .inl rfl | exact .inr rfl) ?_
   (try simp only [go_sem]);(try simp (disch:=omega) only [zI]);repeat first | intro _ | refine ⟨by omega,?_⟩
   refine hK _ ?_;clear hK K;refine zw (zk [6,7]) ?_;simp only [go_sem]
   repeat refine zq ?_
   refine zb fun K hK=>?_;simp only [go_sem,bne_self_eq_false];(try simp (disch:=omega) only [zI]);repeat first | intro _ | refine ⟨by omega,?_⟩
   refine hK _ ?_;clear hK K;refine zw (zk [6,7,15]) ?_;simp only [go_sem]
   repeat refine zq ?_
   refine zc rfl (fun hc=>?_) (fun hc=>?_) <;> (try simp only [go_sem] at hc)
   refine zx ?_
   try simp only [go_sem]
   repeat refine zq ?_
   refine zb fun K hK=>?_;simp only [go_sem];(try simp (disch:=omega) only [zI])
   refine zh (hb) rfl (by simp only [go_sem,i64,ints]) (by simp only [go_sem,i64,ints]) (by first | exact .inl rfl | exact .inr rfl) ?_
   (try simp only [go_sem]);(try simp (disch:=omega) only [zI]);repeat first | intro _ | refine ⟨by omega,?_⟩
   refine hK _ ?_;clear hK K;refine zw (zk [4,7]) ?_;simp only [go_sem]
   repeat refine zq ?_
   refine zg follows (by decide +kernel) (by kernel_rfl) fun K hK=>?_;simp only [go_sem,hx,hbl,spanR];(try simp (disch:=omega) only [zI]);repeat first | intro _ | refine ⟨by omega,?_⟩
   refine hK _ ?_;clear hK K;refine zw (zk [4,5,6]) ?_;simp only [go_sem];refine ze ?_;simp only [go_sem]
 · have c : (oddsE r p != 0) = true:=by simpa using hE
   rw [hR] at ho
   rw [if_neg hE,if_neg hE]
   repeat refine zq ?_
   refine zb fun K hK=>?_;simp only [go_sem];(try simp (disch:=omega) only [zI])
   refine zh (ho) rfl (by simp only [go_sem,i64,ints]) (by simp only [go_sem,i64,ints]) (by first | exact .inl rfl | exact .inr rfl) ?_
   (try simp only [go_sem]);(try simp (disch:=omega) only [zI]);repeat first | intro _ | refine ⟨by omega,?_⟩
   refine hK _ ?_;clear hK K;refine zw (zk [6,7]) ?_;simp only [go_sem]
   repeat refine zq ?_
   refine zb fun K hK=>?_;simp only [go_sem,c];(try simp (disch:=omega) only [zI]);repeat first | intro _ | refine ⟨by omega,?_⟩
   refine hK _ ?_;clear hK K;refine zw (zk [6,7,15]) ?_;simp only [go_sem]
   repeat refine zq ?_
   refine zc rfl (fun hc=>?_) (fun hc=>?_) <;> (try simp only [go_sem] at hc)
   repeat refine zq ?_
   refine zb fun K hK=>?_;simp only [go_sem];(try simp (disch:=omega) only [zI]);repeat first | intro _ | refine ⟨by omega,?_⟩
   refine hK _ ?_;clear hK K;refine zw (zk [4,5,6]) ?_;simp only [go_sem];refine ze ?_;simp only [go_sem]
def mayL (l : List Sp) (least : Int) : Nat → List Int
 | 0=>[]
 | i + 1=>if least ≤ (l.getD i (0,0)).2 then mayL l least i ++ [(i : Int)] else mayL l least i
theorem mayL_le (l : List Sp) (least : Int) : ∀ i,(mayL l least i).length ≤ i
 | 0=>by simp [mayL]
 | i + 1 => by
   have:=mayL_le l least i
   simp only [mayL]
   split <;> simp <;> omega
theorem may_ok (r : Ru) (hw : WfR r) (p : Pos) : ACalls Try.prog 23 [ruV r,posV p] (.tu [ints (if oddsE r p = 0 then mayL (oddsL r p) (lowL (oddsL r p)) (oddsL r p).length else []),i64 (oddsE r p)]):=by
 have ho:=odds_ok r hw p
 refine acalls_st (rs:=[ints (if oddsE r p = 0 then mayL (oddsL r p) (lowL (oddsL r p)) (oddsL r p).length else []),i64 (oddsE r p)]) [.tmp 4,.tmp 5] Try.func23 rfl (by kernel_rfl) Try.ntmps23 rfl (by simp) rfl fun C vs=>?_
 repeat refine zq ?_
 refine zb fun K hK=>?_;simp only [go_sem];(try simp (disch:=omega) only [zI]);repeat first | intro _ | refine ⟨by omega,?_⟩
 refine hK _ ?_;clear hK K;refine zw (sub_frzP 2 2 (ruC r) (by omega) rfl rfl) ?_;refine zw (zk [2,3,4]) ?_;simp only [go_sem];refine zw (sub_frzP 3 3 (posC p) (by omega) rfl rfl) ?_;refine zw (zk [2,3,4]) ?_;simp only [go_sem]
 rcases odds_cases r p with ⟨hE,h0,hp,hR⟩ | ⟨hE,hR⟩
 · rw [hE,hR] at ho
   rw [if_pos hE,hE]
   obtain ⟨hG,_⟩:=ruG_of h0
   have hal:=hG.aims.len
   have hb:=best_ok (oddsL r p)
   have hol:=odds_len r p
   have hne : oddsL r p ≠ []:=by
    intro h
    have:=odds_len r p
    rw [h] at this
    exact hG.aims.ne (List.eq_nil_of_length_eq_zero this.symm)
   obtain ⟨b,hbe,hbl⟩:=bestL_nat hne
   have hbs : bestS (oddsL r p) (oddsL r p).length = (b : Int):=hbe
   obtain ⟨z,hz⟩:=opt_of_lt hbl
   have hlow : lowL (oddsL r p) = z.1:=by unfold lowL; rw [hbe,Int.toNat_natCast]; simp [List.getD,hz]
   rw [hlow]
   rw [hbs] at hb
   generalize oddsL r p = L at *
   repeat refine zq ?_
   refine zb fun K hK=>?_;simp only [go_sem];(try simp (disch:=omega) only [zI])
   refine zh (ho) rfl (by simp only [go_sem,i64,ints]) (by simp only [go_sem,i64,ints]) (by first | exact .inl rfl | exact .inr rfl) ?_
   (try simp only [go_sem]);(try simp (disch:=omega) only [zI]);repeat first | intro _ | refine ⟨by omega,?_⟩
   refine hK _ ?_;clear hK K;refine zw (zk [4,5,6]) ?_;simp only [go_sem]
   repeat refine zq ?_
   refine zb fun K hK=>?_;simp only [go_sem,bne_self_eq_false];(try simp (disch:=omega) only [zI]);repeat first | intro _ | refine ⟨by omega,?_⟩
   refine hK _ ?_;clear hK K;refine zw (zk [4,5,6,17]) ?_;simp only [go_sem]
   repeat refine zq ?_
   refine zc rfl (fun hc=>?_) (fun hc=>?_) <;> (try simp only [go_sem] at hc)
   refine zx ?_
   try simp only [go_sem]
   repeat refine zq ?_
   refine zb fun K hK=>?_;simp only [go_sem,hz,hbl,spanR];(try simp (disch:=omega) only [zI])
   refine zh (hb) rfl (by simp only [go_sem,i64,ints,hz,hbl,spanR]) (by simp only [go_sem,i64,ints,hz,hbl,spanR]) (by first | exact .inl rfl | exact .inr rfl) ?_
   (try simp only [go_sem,hz,hbl,spanR]);(try simp (disch:=omega) only [zI]);repeat first | intro _ | refine ⟨by omega,?_⟩
   refine hK _ ?_;clear hK K;refine zw (zk [4,6,7]) ?_;simp only [go_sem];refine zw (sub_own 4 39 3 1 (by omega) rfl) ?_
   try simp only [go_sem]
   repeat refine zq ?_
   refine zb fun K hK=>?_;simp only [go_sem];(try simp (disch:=omega) only [zI])
   intro hl8
   repeat first | intro _ | refine ⟨by omega,?_⟩
   refine hK _ ?_;clear hK K;refine zw (zk [4,7,25,26,27]) ?_;simp only [go_sem]
   repeat refine zq ?_
   refine zd ?_
   refine awp_uptoV (n:=42) L.length (fun i vs=>[(4,.os 39 (vs 39) 1 0 (mayL L z.1 i).length),(7,.r (i64 z.1)),(25,.r (spansR L)),(26,.r (i64 L.length)),(27,.r (i64 i))])
    (fun i vs=>[(39,.arr 3 1 ((mayL L z.1 i).map fun x=>[i64 x]))]) (fun _=>True) 0 (zj [] ?_ ?_) (Nat.zero_le _) trivial ?_
   · try simp only [go_sem]
     rfl
   · try simp only [go_sem]
     rfl
   · intro i vs hi _
     have hml:=mayL_le L z.1 i
     repeat refine zq ?_
     refine zb fun K hK=>?_;simp only [go_sem];(try simp (disch:=omega) only [zI]);repeat first | intro _ | refine ⟨by omega,?_⟩
     refine hK _ ?_;clear hK K;refine zw (zk [4,7,25,26,27,28]) ?_;simp only [go_sem]
     repeat refine zq ?_
     refine zc rfl (fun hc=>?_) (fun hc=>?_) <;> (try simp only [go_sem] at hc)
     · have hci : i < L.length:=by omega
       obtain ⟨x,hx⟩:=opt_of_lt hci
       have gx : L.getD i (0,0) = x:=by simp [List.getD,hx]
       have hB : mayL L z.1 (i + 1) = if z.1 ≤ x.2 then mayL L z.1 i ++ [(i : Int)] else mayL L z.1 i:=by simp only [mayL,gx]
       refine zx ?_
       try simp only [go_sem]
       repeat refine zq ?_
       refine zd ?_
       repeat refine zq ?_
       refine zb fun K hK=>?_;simp only [go_sem,hx,hci,spanR];(try simp (disch:=omega) only [zI]);repeat first | intro _ | refine ⟨by omega,?_⟩
       refine hK _ ?_;clear hK K;refine zw (sub_frzP 9 9 [i64 x.1,i64 x.2] (by omega) rfl rfl) ?_;refine zw (zk [4,7,8,9,25,26,27]) ?_;simp only [go_sem]
       by_cases hlt : z.1 ≤ x.2
       · have d1 : decide (z.1 ≤ x.2) = true:=by simpa using hlt
         rw [if_pos hlt] at hB
         repeat refine zq ?_
         refine zb fun K hK=>?_;simp only [go_sem,d1];(try simp (disch:=omega) only [zI]);repeat first | intro _ | refine ⟨by omega,?_⟩
         refine hK _ ?_;clear hK K;refine zw (zk [4,7,8,25,26,27,35]) ?_;simp only [go_sem]
         repeat refine zq ?_
         refine zc rfl (fun hc=>?_) (fun hc=>?_) <;> (try simp only [go_sem] at hc)
         repeat refine zq ?_
         refine zb fun K hK=>?_;simp only [go_sem];(try simp (disch:=omega) only [zI]);repeat first | intro _ | refine ⟨by omega,?_⟩
         refine hK _ ?_;clear hK K;refine zw (zk [4,7,25,26,27]) ?_;simp only [go_sem]
         repeat refine zq ?_
         refine zb fun K hK=>?_;simp only [go_sem];(try simp (disch:=omega) only [zI]);repeat first | intro _ | refine ⟨by omega,?_⟩
         refine hK _ ?_;clear hK K
         try simp only [go_sem]
         refine ⟨by omega,zj [] ?_ ?_⟩
         · try simp only [go_sem]
           rw [hB]; simp
         · try simp only [go_sem]
           rw [hB]; simp
       · have d1 : decide (z.1 ≤ x.2) = false:=by simpa using hlt
         rw [if_neg hlt] at hB
         repeat refine zq ?_
         refine zb fun K hK=>?_;simp only [go_sem,d1];(try simp (disch:=omega) only [zI]);repeat first | intro _ | refine ⟨by omega,?_⟩
         refine hK _ ?_;clear hK K;refine zw (zk [4,7,8,25,26,27,35]) ?_;simp only [go_sem]
         repeat refine zq ?_
         refine zc rfl (fun hc=>?_) (fun hc=>?_) <;> (try simp only [go_sem] at hc)
         refine zx ?_
         try simp only [go_sem]
         repeat refine zq ?_
         refine zb fun K hK=>?_;simp only [go_sem];(try simp (disch:=omega) only [zI]);repeat first | intro _ | refine ⟨by omega,?_⟩
         refine hK _ ?_;clear hK K
         try simp only [go_sem]
         refine ⟨by omega,zj [] ?_ ?_⟩
         · try simp only [go_sem]
           rw [hB]
         · try simp only [go_sem]
           rw [hB]
     · have hil : i = L.length:=by omega
       subst hil
       refine zf ?_;simp only [go_sem];refine zw (sub_frz (ty:=3) (sz:=1) (off:=0) (m:=(mayL L z.1 L.length).length) (es:=(mayL L z.1 L.length).map fun x=>[i64 x]) 4 39 (by omega) (by try simp only [go_sem]) (by try simp only [go_sem]) (by simp)) ?_
       have e2 : (((mayL L z.1 L.length).map fun x=>[i64 x]).drop 0).take (mayL L z.1 L.length).length = (mayL L z.1 L.length).map fun x=>[i64 x]:=by
        rw [List.drop_zero,List.take_of_length_le (by simp)]
       rw [e2]
       refine zw (zk [4]) ?_;simp only [go_sem]
       repeat refine zq ?_
       refine zb fun K hK=>?_;simp only [go_sem];(try simp (disch:=omega) only [zI]);repeat first | intro _ | refine ⟨by omega,?_⟩
       refine hK _ ?_;clear hK K;refine zw (zk [4,5]) ?_;simp only [go_sem];refine ze ?_;simp only [go_sem]
 · have c : (oddsE r p != 0) = true:=by simpa using hE
   rw [hR] at ho
   rw [if_neg hE]
   repeat refine zq ?_
   refine zb fun K hK=>?_;simp only [go_sem];(try simp (disch:=omega) only [zI])
   refine zh (ho) rfl (by simp only [go_sem,i64,ints]) (by simp only [go_sem,i64,ints]) (by first | exact .inl rfl | exact .inr rfl) ?_
   (try simp only [go_sem]);(try simp (disch:=omega) only [zI]);repeat first | intro _ | refine ⟨by omega,?_⟩
   refine hK _ ?_;clear hK K;refine zw (zk [4,5,6]) ?_;simp only [go_sem]
   repeat refine zq ?_
   refine zb fun K hK=>?_;simp only [go_sem,c];(try simp (disch:=omega) only [zI]);repeat first | intro _ | refine ⟨by omega,?_⟩
   refine hK _ ?_;clear hK K;refine zw (zk [4,5,6,17]) ?_;simp only [go_sem]
   repeat refine zq ?_
   refine zc rfl (fun hc=>?_) (fun hc=>?_) <;> (try simp only [go_sem] at hc)
   repeat refine zq ?_
   refine zb fun K hK=>?_;simp only [go_sem];(try simp (disch:=omega) only [zI]);repeat first | intro _ | refine ⟨by omega,?_⟩
   refine hK _ ?_;clear hK K;refine zw (zk [4,5]) ?_;simp only [go_sem];refine ze ?_;simp only [go_sem]
set_option maxHeartbeats 1000000
def tossF (r : Ru) (most : Bool) : Int:=((tabF r most).getD 0 []).getD r.start.toNat 0
def tossS (r : Ru) (most : Bool) : Int:=afterD r most (tabF r most) 0 r.start.toNat
theorem tab_zero {r : Ru} (h : RuG r) (most : Bool) : ∃ row,(tabF r most)[0]? = some row ∧ row[r.start.toNat]? = some (tossF r most):=by
 have hs:=h.s2
 have h1:=tabI_get r most r.ends.length (Nat.le_refl _) 0 (by omega) h.e1
 have h2:=rowV_get r most (tabI r most (r.ends.length - 1 - 0)) 0 r.start.toNat (by omega)
 refine ⟨_,h1,?_⟩
 have e : tossF r most = (rowV r most (tabI r most (r.ends.length - 1 - 0)) 0).getD r.start.toNat 0:=by
  unfold tossF tabF
  simp only [List.getD_eq_getElem?_getD,h1,Option.getD_some]
 rw [e,List.getD_eq_getElem?_getD,h2]
 rfl
theorem toss1_ok {r : Ru} (h : RuG r) (most : Bool) : ACalls Try.prog 56 [sideP r most (tabF r most)] (i64 (tossF r most)):=by
 obtain ⟨row,h1,h2⟩:=tab_zero h most
 have hl1 : 0 < (tabF r most).length:=(List.getElem?_eq_some_iff.1 h1).1
 have hl2 : r.start.toNat < row.length:=(List.getElem?_eq_some_iff.1 h2).1
 have hs:=h.s2
 have hs0 : 0 ≤ r.start:=by omega
 have hsl : r.start < (row.length : Int):=by omega
 have hl3 : (0 : Int) < ((tabF r most).length : Int):=by omega
 generalize tabF r most = T at *
 refine acalls_st (rs:=[i64 (tossF r most)]) [.tmp 2] Try.func56 rfl (by kernel_rfl) Try.ntmps56 rfl (by simp) rfl fun C vs=>?_
 repeat refine zq ?_
 refine zb fun K hK=>?_;simp only [go_sem];(try simp (disch:=omega) only [zI]);repeat first | intro _ | refine ⟨by omega,?_⟩
 refine hK _ ?_;clear hK K;refine zw (zk [0]) ?_;simp only [go_sem]
 repeat refine zq ?_
 refine zg follows (by decide +kernel) (by kernel_rfl) fun K hK=>?_;simp only [go_sem,h1,h2,hl1,hl2,hs0,hsl,hl3];(try simp (disch:=omega) only [zI]);repeat first | intro _ | refine ⟨by omega,?_⟩
 refine hK _ ?_;clear hK K;refine zw (zk [2]) ?_;simp only [go_sem];refine ze ?_;simp only [go_sem]
theorem toss2_ok {r : Ru} (h : RuG r) (most : Bool) : ACalls Try.prog 57 [sideP r most (tabF r most)] (i64 (tossS r most)):=by
 have hs:=h.s2
 have hG:=vis_tab h most (k:=0) h.e1 r.start.toNat (by omega)
 have hA:=hG.after most (left:=r.start.toNat) (by omega)
 rw [show ((r.start.toNat : Nat) : Int) = r.start by omega] at hA
 refine acalls_st (rs:=[i64 (tossS r most)]) [.tmp 2] Try.func57 rfl (by kernel_rfl) Try.ntmps57 rfl (by simp) rfl fun C vs=>?_
 repeat refine zq ?_
 refine zb fun K hK=>?_;simp only [go_sem];(try simp (disch:=omega) only [zI]);repeat first | intro _ | refine ⟨by omega,?_⟩
 refine hK _ ?_;clear hK K;refine zw (zk [0]) ?_;simp only [go_sem]
 repeat refine zq ?_
 refine zb fun K hK=>?_;simp only [go_sem];(try simp (disch:=omega) only [zI])
 refine zh (hA) rfl (by simp only [go_sem,i64,ints]) (by simp only [go_sem,i64,ints]) (by first | exact .inl rfl | exact .inr rfl) ?_
 (try simp only [go_sem]);(try simp (disch:=omega) only [zI]);repeat first | intro _ | refine ⟨by omega,?_⟩
 refine hK _ ?_;clear hK K;refine zw (zk [2]) ?_;simp only [go_sem];refine ze ?_;simp only [go_sem]
 rfl
abbrev tossV (r : Ru) (f : Bool → Int) : RV:=if ruE r = 0 then .ag [i64 (f false),i64 (f true)] else .ag [i64 0,i64 0]
theorem toss_ok (r : Ru) (hw : WfR r) : ACalls Try.prog 30 [ruV r] (.tu [tossV r (tossF r),tossV r (tossS r),i64 (ruE r)]):=by
 have hs:=sides_ok r hw
 refine acalls_st (rs:=[tossV r (tossF r),tossV r (tossS r),i64 (ruE r)]) [.cell 2 52,.cell 3 52,.tmp 4] Try.func30 rfl (by kernel_rfl) Try.ntmps30 rfl (by simp) rfl fun C vs=>?_
 repeat refine zq ?_
 refine zb fun K hK=>?_;simp only [go_sem];(try simp (disch:=omega) only [zI]);repeat first | intro _ | refine ⟨by omega,?_⟩
 refine hK _ ?_;clear hK K;refine zw (sub_frzP 1 1 (ruC r) (by omega) rfl rfl) ?_;refine zw (zk [1,2,3]) ?_;simp only [go_sem]
 by_cases h0 : ruE r = 0
 rotate_left
 · have e1 : sidesV r = .ag [.np,.np]:=if_neg h0
   have c : (ruE r != 0) = true:=by simpa using h0
   rw [e1] at hs
   repeat refine zq ?_
   refine zb fun K hK=>?_;simp only [go_sem];(try simp (disch:=omega) only [zI])
   refine zh (hs) rfl (by simp only [go_sem,i64,ints]) (by simp only [go_sem,i64,ints]) (by first | exact .inl rfl | exact .inr rfl) ?_
   (try simp only [go_sem]);(try simp (disch:=omega) only [zI]);repeat first | intro _ | refine ⟨by omega,?_⟩
   refine hK _ ?_;clear hK K;refine zw (zk [2,3,4,5]) ?_;simp only [go_sem]
   repeat refine zq ?_
   refine zb fun K hK=>?_;simp only [go_sem,c];(try simp (disch:=omega) only [zI]);repeat first | intro _ | refine ⟨by omega,?_⟩
   refine hK _ ?_;clear hK K;refine zw (zk [2,3,4,5,15]) ?_;simp only [go_sem]
   repeat refine zq ?_
   refine zc rfl (fun hc=>?_) (fun hc=>?_) <;> (try simp only [go_sem] at hc)
   repeat refine zq ?_
   refine zb fun K hK=>?_;simp only [go_sem];(try simp (disch:=omega) only [zI]);repeat first | intro _ | refine ⟨by omega,?_⟩
   refine hK _ ?_;clear hK K;refine zw (zk [2,3,4]) ?_;simp only [go_sem];refine ze ?_;simp only [go_sem];simp only [tossV,if_neg h0];exact ⟨rv_le _,rv_le _⟩
 have e1 : sidesV r = .ag [sideP r false (tabF r false),sideP r true (tabF r true)]:=if_pos h0
 obtain ⟨hG,hn1,_,_⟩:=ruG_of h0
 rw [e1,h0] at hs
 have hF0:=toss1_ok hG false
 have hF1:=toss1_ok hG true
 have hS0:=toss2_ok hG false
 have hS1:=toss2_ok hG true
 repeat refine zq ?_
 refine zb fun K hK=>?_;simp only [go_sem];(try simp (disch:=omega) only [zI])
 refine zh (hs) rfl (by simp only [go_sem,i64,ints]) (by simp only [go_sem,i64,ints]) (by first | exact .inl rfl | exact .inr rfl) ?_
 (try simp only [go_sem]);(try simp (disch:=omega) only [zI]);repeat first | intro _ | refine ⟨by omega,?_⟩
 refine hK _ ?_;clear hK K;refine zw (sub_frzP 5 5 [sideP r false (tabF r false),sideP r true (tabF r true)] (by omega) rfl rfl) ?_;refine zw (zk [2,3,4,5]) ?_;simp only [go_sem]
 repeat refine zq ?_
 refine zb fun K hK=>?_;simp only [go_sem,bne_self_eq_false];(try simp (disch:=omega) only [zI]);repeat first | intro _ | refine ⟨by omega,?_⟩
 refine hK _ ?_;clear hK K;refine zw (zk [2,3,4,5,15]) ?_;simp only [go_sem]
 repeat refine zq ?_
 refine zc rfl (fun hc=>?_) (fun hc=>?_) <;> (try simp only [go_sem] at hc)
 refine zx ?_
 try simp only [go_sem]
 repeat refine zq ?_
 refine zb fun K hK=>?_;simp only [go_sem];(try simp (disch:=omega) only [zI]);repeat first | intro _ | refine ⟨by omega,?_⟩
 refine hK _ ?_;clear hK K;refine zw (zk [2,3,5,6]) ?_;simp only [go_sem]
 repeat refine zq ?_
 refine zb fun K hK=>?_;simp only [go_sem];(try simp (disch:=omega) only [zI]);repeat first | intro _ | refine ⟨by omega,?_⟩
 refine hK _ ?_;clear hK K;refine zw (zk [2,3,5,22,23]) ?_;simp only [go_sem]
 repeat refine zq ?_
 refine zd ?_
 refine awp_uptoV (n:=43) 2 (fun i vs=>[(2,.pt 2 (vs 2) 0),(3,.pt 3 (vs 3) 0),(5,.r (.rp [sideP r false (tabF r false),sideP r true (tabF r true)])),(22,.ag [.pt 2 (vs 2) 0,.r (.fn 56 []),.pt 3 (vs 3) 0,.r (.fn 57 [])]),(23,.r (i64 (i : Int)))])
  (fun i vs=>[(2,.box [if 0 < i then .r (i64 (tossF r false)) else .r (i64 0),if 0 < i then .r (i64 (tossF r true)) else .r (i64 0)]),(3,.box [if 1 < i then .r (i64 (tossS r false)) else .r (i64 0),if 1 < i then .r (i64 (tossS r true)) else .r (i64 0)])]) (fun _=>True) 0 (zj [6] ?_ ?_) (Nat.zero_le _) trivial ?_
 · try simp only [go_sem]
   done
 · try simp only [go_sem]
   done
 · intro i vs hi _
   have h012 : i = 0 ∨ i = 1 ∨ i = 2:=by omega
   rcases h012 with rfl | rfl | rfl
   · repeat refine zq ?_
     refine zb fun K hK=>?_;simp only [go_sem];(try simp (disch:=omega) only [zI]);repeat first | intro _ | refine ⟨by omega,?_⟩
     refine hK _ ?_;clear hK K;refine zw (zk [2,3,5,22,23,24]) ?_;simp only [go_sem]
     repeat refine zq ?_
     refine zc rfl (fun hc=>?_) (fun hc=>?_) <;> (try simp only [go_sem] at hc)
     refine zx ?_
     try simp only [go_sem]
     repeat refine zq ?_
     refine zd ?_
     repeat refine zq ?_
     refine zb fun K hK=>?_;simp only [go_sem];(try simp (disch:=omega) only [zI]);repeat first | intro _ | refine ⟨by omega,?_⟩
     refine hK _ ?_;clear hK K;refine zw (zk [2,3,5,8,22,23]) ?_;simp only [go_sem]
     repeat refine zq ?_
     refine zg follows (by decide +kernel) (by kernel_rfl) fun K hK=>?_;simp only [go_sem];(try simp (disch:=omega) only [zI])
     refine zh (hF0) rfl (by simp only [go_sem,i64,ints]) (by simp only [go_sem,i64,ints]) (by first | exact .inl rfl | exact .inr rfl) ?_
     (try simp only [go_sem]);(try simp (disch:=omega) only [zI])
     refine zh (hF1) rfl (by simp only [go_sem,i64,ints]) (by simp only [go_sem,i64,ints]) (by first | exact .inl rfl | exact .inr rfl) ?_
     (try simp only [go_sem]);(try simp (disch:=omega) only [zI]);repeat first | intro _ | refine ⟨by omega,?_⟩
     refine hK _ ?_;clear hK K;refine zw (zk [2,3,5,22,23]) ?_;simp only [go_sem]
     repeat refine zq ?_
     refine zb fun K hK=>?_;simp only [go_sem];(try simp (disch:=omega) only [zI]);repeat first | intro _ | refine ⟨by omega,?_⟩
     refine hK _ ?_;clear hK K
     try simp only [go_sem]
     refine zj [8] ?_ ?_
     · try simp only [go_sem]
     · try simp only [go_sem]
   · repeat refine zq ?_
     refine zb fun K hK=>?_;simp only [go_sem];(try simp (disch:=omega) only [zI]);repeat first | intro _ | refine ⟨by omega,?_⟩
     refine hK _ ?_;clear hK K;refine zw (zk [2,3,5,22,23,24]) ?_;simp only [go_sem]
     repeat refine zq ?_
     refine zc rfl (fun hc=>?_) (fun hc=>?_) <;> (try simp only [go_sem] at hc)
     refine zx ?_
     try simp only [go_sem]
     repeat refine zq ?_
     refine zd ?_
     repeat refine zq ?_
     refine zb fun K hK=>?_;simp only [go_sem];(try simp (disch:=omega) only [zI]);repeat first | intro _ | refine ⟨by omega,?_⟩
     refine hK _ ?_;clear hK K;refine zw (zk [2,3,5,8,22,23]) ?_;simp only [go_sem]
     repeat refine zq ?_
     refine zg follows (by decide +kernel) (by kernel_rfl) fun K hK=>?_;simp only [go_sem];(try simp (disch:=omega) only [zI])
     refine zh (hS0) rfl (by simp only [go_sem,i64,ints]) (by simp only [go_sem,i64,ints]) (by first | exact .inl rfl | exact .inr rfl) ?_
     (try simp only [go_sem]);(try simp (disch:=omega) only [zI])
     refine zh (hS1) rfl (by simp only [go_sem,i64,ints]) (by simp only [go_sem,i64,ints]) (by first | exact .inl rfl | exact .inr rfl) ?_
     (try simp only [go_sem]);(try simp (disch:=omega) only [zI]);repeat first | intro _ | refine ⟨by omega,?_⟩
     refine hK _ ?_;clear hK K;refine zw (zk [2,3,5,22,23]) ?_;simp only [go_sem]
     repeat refine zq ?_
     refine zb fun K hK=>?_;simp only [go_sem];(try simp (disch:=omega) only [zI]);repeat first | intro _ | refine ⟨by omega,?_⟩
     refine hK _ ?_;clear hK K
     try simp only [go_sem]
     refine zj [8] ?_ ?_
     · try simp only [go_sem]
     · try simp only [go_sem]
   · repeat refine zq ?_
     refine zb fun K hK=>?_;simp only [go_sem];(try simp (disch:=omega) only [zI]);repeat first | intro _ | refine ⟨by omega,?_⟩
     refine hK _ ?_;clear hK K;refine zw (zk [2,3,5,22,23,24]) ?_;simp only [go_sem]
     repeat refine zq ?_
     refine zc rfl (fun hc=>?_) (fun hc=>?_) <;> (try simp only [go_sem] at hc)
     refine zf ?_;simp only [go_sem]
     repeat refine zq ?_
     refine zb fun K hK=>?_;simp only [go_sem];(try simp (disch:=omega) only [zI]);repeat first | intro _ | refine ⟨by omega,?_⟩
     refine hK _ ?_;clear hK K;refine zw (zk [2,3,4]) ?_;simp only [go_sem];refine ze ?_;simp only [go_sem];simp only [tossV,if_pos h0];exact ⟨rv_le _,rv_le _,h0.symm⟩
theorem grow_ok (q : Nat) (hq : 0 < q) (hq2 : q ≤ 1000000) : OCalls Try.prog 94 [.ns,i64 q] 3 1 (List.replicate q [i64 0]) 0:=by
 refine ocalls_st (n:=27) (.tmp 4) Try.func94 rfl (by kernel_rfl) Try.ntmps94 rfl (by simp) (fun e he=>by rw [List.eq_of_mem_replicate he]; rfl) fun C vs=>?_
 repeat refine zq ?_
 refine zb fun K hK=>?_;simp only [go_sem];(try simp (disch:=omega) only [zI]);repeat first | intro _ | refine ⟨by omega,?_⟩
 refine hK _ ?_;clear hK K
 repeat refine zq ?_
 refine zb fun K hK=>?_;simp only [go_sem];(try simp (disch:=omega) only [zI]);repeat first | intro _ | refine ⟨by omega,?_⟩
 refine hK _ ?_;clear hK K
 repeat refine zq ?_
 refine zc rfl (fun hc=>?_) (fun hc=>?_) <;> (try simp only [go_sem] at hc)
 · omega
 refine zx ?_
 try simp only [go_sem]
 repeat refine zq ?_
 refine zb fun K hK=>?_;simp only [go_sem];(try simp (disch:=omega) only [zI]);repeat first | intro _ | refine ⟨by omega,?_⟩
 refine hK _ ?_;clear hK K
 repeat refine zq ?_
 refine zb fun K hK=>?_;simp only [go_sem];(try simp (disch:=omega) only [zI]);repeat first | intro _ | refine ⟨by omega,?_⟩
 refine hK _ ?_;clear hK K
 repeat refine zq ?_
 refine zc rfl (fun hc=>?_) (fun hc=>?_) <;> (try simp only [go_sem] at hc)
 · repeat refine zq ?_
   refine zb fun K hK=>?_;simp only [go_sem];(try simp (disch:=omega) only [zI])
   refine ⟨⟨by omega,by omega,by omega⟩,?_⟩
   repeat first | intro _ | refine ⟨by omega,?_⟩
   refine hK _ ?_;clear hK K
   try simp only [go_sem]
   repeat refine zq ?_
   refine zb fun K hK=>?_;simp only [go_sem];(try simp (disch:=omega) only [zI]);repeat first | intro _ | refine ⟨by omega,?_⟩
   refine hK _ ?_;clear hK K;refine ze ?_;simp only [go_sem];exact ⟨_,_,rfl,rfl⟩
 · omega
theorem flat_take {T : List (List Int)} {i : Nat} {R : List Int} (h : T[i]? = some R) : (T.take (i + 1)).flatten = (T.take i).flatten ++ R:=by
 rw [List.take_add_one,h]; simp
theorem flat_le (T : List (List Int)) (i : Nat) : (T.take i).flatten.length ≤ T.flatten.length:=by
 have e : T.take i ++ T.drop i = T:=List.take_append_drop i T
 have:=congrArg (fun x=>x.flatten.length) e
 simp only [List.flatten_append,List.length_append] at this
 omega
theorem concat_ok (T : List (List Int)) (hne : ∀ R ∈ T,R ≠ []) (h0 : T ≠ []) (hl : T.length ≤ 1000) (hq : T.flatten.length ≤ 1000000) : ACalls Try.prog 78 [tabR T] (ints T.flatten):=by
 have hq0 : 0 < T.flatten.length:=by
  cases T with
  | nil=>exact absurd rfl h0
  | cons R T =>
    have:=List.length_pos_iff.2 (hne R (by simp))
    simp only [List.flatten_cons,List.length_append]; omega
 refine acalls_st (rs:=[ints T.flatten]) [.tmp 2] Try.func78 rfl (by kernel_rfl) Try.ntmps78 rfl (by simp) rfl fun C vs=>?_
 repeat refine zq ?_
 refine zb fun K hK=>?_;simp only [go_sem];(try simp (disch:=omega) only [zI]);repeat first | intro _ | refine ⟨by omega,?_⟩
 refine hK _ ?_;clear hK K;refine zw (zk [0]) ?_;simp only [go_sem]
 repeat refine zq ?_
 refine zb fun K hK=>?_;simp only [go_sem];(try simp (disch:=omega) only [zI]);repeat first | intro _ | refine ⟨by omega,?_⟩
 refine hK _ ?_;clear hK K;refine zw (zk [0,3]) ?_;simp only [go_sem]
 repeat refine zq ?_
 refine zb fun K hK=>?_;simp only [go_sem];(try simp (disch:=omega) only [zI])
 intro hl8
 repeat first | intro _ | refine ⟨by omega,?_⟩
 refine hK _ ?_;clear hK K;refine zw (zk [0,3,9,10,11]) ?_;simp only [go_sem]
 repeat refine zq ?_
 refine zd ?_
 refine awp_upto (n:=36) T.length (fun i vs=>[(0,.r (tabR T)),(3,.r (i64 (T.take i).flatten.length)),(9,.r (tabR T)),(10,.r (i64 T.length)),(11,.r (i64 i))])
  (fun i=>[]) (fun _=>True) 0 (fit_of [] ?_ ?_) (Nat.zero_le _) trivial ?_
 · try simp only [go_sem]
   rfl
 · try simp only [go_sem]
 · intro i vs hi _
   have hfl:=flat_le T i
   repeat refine zq ?_
   refine zb fun K hK=>?_;simp only [go_sem];(try simp (disch:=omega) only [zI]);repeat first | intro _ | refine ⟨by omega,?_⟩
   refine hK _ ?_;clear hK K;refine zw (zk [0,3,9,10,11,12]) ?_;simp only [go_sem]
   repeat refine zq ?_
   refine zc rfl (fun hc=>?_) (fun hc=>?_) <;> (try simp only [go_sem] at hc)
   · have hci : i < T.length:=by omega
     obtain ⟨R,hR⟩:=opt_of_lt hci
     have hft:=flat_take hR
     have hfl1:=flat_le T (i + 1)
     have hfl2 : (T.take (i + 1)).flatten.length = (T.take i).flatten.length + R.length:=by rw [hft,List.length_append]
     have hfn : decide (((T.take i).flatten.length : Int) + (R.length : Int) < 0) = false:=by simp; omega
     generalize (T.take i).flatten.length = m at *
     refine zx ?_
     try simp only [go_sem]
     repeat refine zq ?_
     refine zd ?_
     repeat refine zq ?_
     refine zb fun K hK=>?_;simp only [go_sem,hR,hci];(try simp (disch:=omega) only [zI]);repeat first | intro _ | refine ⟨by omega,?_⟩
     refine hK _ ?_;clear hK K;refine zw (zk [0,3,5,9,10,11]) ?_;simp only [go_sem]
     repeat refine zq ?_
     refine zb fun K hK=>?_;simp only [go_sem];(try simp (disch:=omega) only [zI])
     intro hR8
     repeat first | intro _ | refine ⟨by omega,?_⟩
     refine hK _ ?_;clear hK K;refine zw (zk [0,3,9,10,11]) ?_;simp only [go_sem]
     repeat refine zq ?_
     refine zb fun K hK=>?_;simp only [go_sem,hfn];(try simp (disch:=omega) only [zI]);repeat first | intro _ | refine ⟨by omega,?_⟩
     refine hK _ ?_;clear hK K;refine zw (zk [0,3,9,10,11,20]) ?_;simp only [go_sem]
     repeat refine zq ?_
     refine zc rfl (fun hc=>?_) (fun hc=>?_) <;> (try simp only [go_sem] at hc)
     refine zx ?_
     try simp only [go_sem]
     repeat refine zq ?_
     refine zb fun K hK=>?_;simp only [go_sem];(try simp (disch:=omega) only [zI]);repeat first | intro _ | refine ⟨by omega,?_⟩
     refine hK _ ?_;clear hK K
     try simp only [go_sem]
     refine ⟨by omega,fit_of [] ?_ ?_⟩
     · try simp only [go_sem]
       omega
     · try simp only [go_sem]
   · have hil : i = T.length:=by omega
     rw [hil,List.take_length]
     refine zf ?_;simp only [go_sem]
     repeat refine zq ?_
     refine zb fun K hK=>?_;simp only [go_sem];(try simp (disch:=omega) only [zI])
     refine xcall_own (grow_ok T.flatten.length hq0 hq) rfl (by simp only [go_sem,i64,ints]) (by simp only [go_sem,i64,ints]) (by decide) (by intro h; first | (cases h; done) | rfl) ?_
     (try simp only [go_sem]);(try simp (disch:=omega) only [zI]);repeat first | intro _ | refine ⟨by omega,?_⟩
     refine hK _ ?_;clear hK K;refine zw (zk [0,6]) ?_;simp only [go_sem]
     repeat refine zq ?_
     refine zb fun K hK=>?_;simp only [go_sem];(try simp (disch:=omega) only [zI]);repeat first | intro _ | refine ⟨by omega,?_⟩
     refine hK _ ?_;clear hK K;refine zw (zk [6,25,26,27]) ?_;simp only [go_sem]
     repeat refine zq ?_
     refine zd ?_
     refine awp_uptoV (n:=36) T.length (fun i vs=>[(6,.os 24 (vs 24) 1 0 (T.take i).flatten.length),(25,.r (tabR T)),(26,.r (i64 T.length)),(27,.r (i64 i))])
      (fun i vs=>[(24,.arr 3 1 ((T.take i).flatten.map (fun x=>[i64 x]) ++ List.replicate (T.flatten.length - (T.take i).flatten.length) [i64 0]))]) (fun _=>True) 0 (zj [] ?_ ?_) (Nat.zero_le _) trivial ?_
     · try simp only [go_sem]
       rfl
     · try simp only [go_sem]
       rfl
     · intro i vs hi _
       have hfl:=flat_le T i
       repeat refine zq ?_
       refine zb fun K hK=>?_;simp only [go_sem];(try simp (disch:=omega) only [zI]);repeat first | intro _ | refine ⟨by omega,?_⟩
       refine hK _ ?_;clear hK K;refine zw (zk [6,25,26,27,28]) ?_;simp only [go_sem]
       repeat refine zq ?_
       refine zc rfl (fun hc=>?_) (fun hc=>?_) <;> (try simp only [go_sem] at hc)
       · have hci : i < T.length:=by omega
         obtain ⟨R,hR⟩:=opt_of_lt hci
         have hR0:=List.length_pos_iff.2 (hne R (mem_of_opt hR))
         have hft:=flat_take hR
         have hfl1:=flat_le T (i + 1)
         have hfl2 : (T.take (i + 1)).flatten.length = (T.take i).flatten.length + R.length:=by rw [hft,List.length_append]
         have hfl3 : ((T.take i).flatten.map (fun x=>[i64 x])).length = (T.take i).flatten.length:=by rw [List.length_map]
         have hnew : ((T.take i).flatten.map (fun x=>[i64 x]) ++ List.replicate (T.flatten.length - (T.take i).flatten.length) [i64 0]).take (T.take i).flatten.length ++ ((R.map fun x=>[i64 x]) ++ ((T.take i).flatten.map (fun x=>[i64 x]) ++ List.replicate (T.flatten.length - (T.take i).flatten.length) [i64 0]).drop ((T.take i).flatten.length + R.length))
          = (T.take (i + 1)).flatten.map (fun x=>[i64 x]) ++ List.replicate (T.flatten.length - (T.take (i + 1)).flatten.length) [i64 0]:=by
          rw [List.take_append_of_le_length (by omega),List.take_of_length_le (by omega),List.drop_append,List.drop_eq_nil_of_le (by omega),hft,List.map_append,List.append_assoc,List.nil_append,List.drop_replicate,hfl3,List.length_append]
          congr 3
          omega
         have hesl : ((T.take i).flatten.map (fun x=>[i64 x]) ++ List.replicate (T.flatten.length - (T.take i).flatten.length) [i64 0]).length = T.flatten.length:=by
          rw [List.length_append,hfl3,List.length_replicate]; omega
         generalize (T.take i).flatten.map (fun x=>[i64 x]) ++ List.replicate (T.flatten.length - (T.take i).flatten.length) [i64 0] = es at hnew hesl ⊢
         generalize hm : (T.take i).flatten.length = m at *
         have hme : (m = T.flatten.length) = False:=by
          have : ¬ m = T.flatten.length:=by omega
          simp only [this]
         have hmR : m + R.length ≤ T.flatten.length:=by omega
         refine zx ?_
         try simp only [go_sem]
         repeat refine zq ?_
         refine zd ?_
         repeat refine zq ?_
         refine zb fun K hK=>?_;simp only [go_sem,hR,hci];(try simp (disch:=omega) only [zI]);repeat first | intro _ | refine ⟨by omega,?_⟩
         refine hK _ ?_;clear hK K;refine zw (zk [6,8,25,26,27]) ?_;simp only [go_sem]
         repeat refine zq ?_
         refine zb fun K hK=>?_;simp only [go_sem,hesl,hme,hmR];(try simp (disch:=omega) only [zI]);repeat first | intro _ | refine ⟨by omega,?_⟩
         refine hK _ ?_;clear hK K;refine zw (zk [6,25,26,27]) ?_;simp only [go_sem]
         repeat refine zq ?_
         refine zb fun K hK=>?_;simp only [go_sem];(try simp (disch:=omega) only [zI]);repeat first | intro _ | refine ⟨by omega,?_⟩
         refine hK _ ?_;clear hK K
         try simp only [go_sem]
         refine ⟨by omega,zj [] ?_ ?_⟩
         · try simp only [go_sem]
           rw [hfl2]
         · try simp only [go_sem]
           rw [← hnew]
           try rfl
       · have hil2 : i = T.length:=by omega
         subst hil2
         have e0 : ((T.take T.length).flatten.map (fun x=>[i64 x]) ++ List.replicate (T.flatten.length - (T.take T.length).flatten.length) [i64 0]) = T.flatten.map fun x=>[i64 x]:=by
          rw [List.take_length]; simp
         rw [e0]
         refine zf ?_;simp only [go_sem];refine zw (sub_frz (ty:=3) (sz:=1) (off:=0) (m:=(T.take T.length).flatten.length) (es:=T.flatten.map fun x=>[i64 x]) 6 24 (by omega) (by try simp only [go_sem]) (by try simp only [go_sem]) (by rw [List.take_length,List.length_map]; omega)) ?_
         have e2 : ((T.flatten.map fun x=>[i64 x]).drop 0).take (T.take T.length).flatten.length = T.flatten.map fun x=>[i64 x]:=by
          rw [List.take_length,List.drop_zero,List.take_of_length_le (by rw [List.length_map]; exact Nat.le_refl _)]
         rw [e2]
         refine zw (zk [6]) ?_;simp only [go_sem]
         repeat refine zq ?_
         refine zb fun K hK=>?_;simp only [go_sem];(try simp (disch:=omega) only [zI]);repeat first | intro _ | refine ⟨by omega,?_⟩
         refine hK _ ?_;clear hK K;refine zw (zk [2]) ?_;simp only [go_sem];refine ze ?_;simp only [go_sem]
def rowOk (r : Ru) (row : List Int) : Bool:=decide (row.length = r.start.toNat + 1) && withinL 0 0 (row.take (lowestR r).toNat)
def formE (r : Ru) (T : List (List Int)) : Int :=
 if T.length = r.ends.length then (if T.all (rowOk r) = true then (if withinL 0 1000000 T.flatten = true then 0 else 2) else 4) else 4
theorem all_take_succ {α : Type} {l : List α} {i : Nat} {x : α} {p : α → Bool} (h : l[i]? = some x) : (l.take (i + 1)).all p = ((l.take i).all p && p x):=by
 rw [List.take_add_one,h]; simp [List.all_append]
theorem all_bad {α : Type} {l : List α} {i : Nat} {x : α} {p : α → Bool} (h : l[i]? = some x) (hp : p x = false) : l.all p = false:=by
 rw [List.all_eq_false]
 exact ⟨x,List.mem_of_getElem? h,by simp [hp]⟩
theorem form_ok {r : Ru} (h : RuG r) (T : List (List Int)) : ACalls Try.prog 53 [ruV r,tabR T] (i64 (formE r T)):=by
 have h10:=h.h10
 have hn1:=h.e1
 have hs2:=h.s2
 have hs40:=h.s40
 have hlow : lowestR r = 1 ∨ lowestR r = 2:=by unfold lowestR; split <;> simp
 have hlo:=dlowest_ok r
 have hw1 : IntKind.i64.wrap (r.start + 1) = r.start + 1:=by rw [zI] <;> omega
 refine acalls_st (rs:=[i64 (formE r T)]) [.tmp 4] Try.func53 rfl (by kernel_rfl) Try.ntmps53 rfl (by simp) rfl fun C vs=>?_
 repeat refine zq ?_
 refine zb fun K hK=>?_;simp only [go_sem];(try simp (disch:=omega) only [zI]);repeat first | intro _ | refine ⟨by omega,?_⟩
 refine hK _ ?_;clear hK K;refine zw (sub_frzP 2 2 (ruC r) (by omega) rfl rfl) ?_;refine zw (zk [1,2]) ?_;simp only [go_sem]
 by_cases hn : T.length = r.ends.length
 rotate_left
 · have c : ((T.length : Int) != (r.ends.length : Int)) = true:=by simp; omega
   repeat refine zq ?_
   refine zb fun K hK=>?_;simp only [go_sem,c];(try simp (disch:=omega) only [zI])
   repeat intro _
   repeat first | intro _ | refine ⟨by omega,?_⟩
   refine hK _ ?_;clear hK K;refine zw (zk [1,2,13]) ?_;simp only [go_sem]
   repeat refine zq ?_
   refine zc rfl (fun hc=>?_) (fun hc=>?_) <;> (try simp only [go_sem] at hc)
   repeat refine zq ?_
   refine zb fun K hK=>?_;simp only [go_sem];(try simp (disch:=omega) only [zI]);repeat first | intro _ | refine ⟨by omega,?_⟩
   refine hK _ ?_;clear hK K;refine zw (zk [4]) ?_;simp only [go_sem];refine ze ?_;simp only [go_sem];simp only [formE,if_neg hn]
 have c : ((T.length : Int) != (r.ends.length : Int)) = false:=by simp; omega
 have hF : formE r T = if T.all (rowOk r) = true then (if withinL 0 1000000 T.flatten = true then 0 else 2) else 4:=by simp only [formE,if_pos hn]
 repeat refine zq ?_
 refine zb fun K hK=>?_;simp only [go_sem,c];(try simp (disch:=omega) only [zI])
 repeat intro _
 repeat first | intro _ | refine ⟨by omega,?_⟩
 refine hK _ ?_;clear hK K;refine zw (zk [1,2,13]) ?_;simp only [go_sem]
 repeat refine zq ?_
 refine zc rfl (fun hc=>?_) (fun hc=>?_) <;> (try simp only [go_sem] at hc)
 refine zx ?_
 try simp only [go_sem]
 repeat refine zq ?_
 refine zb fun K hK=>?_;simp only [go_sem];(try simp (disch:=omega) only [zI])
 intro hl8
 repeat first | intro _ | refine ⟨by omega,?_⟩
 refine hK _ ?_;clear hK K;refine zw (zk [1,2,14,15,16]) ?_;simp only [go_sem]
 repeat refine zq ?_
 refine zd ?_
 refine awp_upto (n:=40) T.length (fun i vs=>[(1,.r (tabR T)),(2,.r (.rp (ruC r))),(14,.r (tabR T)),(15,.r (i64 T.length)),(16,.r (i64 i))])
  (fun i=>[]) (fun i=>(T.take i).all (rowOk r) = true) 0 (fit_of [] ?_ ?_) (Nat.zero_le _) (by simp) ?_
 · try simp only [go_sem]
 · try simp only [go_sem]
 · intro i vs hi hI
   repeat refine zq ?_
   refine zb fun K hK=>?_;simp only [go_sem];(try simp (disch:=omega) only [zI]);repeat first | intro _ | refine ⟨by omega,?_⟩
   refine hK _ ?_;clear hK K;refine zw (zk [1,2,14,15,16,17]) ?_;simp only [go_sem]
   repeat refine zq ?_
   refine zc rfl (fun hc=>?_) (fun hc=>?_) <;> (try simp only [go_sem] at hc)
   · have hci : i < T.length:=by omega
     obtain ⟨row,hrow⟩:=opt_of_lt hci
     have hts:=all_take_succ (p:=rowOk r) hrow
     rw [hI,Bool.true_and] at hts
     have hbad:=fun hb : rowOk r row = false=>all_bad hrow hb
     refine zx ?_
     try simp only [go_sem]
     repeat refine zq ?_
     refine zd ?_
     repeat refine zq ?_
     refine zb fun K hK=>?_;simp only [go_sem,hrow,hci];(try simp (disch:=omega) only [zI]);repeat first | intro _ | refine ⟨by omega,?_⟩
     refine hK _ ?_;clear hK K;refine zw (zk [1,2,6,14,15,16]) ?_;simp only [go_sem]
     by_cases hlen : row.length = r.start.toNat + 1
     rotate_left
     · have c2 : ((row.length : Int) != r.start + 1) = true:=by simp; omega
       have hb:=hbad (by simp [rowOk,hlen])
       repeat refine zq ?_
       refine zb fun K hK=>?_;simp only [go_sem,hw1,c2];(try simp (disch:=omega) only [zI])
       repeat intro _
       repeat first | intro _ | refine ⟨by omega,?_⟩
       refine hK _ ?_;clear hK K;refine zw (zk [1,2,14,15,16,34]) ?_;simp only [go_sem]
       repeat refine zq ?_
       refine zc rfl (fun hc=>?_) (fun hc=>?_) <;> (try simp only [go_sem] at hc)
       repeat refine zq ?_
       refine zb fun K hK=>?_;simp only [go_sem];(try simp (disch:=omega) only [zI]);repeat first | intro _ | refine ⟨by omega,?_⟩
       refine hK _ ?_;clear hK K;refine zw (zk [4]) ?_;simp only [go_sem];refine ze ?_;simp only [go_sem]
       rw [hF,hb]; rfl
     have c2 : ((row.length : Int) != r.start + 1) = false:=by simp; omega
     have hll : lowestR r ≤ (row.length : Int):=by omega
     have hl0 : 0 ≤ lowestR r:=by omega
     have hwi:=dwithin_ok 0 0 (row.take (lowestR r).toNat)
     cases hz : withinL 0 0 (row.take (lowestR r).toNat)
     · rw [hz] at hwi
       have hb:=hbad (by simp [rowOk,hz])
       repeat refine zq ?_
       refine zb fun K hK=>?_;simp only [go_sem,hw1,c2];(try simp (disch:=omega) only [zI])
       repeat intro _
       refine zh (hlo) rfl (by simp only [go_sem,i64,ints,hw1,c2]) (by simp only [go_sem,i64,ints,hw1,c2]) (by first | exact .inl rfl | exact .inr rfl) ?_
       (try simp only [go_sem,hw1,c2]);(try simp (disch:=omega) only [zI])
       refine ⟨⟨hl0,hll⟩,?_⟩
       refine zh (hwi) rfl (by simp only [go_sem,i64,ints,hw1,c2,List.map_take]) (by simp only [go_sem,i64,ints,hw1,c2,List.map_take]) (by first | exact .inl rfl | exact .inr rfl) ?_
       (try simp only [go_sem,hw1,c2,List.map_take]);(try simp (disch:=omega) only [zI]);repeat first | intro _ | refine ⟨by omega,?_⟩
       refine hK _ ?_;clear hK K;refine zw (zk [1,2,14,15,16,34]) ?_;simp only [go_sem]
       repeat refine zq ?_
       refine zc rfl (fun hc=>?_) (fun hc=>?_) <;> (try simp only [go_sem] at hc)
       repeat refine zq ?_
       refine zb fun K hK=>?_;simp only [go_sem];(try simp (disch:=omega) only [zI]);repeat first | intro _ | refine ⟨by omega,?_⟩
       refine hK _ ?_;clear hK K;refine zw (zk [4]) ?_;simp only [go_sem];refine ze ?_;simp only [go_sem]
       rw [hF,hb]; rfl
     · rw [hz] at hwi
       have hb : rowOk r row = true:=by simp [rowOk,hz,hlen]
       repeat refine zq ?_
       refine zb fun K hK=>?_;simp only [go_sem,hw1,c2];(try simp (disch:=omega) only [zI])
       repeat intro _
       refine zh (hlo) rfl (by simp only [go_sem,i64,ints,hw1,c2]) (by simp only [go_sem,i64,ints,hw1,c2]) (by first | exact .inl rfl | exact .inr rfl) ?_
       (try simp only [go_sem,hw1,c2]);(try simp (disch:=omega) only [zI])
       refine ⟨⟨hl0,hll⟩,?_⟩
       refine zh (hwi) rfl (by simp only [go_sem,i64,ints,hw1,c2,List.map_take]) (by simp only [go_sem,i64,ints,hw1,c2,List.map_take]) (by first | exact .inl rfl | exact .inr rfl) ?_
       (try simp only [go_sem,hw1,c2,List.map_take]);(try simp (disch:=omega) only [zI]);repeat first | intro _ | refine ⟨by omega,?_⟩
       refine hK _ ?_;clear hK K;refine zw (zk [1,2,14,15,16,34]) ?_;simp only [go_sem]
       repeat refine zq ?_
       refine zc rfl (fun hc=>?_) (fun hc=>?_) <;> (try simp only [go_sem] at hc)
       refine zx ?_
       try simp only [go_sem]
       repeat refine zq ?_
       refine zb fun K hK=>?_;simp only [go_sem];(try simp (disch:=omega) only [zI]);repeat first | intro _ | refine ⟨by omega,?_⟩
       refine hK _ ?_;clear hK K
       try simp only [go_sem]
       refine ⟨by omega,by rw [hts,hb],fit_of [] ?_ ?_⟩
       · try simp only [go_sem]
       · try simp only [go_sem]
   · have hil : i = T.length:=by omega
     rw [hil,List.take_length] at hI
     have hrl : ∀ row ∈ T,row.length = r.start.toNat + 1:=fun row hr=>by
      have:=List.all_eq_true.1 hI row hr
      simp only [rowOk,Bool.and_eq_true,decide_eq_true_eq] at this
      exact this.1
     have hfl:=length_flatten hrl
     have hm : T.length * (r.start.toNat + 1) ≤ 10 * 41:=Nat.mul_le_mul (by omega) (by omega)
     have hcc:=concat_ok T (fun R hR h0=>by have:=hrl R hR; rw [h0] at this; simp at this) (by intro h0; rw [h0] at hn; simp at hn; omega) (by omega) (by omega)
     have hwi:=dwithin_ok 0 1000000 T.flatten
     refine zf ?_;simp only [go_sem]
     cases hz : withinL 0 1000000 T.flatten
     · rw [hz] at hwi
       repeat refine zq ?_
       refine zb fun K hK=>?_;simp only [go_sem];(try simp (disch:=omega) only [zI])
       refine zh (hcc) rfl (by simp only [go_sem,i64,ints]) (by simp only [go_sem,i64,ints]) (by first | exact .inl rfl | exact .inr rfl) ?_
       (try simp only [go_sem]);(try simp (disch:=omega) only [zI])
       refine zh (hwi) rfl (by simp only [go_sem,i64,ints]) (by simp only [go_sem,i64,ints]) (by first | exact .inl rfl | exact .inr rfl) ?_
       (try simp only [go_sem]);(try simp (disch:=omega) only [zI]);repeat first | intro _ | refine ⟨by omega,?_⟩
       refine hK _ ?_;clear hK K;refine zw (zk [39]) ?_;simp only [go_sem]
       repeat refine zq ?_
       refine zc rfl (fun hc=>?_) (fun hc=>?_) <;> (try simp only [go_sem] at hc)
       repeat refine zq ?_
       refine zb fun K hK=>?_;simp only [go_sem];(try simp (disch:=omega) only [zI]);repeat first | intro _ | refine ⟨by omega,?_⟩
       refine hK _ ?_;clear hK K;refine zw (zk [4]) ?_;simp only [go_sem];refine ze ?_;simp only [go_sem]
       rw [hF,hI,hz]; rfl
     · rw [hz] at hwi
       repeat refine zq ?_
       refine zb fun K hK=>?_;simp only [go_sem];(try simp (disch:=omega) only [zI])
       refine zh (hcc) rfl (by simp only [go_sem,i64,ints]) (by simp only [go_sem,i64,ints]) (by first | exact .inl rfl | exact .inr rfl) ?_
       (try simp only [go_sem]);(try simp (disch:=omega) only [zI])
       refine zh (hwi) rfl (by simp only [go_sem,i64,ints]) (by simp only [go_sem,i64,ints]) (by first | exact .inl rfl | exact .inr rfl) ?_
       (try simp only [go_sem]);(try simp (disch:=omega) only [zI]);repeat first | intro _ | refine ⟨by omega,?_⟩
       refine hK _ ?_;clear hK K;refine zw (zk [39]) ?_;simp only [go_sem]
       repeat refine zq ?_
       refine zc rfl (fun hc=>?_) (fun hc=>?_) <;> (try simp only [go_sem] at hc)
       refine zx ?_
       try simp only [go_sem]
       repeat refine zq ?_
       refine zb fun K hK=>?_;simp only [go_sem];(try simp (disch:=omega) only [zI]);repeat first | intro _ | refine ⟨by omega,?_⟩
       refine hK _ ?_;clear hK K;refine zw (zk [4]) ?_;simp only [go_sem];refine ze ?_;simp only [go_sem]
       rw [hF,hI,hz]; rfl
def scan (bad : Nat → Bool) : Nat → Nat → Option Nat
 | _,0=>none
 | s,m + 1=>if bad s then some s else scan bad (s + 1) m
def scan2 (f : Nat → Option Nat) : Nat → Nat → Option (Nat × Nat)
 | _,0=>none
 | k,m + 1=>match f k with | some s=>some (k,s) | none=>scan2 f (k + 1) m
theorem scan_step {bad : Nat → Bool} {s N : Nat} (h : s < N) : scan bad s (N - s) = if bad s then some s else scan bad (s + 1) (N - (s + 1)):=by
 rw [show N - s = (N - (s + 1)) + 1 by omega,scan]
theorem scan2_step {f : Nat → Option Nat} {k N : Nat} (h : k < N) : scan2 f k (N - k) = match f k with | some s=>some (k,s) | none=>scan2 f (k + 1) (N - (k + 1)):=by
 rw [show N - k = (N - (k + 1)) + 1 by omega,scan2]
def badP (r : Ru) (most : Bool) (T : List (List Int)) (k s : Nat) : Bool :=
 if most then decide ((T.getD k []).getD s 0 < valV r most T k s 3 s) else decide (valV r most T k s 3 s < (T.getD k []).getD s 0)
def badK (r : Ru) (most : Bool) (T : List (List Int)) (k : Nat) : Option Nat:=scan (badP r most T k) (lowestR r).toNat (r.start.toNat + 1 - (lowestR r).toNat)
def provesO (r : Ru) (most : Bool) (T : List (List Int)) : Option (Nat × Nat):=scan2 (badK r most T) 0 (T.length - 0)
def pvK : Option (Nat × Nat) → Int
 | some (k,_)=>k
 | none=>0
def pvS : Option (Nat × Nat) → Int
 | some (_,s)=>s
 | none=>0
theorem form_spec {r : Ru} {T : List (List Int)} (h : formE r T = 0) : T.length = r.ends.length ∧ (∀ row ∈ T,row.length = r.start.toNat + 1 ∧ ∀ x ∈ row,0 ≤ x ∧ x ≤ 1000000):=by
 unfold formE at h
 split at h
 · rename_i hn
   split at h
   · rename_i hr
     split at h
     · rename_i hw
       refine ⟨hn,fun row hrow=>⟨?_,fun x hx=>?_⟩⟩
       · have:=List.all_eq_true.1 hr row hrow
         simp only [rowOk,Bool.and_eq_true,decide_eq_true_eq] at this
         exact this.1
       · have:=List.all_eq_true.1 hw x (List.mem_flatten.2 ⟨row,hrow,hx⟩)
         simpa using this
     · cases h
   · cases h
 · cases h
theorem vis_form {r : Ru} {T : List (List Int)} (h : RuG r) (hf : formE r T = 0) {k s : Nat} (hk : k < r.ends.length) (hs : (s : Int) ≤ r.start) : VisG r T k s:=by
 obtain ⟨h1,h2⟩:=form_spec hf
 refine ⟨hk,h.h10,h.ends,hs,h.s40,fun left hl=>?_⟩
 by_cases hk1 : k + 1 < r.ends.length
 · obtain ⟨row,hrow⟩:=opt_of_lt (show k + 1 < T.length by omega)
   obtain ⟨g1,g2⟩:=h2 row (mem_of_opt hrow)
   obtain ⟨v,hv⟩:=opt_of_lt (show left < row.length by rw [g1]; omega)
   exact ⟨row,v,fun _=>⟨hrow,hv,g2 v (mem_of_opt hv)⟩⟩
 · exact ⟨[],0,fun h=>absurd h hk1⟩
def provesE (r : Ru) (T : List (List Int)) : Int:=if ruE r = 0 then formE r T else ruE r
def provesR (r : Ru) (most : Bool) (T : List (List Int)) : RV :=
 if provesE r T = 0 then .tu [.bo (provesO r most T).isNone,i64 (pvK (provesO r most T)),i64 (pvS (provesO r most T)),i64 0] else .tu [.bo false,i64 0,i64 0,i64 (provesE r T)]
theorem proves_ok (r : Ru) (hw : WfR r) (most : Bool) (T : List (List Int)) : ACalls Try.prog 27 [ruV r,tabR T,.bo most] (provesR r most T):=by
 have hch:=dcheck_ok r hw
 by_cases h0 : ruE r = 0
 rotate_left
 · have e : provesE r T = ruE r:=by rw [provesE,if_neg h0]
   have eR : provesR r most T = .tu [.bo false,i64 0,i64 0,i64 (ruE r)]:=by rw [provesR,e,if_neg h0]
   have c : (ruE r != 0) = true:=by simpa using h0
   rw [eR]
   refine acalls_st (rs:=[.bo false,i64 0,i64 0,i64 (ruE r)]) [.tmp 6,.tmp 7,.tmp 8,.tmp 9] Try.func27 rfl (by kernel_rfl) Try.ntmps27 rfl (by simp) rfl fun C vs=>?_
   repeat refine zq ?_
   refine zb fun K hK=>?_;simp only [go_sem];(try simp (disch:=omega) only [zI]);repeat first | intro _ | refine ⟨by omega,?_⟩
   refine hK _ ?_;clear hK K;refine zw (sub_frzP 3 3 (ruC r) (by omega) rfl rfl) ?_;refine zw (zk [1,2,3]) ?_;simp only [go_sem]
   repeat refine zq ?_
   refine zb fun K hK=>?_;simp only [go_sem];(try simp (disch:=omega) only [zI])
   refine zh (hch) rfl (by simp only [go_sem,i64,ints]) (by simp only [go_sem,i64,ints]) (by first | exact .inl rfl | exact .inr rfl) ?_
   (try simp only [go_sem]);(try simp (disch:=omega) only [zI]);repeat first | intro _ | refine ⟨by omega,?_⟩
   refine hK _ ?_;clear hK K;refine zw (zk [1,2,3,10]) ?_;simp only [go_sem]
   repeat refine zq ?_
   refine zb fun K hK=>?_;simp only [go_sem,c];(try simp (disch:=omega) only [zI]);repeat first | intro _ | refine ⟨by omega,?_⟩
   refine hK _ ?_;clear hK K;refine zw (zk [1,2,3,10,20]) ?_;simp only [go_sem]
   repeat refine zq ?_
   refine zc rfl (fun hc=>?_) (fun hc=>?_) <;> (try simp only [go_sem] at hc)
   repeat refine zq ?_
   refine zb fun K hK=>?_;simp only [go_sem];(try simp (disch:=omega) only [zI]);repeat first | intro _ | refine ⟨by omega,?_⟩
   refine hK _ ?_;clear hK K;refine zw (zk [6,7,8,9]) ?_;simp only [go_sem];refine ze ?_;simp only [go_sem]
 have e : provesE r T = formE r T:=by rw [provesE,if_pos h0]
 obtain ⟨hG,_⟩:=ruG_of h0
 have hfo:=form_ok hG T
 rw [h0] at hch
 by_cases hf : formE r T = 0
 rotate_left
 · have eR : provesR r most T = .tu [.bo false,i64 0,i64 0,i64 (formE r T)]:=by rw [provesR,e,if_neg hf]
   have c : (formE r T != 0) = true:=by simpa using hf
   rw [eR]
   refine acalls_st (rs:=[.bo false,i64 0,i64 0,i64 (formE r T)]) [.tmp 6,.tmp 7,.tmp 8,.tmp 9] Try.func27 rfl (by kernel_rfl) Try.ntmps27 rfl (by simp) rfl fun C vs=>?_
   repeat refine zq ?_
   refine zb fun K hK=>?_;simp only [go_sem];(try simp (disch:=omega) only [zI]);repeat first | intro _ | refine ⟨by omega,?_⟩
   refine hK _ ?_;clear hK K;refine zw (sub_frzP 3 3 (ruC r) (by omega) rfl rfl) ?_;refine zw (zk [1,2,3]) ?_;simp only [go_sem]
   repeat refine zq ?_
   refine zb fun K hK=>?_;simp only [go_sem];(try simp (disch:=omega) only [zI])
   refine zh (hch) rfl (by simp only [go_sem,i64,ints]) (by simp only [go_sem,i64,ints]) (by first | exact .inl rfl | exact .inr rfl) ?_
   (try simp only [go_sem]);(try simp (disch:=omega) only [zI]);repeat first | intro _ | refine ⟨by omega,?_⟩
   refine hK _ ?_;clear hK K;refine zw (zk [1,2,3,10]) ?_;simp only [go_sem]
   repeat refine zq ?_
   refine zb fun K hK=>?_;simp only [go_sem,bne_self_eq_false];(try simp (disch:=omega) only [zI]);repeat first | intro _ | refine ⟨by omega,?_⟩
   refine hK _ ?_;clear hK K;refine zw (zk [1,2,3,10,20]) ?_;simp only [go_sem]
   repeat refine zq ?_
   refine zc rfl (fun hc=>?_) (fun hc=>?_) <;> (try simp only [go_sem] at hc)
   refine zx ?_
   try simp only [go_sem]
   repeat refine zq ?_
   refine zb fun K hK=>?_;simp only [go_sem];(try simp (disch:=omega) only [zI]);repeat first | intro _ | refine ⟨by omega,?_⟩
   refine hK _ ?_;clear hK K;refine zw (sub_frzP 11 27 (sideC r most T) (by omega) rfl rfl) ?_;refine zw (zk [1,2,3,11]) ?_;simp only [go_sem]
   repeat refine zq ?_
   refine zb fun K hK=>?_;simp only [go_sem];(try simp (disch:=omega) only [zI])
   refine zh (hfo) rfl (by simp only [go_sem,i64,ints]) (by simp only [go_sem,i64,ints]) (by first | exact .inl rfl | exact .inr rfl) ?_
   (try simp only [go_sem]);(try simp (disch:=omega) only [zI]);repeat first | intro _ | refine ⟨by omega,?_⟩
   refine hK _ ?_;clear hK K;refine zw (zk [1,2,3,11,12]) ?_;simp only [go_sem]
   repeat refine zq ?_
   refine zb fun K hK=>?_;simp only [go_sem,c];(try simp (disch:=omega) only [zI]);repeat first | intro _ | refine ⟨by omega,?_⟩
   refine hK _ ?_;clear hK K;refine zw (zk [1,2,3,11,12,35]) ?_;simp only [go_sem]
   repeat refine zq ?_
   refine zc rfl (fun hc=>?_) (fun hc=>?_) <;> (try simp only [go_sem] at hc)
   repeat refine zq ?_
   refine zb fun K hK=>?_;simp only [go_sem];(try simp (disch:=omega) only [zI]);repeat first | intro _ | refine ⟨by omega,?_⟩
   refine hK _ ?_;clear hK K;refine zw (zk [6,7,8,9]) ?_;simp only [go_sem];refine ze ?_;simp only [go_sem]
 have eR : provesR r most T = .tu [.bo (provesO r most T).isNone,i64 (pvK (provesO r most T)),i64 (pvS (provesO r most T)),i64 0]:=by rw [provesR,e,if_pos hf]
 rw [eR]
 rw [hf] at hfo
 obtain ⟨hTn,hTr⟩:=form_spec hf
 have h10:=hG.h10
 have hs2:=hG.s2
 have hs40:=hG.s40
 have hlow : lowestR r = 1 ∨ lowestR r = 2:=by unfold lowestR; split <;> simp
 have hlo:=dlowest_ok r
 refine acalls_st (rs:=[.bo (provesO r most T).isNone,i64 (pvK (provesO r most T)),i64 (pvS (provesO r most T)),i64 0]) [.tmp 6,.tmp 7,.tmp 8,.tmp 9] Try.func27 rfl (by kernel_rfl) Try.ntmps27 rfl (by simp) rfl fun C vs=>?_
 repeat refine zq ?_
 refine zb fun K hK=>?_;simp only [go_sem];(try simp (disch:=omega) only [zI]);repeat first | intro _ | refine ⟨by omega,?_⟩
 refine hK _ ?_;clear hK K;refine zw (sub_frzP 3 3 (ruC r) (by omega) rfl rfl) ?_;refine zw (zk [1,2,3]) ?_;simp only [go_sem]
 repeat refine zq ?_
 refine zb fun K hK=>?_;simp only [go_sem];(try simp (disch:=omega) only [zI])
 refine zh (hch) rfl (by simp only [go_sem,i64,ints]) (by simp only [go_sem,i64,ints]) (by first | exact .inl rfl | exact .inr rfl) ?_
 (try simp only [go_sem]);(try simp (disch:=omega) only [zI]);repeat first | intro _ | refine ⟨by omega,?_⟩
 refine hK _ ?_;clear hK K;refine zw (zk [1,2,3,10]) ?_;simp only [go_sem]
 repeat refine zq ?_
 refine zb fun K hK=>?_;simp only [go_sem,bne_self_eq_false];(try simp (disch:=omega) only [zI]);repeat first | intro _ | refine ⟨by omega,?_⟩
 refine hK _ ?_;clear hK K;refine zw (zk [1,2,3,10,20]) ?_;simp only [go_sem]
 repeat refine zq ?_
 refine zc rfl (fun hc=>?_) (fun hc=>?_) <;> (try simp only [go_sem] at hc)
 refine zx ?_
 try simp only [go_sem]
 repeat refine zq ?_
 refine zb fun K hK=>?_;simp only [go_sem];(try simp (disch:=omega) only [zI]);repeat first | intro _ | refine ⟨by omega,?_⟩
 refine hK _ ?_;clear hK K;refine zw (sub_frzP 11 27 (sideC r most T) (by omega) rfl rfl) ?_;refine zw (zk [1,2,3,11]) ?_;simp only [go_sem]
 repeat refine zq ?_
 refine zb fun K hK=>?_;simp only [go_sem];(try simp (disch:=omega) only [zI])
 refine zh (hfo) rfl (by simp only [go_sem,i64,ints]) (by simp only [go_sem,i64,ints]) (by first | exact .inl rfl | exact .inr rfl) ?_
 (try simp only [go_sem]);(try simp (disch:=omega) only [zI]);repeat first | intro _ | refine ⟨by omega,?_⟩
 refine hK _ ?_;clear hK K;refine zw (zk [1,2,3,11,12]) ?_;simp only [go_sem]
 repeat refine zq ?_
 refine zb fun K hK=>?_;simp only [go_sem,bne_self_eq_false];(try simp (disch:=omega) only [zI]);repeat first | intro _ | refine ⟨by omega,?_⟩
 refine hK _ ?_;clear hK K;refine zw (zk [1,2,3,11,12,35]) ?_;simp only [go_sem]
 repeat refine zq ?_
 refine zc rfl (fun hc=>?_) (fun hc=>?_) <;> (try simp only [go_sem] at hc)
 refine zx ?_
 try simp only [go_sem]
 repeat refine zq ?_
 refine zb fun K hK=>?_;simp only [go_sem];(try simp (disch:=omega) only [zI])
 intro hl8
 repeat first | intro _ | refine ⟨by omega,?_⟩
 refine hK _ ?_;clear hK K;refine zw (zk [2,3,11,37,38,39]) ?_;simp only [go_sem]
 repeat refine zq ?_
 refine zd ?_
 refine awp_upto (n:=72) T.length (fun i vs=>[(2,.r (.bo most)),(3,.r (.rp (ruC r))),(11,.r (sideP r most T)),(37,.r (tabR T)),(38,.r (i64 T.length)),(39,.r (i64 i))])
  (fun i=>[]) (fun i=>provesO r most T = scan2 (badK r most T) i (T.length - i)) 0 (fit_of [] ?_ ?_) (Nat.zero_le _) rfl ?_
 · try simp only [go_sem]
 · try simp only [go_sem]
 · intro i vs hi hI
   repeat refine zq ?_
   refine zb fun K hK=>?_;simp only [go_sem];(try simp (disch:=omega) only [zI]);repeat first | intro _ | refine ⟨by omega,?_⟩
   refine hK _ ?_;clear hK K;refine zw (zk [2,3,11,37,38,39,40]) ?_;simp only [go_sem]
   repeat refine zq ?_
   refine zc rfl (fun hc=>?_) (fun hc=>?_) <;> (try simp only [go_sem] at hc)
   · have hci : i < T.length:=by omega
     obtain ⟨row,hrow⟩:=opt_of_lt hci
     obtain ⟨hrl,hrv⟩:=hTr row (mem_of_opt hrow)
     rw [scan2_step hci] at hI
     refine zx ?_
     try simp only [go_sem]
     repeat refine zq ?_
     refine zd ?_
     repeat refine zq ?_
     refine zb fun K hK=>?_;simp only [go_sem,hrow,hci];(try simp (disch:=omega) only [zI]);repeat first | intro _ | refine ⟨by omega,?_⟩
     refine hK _ ?_;clear hK K;refine zw (zk [2,3,11,13,14,37,38,39]) ?_;simp only [go_sem]
     repeat refine zq ?_
     refine zb fun K hK=>?_;simp only [go_sem];(try simp (disch:=omega) only [zI])
     refine zh (hlo) rfl (by simp only [go_sem,i64,ints]) (by simp only [go_sem,i64,ints]) (by first | exact .inl rfl | exact .inr rfl) ?_
     (try simp only [go_sem]);(try simp (disch:=omega) only [zI]);repeat first | intro _ | refine ⟨by omega,?_⟩
     refine hK _ ?_;clear hK K;refine zw (zk [2,3,11,13,14,15,37,38,39]) ?_;simp only [go_sem]
     repeat refine zq ?_
     refine zd ?_
     refine awp_upto (n:=72) (r.start.toNat + 1) (fun s vs=>[(2,.r (.bo most)),(3,.r (.rp (ruC r))),(11,.r (sideP r most T)),(13,.r (i64 i)),(14,.r (ints row)),(15,.r (i64 s)),(37,.r (tabR T)),(38,.r (i64 T.length)),(39,.r (i64 i))])
      (fun s=>[]) (fun s=>lowestR r ≤ s ∧ badK r most T i = scan (badP r most T i) s (r.start.toNat + 1 - s)) (lowestR r).toNat (fit_of [] ?_ ?_) (by omega) ⟨by omega,rfl⟩ ?_
     · try simp only [go_sem]
       omega
     · try simp only [go_sem]
     · intro s vs hs hJ
       obtain ⟨hJ1,hJ2⟩:=hJ
       repeat refine zq ?_
       refine zb fun K hK=>?_;simp only [go_sem];(try simp (disch:=omega) only [zI]);repeat first | intro _ | refine ⟨by omega,?_⟩
       refine hK _ ?_;clear hK K;refine zw (zk [2,3,11,13,14,15,37,38,39,52]) ?_;simp only [go_sem]
       repeat refine zq ?_
       refine zc rfl (fun hc=>?_) (fun hc=>?_) <;> (try simp only [go_sem] at hc)
       · have hcs : s < row.length:=by omega
         have hss : (s : Int) ≤ r.start:=by omega
         obtain ⟨x,hx⟩:=opt_of_lt hcs
         have hx1:=hrv x (mem_of_opt hx)
         have hG2:=vis_form hG hf (k:=i) (s:=s) (by omega) hss
         have hwh:=whole_ok most hG2 hG.aims (by omega)
         have hvl:=valV_le (most:=most) hG2 hG.aims 3 s hss
         rw [scan_step (by omega)] at hJ2
         have gx : (T.getD i []).getD s 0 = x:=by simp [List.getD,hrow,hx]
         have hB : badP r most T i s = if most then decide (x < valV r most T i s 3 s) else decide (valV r most T i s 3 s < x):=by unfold badP; rw [gx]
         generalize valV r most T i s 3 s = v at hwh hB hvl
         have hdw : IntKind.i64.wrap (x - v) = x - v:=by rw [zI] <;> omega
         have hnw : IntKind.i64.wrap (0 - (x - v)) = v - x:=by rw [zI] <;> omega
         refine zx ?_
         try simp only [go_sem]
         repeat refine zq ?_
         refine zd ?_
         repeat refine zq ?_
         refine zg follows (by decide +kernel) (by kernel_rfl) fun K hK=>?_;simp only [go_sem,hx,hcs,hdw];(try simp (disch:=omega) only [zI])
         refine zh (hwh) rfl (by simp only [go_sem,i64,ints,hx,hcs,hdw]) (by simp only [go_sem,i64,ints,hx,hcs,hdw]) (by first | exact .inl rfl | exact .inr rfl) ?_
         (try simp only [go_sem,hx,hcs,hdw]);(try simp (disch:=omega) only [zI]);repeat first | intro _ | refine ⟨by omega,?_⟩
         refine hK _ ?_;clear hK K;refine zw (zk [2,3,11,13,14,15,16,37,38,39]) ?_;simp only [go_sem]
         cases hb : badP r most T i s
         · rw [hb] at hJ2
           rw [hb] at hB
           cases most
           · simp only [Bool.false_eq_true,if_false] at hB
             have hvx : ¬ v < x:=by simpa using hB.symm
             have d1 : decide (0 < x - v) = false:=by simp; omega
             repeat refine zq ?_
             refine zb fun K hK=>?_;simp only [go_sem];(try simp (disch:=omega) only [zI]);repeat first | intro _ | refine ⟨by omega,?_⟩
             refine hK _ ?_;clear hK K;refine zw (zk [2,3,11,13,14,15,16,37,38,39,64]) ?_;simp only [go_sem]
             repeat refine zq ?_
             refine zc rfl (fun hc=>?_) (fun hc=>?_) <;> (try simp only [go_sem] at hc)
             refine zx ?_
             try simp only [go_sem]
             repeat refine zq ?_
             refine zb fun K hK=>?_;simp only [go_sem,d1];(try simp (disch:=omega) only [zI]);repeat first | intro _ | refine ⟨by omega,?_⟩
             refine hK _ ?_;clear hK K;refine zw (zk [2,3,11,13,14,15,37,38,39,68]) ?_;simp only [go_sem]
             repeat refine zq ?_
             refine zc rfl (fun hc=>?_) (fun hc=>?_) <;> (try simp only [go_sem] at hc)
             refine zx ?_
             try simp only [go_sem]
             repeat refine zq ?_
             refine zb fun K hK=>?_;simp only [go_sem];(try simp (disch:=omega) only [zI]);repeat first | intro _ | refine ⟨by omega,?_⟩
             refine hK _ ?_;clear hK K
             try simp only [go_sem]
             refine ⟨by omega,⟨by omega,hJ2⟩,fit_of [] ?_ ?_⟩
             · try simp only [go_sem]
             · try simp only [go_sem]
           · simp only [if_true] at hB
             have hvx : ¬ x < v:=by simpa using hB.symm
             have d1 : decide (0 < v - x) = false:=by simp; omega
             repeat refine zq ?_
             refine zb fun K hK=>?_;simp only [go_sem];(try simp (disch:=omega) only [zI]);repeat first | intro _ | refine ⟨by omega,?_⟩
             refine hK _ ?_;clear hK K;refine zw (zk [2,3,11,13,14,15,16,37,38,39,64]) ?_;simp only [go_sem]
             repeat refine zq ?_
             refine zc rfl (fun hc=>?_) (fun hc=>?_) <;> (try simp only [go_sem] at hc)
             repeat refine zq ?_
             refine zb fun K hK=>?_;simp only [go_sem,hnw];(try simp (disch:=omega) only [zI]);repeat first | intro _ | refine ⟨by omega,?_⟩
             refine hK _ ?_;clear hK K;refine zw (zk [2,3,11,13,14,15,16,37,38,39]) ?_;simp only [go_sem]
             repeat refine zq ?_
             refine zb fun K hK=>?_;simp only [go_sem,d1];(try simp (disch:=omega) only [zI]);repeat first | intro _ | refine ⟨by omega,?_⟩
             refine hK _ ?_;clear hK K;refine zw (zk [2,3,11,13,14,15,37,38,39,68]) ?_;simp only [go_sem]
             repeat refine zq ?_
             refine zc rfl (fun hc=>?_) (fun hc=>?_) <;> (try simp only [go_sem] at hc)
             refine zx ?_
             try simp only [go_sem]
             repeat refine zq ?_
             refine zb fun K hK=>?_;simp only [go_sem];(try simp (disch:=omega) only [zI]);repeat first | intro _ | refine ⟨by omega,?_⟩
             refine hK _ ?_;clear hK K
             try simp only [go_sem]
             refine ⟨by omega,⟨by omega,hJ2⟩,fit_of [] ?_ ?_⟩
             · try simp only [go_sem]
             · try simp only [go_sem]
         · rw [hb,if_pos rfl] at hJ2
           rw [hb] at hB
           have hP : provesO r most T = some (i,s):=by rw [hI,hJ2]
           rw [hP]
           cases most
           · simp only [Bool.false_eq_true,if_false] at hB
             have hvx : v < x:=by simpa using hB.symm
             have d1 : decide (0 < x - v) = true:=by simp; omega
             repeat refine zq ?_
             refine zb fun K hK=>?_;simp only [go_sem];(try simp (disch:=omega) only [zI]);repeat first | intro _ | refine ⟨by omega,?_⟩
             refine hK _ ?_;clear hK K;refine zw (zk [2,3,11,13,14,15,16,37,38,39,64]) ?_;simp only [go_sem]
             repeat refine zq ?_
             refine zc rfl (fun hc=>?_) (fun hc=>?_) <;> (try simp only [go_sem] at hc)
             refine zx ?_
             try simp only [go_sem]
             repeat refine zq ?_
             refine zb fun K hK=>?_;simp only [go_sem,d1];(try simp (disch:=omega) only [zI]);repeat first | intro _ | refine ⟨by omega,?_⟩
             refine hK _ ?_;clear hK K;refine zw (zk [2,3,11,13,14,15,37,38,39,68]) ?_;simp only [go_sem]
             repeat refine zq ?_
             refine zc rfl (fun hc=>?_) (fun hc=>?_) <;> (try simp only [go_sem] at hc)
             repeat refine zq ?_
             refine zb fun K hK=>?_;simp only [go_sem];(try simp (disch:=omega) only [zI]);repeat first | intro _ | refine ⟨by omega,?_⟩
             refine hK _ ?_;clear hK K;refine zw (zk [6,7,8,9]) ?_;simp only [go_sem];refine ze ?_;simp only [go_sem]
             simp [pvK,pvS]
           · simp only [if_true] at hB
             have hvx : x < v:=by simpa using hB.symm
             have d1 : decide (0 < v - x) = true:=by simp; omega
             repeat refine zq ?_
             refine zb fun K hK=>?_;simp only [go_sem];(try simp (disch:=omega) only [zI]);repeat first | intro _ | refine ⟨by omega,?_⟩
             refine hK _ ?_;clear hK K;refine zw (zk [2,3,11,13,14,15,16,37,38,39,64]) ?_;simp only [go_sem]
             repeat refine zq ?_
             refine zc rfl (fun hc=>?_) (fun hc=>?_) <;> (try simp only [go_sem] at hc)
             repeat refine zq ?_
             refine zb fun K hK=>?_;simp only [go_sem,hnw];(try simp (disch:=omega) only [zI]);repeat first | intro _ | refine ⟨by omega,?_⟩
             refine hK _ ?_;clear hK K;refine zw (zk [2,3,11,13,14,15,16,37,38,39]) ?_;simp only [go_sem]
             repeat refine zq ?_
             refine zb fun K hK=>?_;simp only [go_sem,d1];(try simp (disch:=omega) only [zI]);repeat first | intro _ | refine ⟨by omega,?_⟩
             refine hK _ ?_;clear hK K;refine zw (zk [2,3,11,13,14,15,37,38,39,68]) ?_;simp only [go_sem]
             repeat refine zq ?_
             refine zc rfl (fun hc=>?_) (fun hc=>?_) <;> (try simp only [go_sem] at hc)
             repeat refine zq ?_
             refine zb fun K hK=>?_;simp only [go_sem];(try simp (disch:=omega) only [zI]);repeat first | intro _ | refine ⟨by omega,?_⟩
             refine hK _ ?_;clear hK K;refine zw (zk [6,7,8,9]) ?_;simp only [go_sem];refine ze ?_;simp only [go_sem]
             simp [pvK,pvS]
       · have hsl : s = r.start.toNat + 1:=by omega
         have hnone : badK r most T i = none:=by rw [hJ2,hsl,Nat.sub_self,scan]
         rw [hnone] at hI
         refine zf ?_;simp only [go_sem]
         repeat refine zq ?_
         refine zb fun K hK=>?_;simp only [go_sem];(try simp (disch:=omega) only [zI]);repeat first | intro _ | refine ⟨by omega,?_⟩
         refine hK _ ?_;clear hK K
         try simp only [go_sem]
         refine ⟨by omega,hI,fit_of [] ?_ ?_⟩
         · try simp only [go_sem]
         · try simp only [go_sem]
   · have hil : i = T.length:=by omega
     rw [hil,Nat.sub_self,scan2] at hI
     rw [hI]
     refine zf ?_;simp only [go_sem]
     repeat refine zq ?_
     refine zb fun K hK=>?_;simp only [go_sem];(try simp (disch:=omega) only [zI]);repeat first | intro _ | refine ⟨by omega,?_⟩
     refine hK _ ?_;clear hK K;refine zw (zk [6,7,8,9]) ?_;simp only [go_sem];refine ze ?_;simp only [go_sem]
     simp [pvK,pvS]
theorem rules_ok (r : Ru) (hlen : r.aims.length ≤ 1000000) (hends : r.ends.length ≤ 1000000) (hb : ∀ a ∈ r.aims,a.beds.length ≤ 1000000) : ACalls Try.prog 14 [ruV r] (ruV r):=by
 refine acalls_st (rs:=[ruV r]) [.cell 2 28] Try.func14 rfl (by kernel_rfl) Try.ntmps14 rfl (by simp) rfl fun C vs=>?_
 repeat refine zq ?_
 refine zb fun K hK=>?_;simp only [go_sem];(try simp (disch:=omega) only [zI]);repeat first | intro _ | refine ⟨by omega,?_⟩
 refine hK _ ?_;clear hK K;refine zw (sub_frzP 1 1 (ruC r) (by omega) rfl rfl) ?_;refine zw (zk [1,2]) ?_;simp only [go_sem]
 repeat refine zq ?_
 refine zb fun K hK=>?_;simp only [go_sem];(try simp (disch:=omega) only [zI]);repeat first | intro _ | refine ⟨by omega,?_⟩
 refine hK _ ?_;clear hK K;refine zw (zk [1,2,3]) ?_;simp only [go_sem]
 repeat refine zq ?_
 refine zb fun K hK=>?_;simp only [go_sem];(try simp (disch:=omega) only [zI]);repeat first | intro _ | refine ⟨by omega,?_⟩
 refine hK _ ?_;clear hK K;refine zw (sub_frzB 3 4 10 (ty:=52) (sz:=2) (off:=0) (m:=r.ends.length) (es:=r.ends.map spanR) (by omega) (by omega) rfl (by simp only [go_sem,List.getElem?_cons_succ,List.getElem?_cons_zero]) (by rfl) (by simp)) ?_
 have e1 : ((r.ends.map spanR).drop 0).take r.ends.length = r.ends.map spanR:=by
  rw [List.drop_zero,List.take_of_length_le (by simp)]
 rw [e1]
 refine zw (zk [1,2,3]) ?_;simp only [go_sem];refine zw (sub_ownB 3 1 38 78 2 (by omega) (by omega) rfl (by simp only [go_sem,List.getElem?_cons_succ,List.getElem?_cons_zero])) ?_
 try simp only [go_sem]
 repeat refine zq ?_
 refine zb fun K hK=>?_;simp only [go_sem];(try simp (disch:=omega) only [zI]);repeat first | intro _ | refine ⟨by omega,?_⟩
 refine hK _ ?_;clear hK K;refine zw (zk [1,2,3,4]) ?_;simp only [go_sem]
 repeat refine zq ?_
 refine zd ?_
 refine awp_uptoV (n:=42) r.aims.length (fun i vs=>[(1,.r (.rp (ruC r))),(2,.pt 2 (vs 2) 0),(3,.pt 3 (vs 3) 0),(4,.r (i64 (i : Int)))])
  (fun i vs=>[(2,.box [.r (i64 0),.r .ns,.r (i64 0),.r (i64 0),.r .ns]),(3,.box [.r (i64 r.d),.os 38 (vs 38) 2 0 i,.r (i64 r.start),.r (i64 r.out),.r (spansR r.ends)]),(38,.arr 78 2 ((r.aims.take i).map aimR))]) (fun _=>True) 0 (zj [] ?_ ?_) (Nat.zero_le _) trivial ?_
 · try simp only [go_sem]
 · try simp only [go_sem]
 · intro i vs hi _
   repeat refine zq ?_
   refine zb fun K hK=>?_;simp only [go_sem];(try simp (disch:=omega) only [zI]);repeat first | intro _ | refine ⟨by omega,?_⟩
   refine hK _ ?_;clear hK K;refine zw (zk [1,2,3,4,19]) ?_;simp only [go_sem]
   repeat refine zq ?_
   refine zc rfl (fun hc=>?_) (fun hc=>?_) <;> (try simp only [go_sem] at hc)
   · have hci : i < r.aims.length:=by omega
     obtain ⟨a,ha⟩:=opt_of_lt hci
     have hal:=hb a (mem_of_opt ha)
     have hli : ((r.aims.take i).map aimR).length = i:=by rw [List.length_map,List.length_take]; omega
     have htk : (r.aims.take (i + 1)).map aimR = (r.aims.take i).map aimR ++ [aimR a]:=by rw [take_of_opt ha]; simp
     refine zx ?_
     try simp only [go_sem]
     repeat refine zq ?_
     refine zd ?_
     repeat refine zq ?_
     refine zb fun K hK=>?_;simp only [go_sem,ha,hci,aimR];(try simp (disch:=omega) only [zI]);repeat first | intro _ | refine ⟨by omega,?_⟩
     refine hK _ ?_;clear hK K;refine zw (zk [1,2,3,4,5]) ?_;simp only [go_sem]
     repeat refine zq ?_
     refine zb fun K hK=>?_;simp only [go_sem];(try simp (disch:=omega) only [zI]);repeat first | intro _ | refine ⟨by omega,?_⟩
     refine hK _ ?_;clear hK K;refine zw (sub_frzB 5 1 31 (ty:=90) (sz:=3) (off:=0) (m:=a.beds.length) (es:=a.beds.map bedR) (by omega) (by omega) rfl (by simp only [go_sem,List.getElem?_cons_succ,List.getElem?_cons_zero]) (by rfl) (by simp)) ?_
     have e2 : ((a.beds.map bedR).drop 0).take a.beds.length = a.beds.map bedR:=by
      rw [List.drop_zero,List.take_of_length_le (by simp)]
     rw [e2]
     refine zw (zk [1,2,3,4,5]) ?_;simp only [go_sem]
     repeat refine zq ?_
     refine zb fun K hK=>?_;simp only [go_sem,hli];(try simp (disch:=omega) only [zI]);repeat first | intro _ | refine ⟨by omega,?_⟩
     refine hK _ ?_;clear hK K;refine zw (zk [1,2,3,4]) ?_;simp only [go_sem]
     repeat refine zq ?_
     refine zb fun K hK=>?_;simp only [go_sem];(try simp (disch:=omega) only [zI]);repeat first | intro _ | refine ⟨by omega,?_⟩
     refine hK _ ?_;clear hK K
     try simp only [go_sem]
     refine ⟨by omega,zj [5] ?_ ?_⟩
     · try simp only [go_sem]
     · try simp only [go_sem]
       rw [htk]
       rfl
   · have hil : i = r.aims.length:=by omega
     subst hil
     rw [List.take_length]
     refine zf ?_;simp only [go_sem];refine zw (sub_frzB 3 1 38 (ty:=78) (sz:=2) (off:=0) (m:=r.aims.length) (es:=r.aims.map aimR) (by omega) (by omega) rfl (by simp only [go_sem,List.getElem?_cons_succ,List.getElem?_cons_zero]) (by rfl) (by simp)) ?_
     have e2 : ((r.aims.map aimR).drop 0).take r.aims.length = r.aims.map aimR:=by
      rw [List.drop_zero,List.take_of_length_le (by simp)]
     rw [e2]
     refine zw (zk [2,3]) ?_;simp only [go_sem]
     repeat refine zq ?_
     refine zb fun K hK=>?_;simp only [go_sem];(try simp (disch:=omega) only [zI]);repeat first | intro _ | refine ⟨by omega,?_⟩
     refine hK _ ?_;clear hK K;refine zw (zk [2]) ?_;simp only [go_sem];refine ze ?_;simp only [go_sem]
def halfR (ends : List Sp) : Ru:=⟨2,[⟨201,[⟨0,1,1⟩,⟨201,1,1⟩]⟩],2,1,ends ++ [(1000000,1000000)]⟩
end Go.Proofs.Ytlbfkhikmigpbaa
