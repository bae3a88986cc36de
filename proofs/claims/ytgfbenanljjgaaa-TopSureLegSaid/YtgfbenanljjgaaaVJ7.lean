/- Part 7 of the texts of this claim. -/
import Derived.Test.YtgfbenanljjgaaaVJ6
set_option linter.unusedSimpArgs false
set_option linter.unusedVariables false
namespace Go.Oc
open Go Go.RowKit
def unl (listed : Array Bool) : Nat → Nat
 | 0=>0
 | m + 1=>unl listed m + if listed.getD m true then 0 else 1
theorem getD_setT {listed : Array Bool} {i j : Nat} : (listed.setIfInBounds i true).getD j true = if j = i then true else listed.getD j true:=by
 split
 · rename_i e
   subst e
   simp only [Array.getD_eq_getD_getElem?,Array.getElem?_setIfInBounds]
   split
   · split <;> simp_all
   · simp_all
 · rename_i e
   simp only [Array.getD_eq_getD_getElem?,Array.getElem?_setIfInBounds];rw [if_neg (fun h=>e h.symm)]
theorem unl_same {listed : Array Bool} {i : Nat} : ∀ m,m ≤ i → unl (listed.setIfInBounds i true) m = unl listed m
 | 0,_=>rfl
 | m + 1, h => by
   have e2 : m ≠ i:=by omega
   have e3:=unl_same (listed:=listed) (i:=i) m (by omega)
   simp only [unl,getD_setT,e3,if_neg e2]
theorem unl_set {listed : Array Bool} {i : Nat} (hi : listed.getD i true = false) : ∀ m,i < m → unl (listed.setIfInBounds i true) m + 1 = unl listed m
 | 0,h=>by omega
 | m + 1, h => by
   simp only [unl,getD_setT]
   by_cases e : i = m
   · subst e
     rw [unl_same _ (Nat.le_refl _)]
     simp [hi]
   · have:=unl_set hi m (by omega)
     have e2 : m ≠ i:=fun h=>e h.symm
     rw [if_neg e2]
     omega
theorem unl_zero {listed : Array Bool} : ∀ m,unl listed m = 0 → ∀ j,j < m → listed.getD j true = true
 | 0,_,j,h=>by omega
 | m + 1, h, j, hj => by
   simp only [unl] at h
   by_cases e : j = m
   · subst e
     by_cases hx : listed.getD j true = true
     · exact hx
     · simp [hx] at h
   · exact unl_zero m (by omega) j (by omega)
def stepAll (P : Program) (ops : Array Oper) (n : Nat) (F : (Nat → Bool) → (Nat → Nat) → List (Nat × AV)) (R : (Nat → Bool) → (Nat → Nat) → List (Nat × RowC)) : Nat → List Oper → Prop
 | _,[]=>True
 | k,o :: rest=>(∀ b vs,(∀ j e,j < ops.size → (deps ops j).contains e = true → b j = true → b e = true) → b k = false → (∀ e ∈ deps ops k,b e = true) →
  xop P false o (FitV n (F (upd b k true)) (R (upd b k true))) (st n (F b vs) vs (R b vs))) ∧ stepAll P ops n F R (k + 1) rest
theorem stepAll_get {P : Program} {ops : Array Oper} {n : Nat} {F : (Nat → Bool) → (Nat → Nat) → List (Nat × AV)} {R : (Nat → Bool) → (Nat → Nat) → List (Nat × RowC)} : ∀ {l : List Oper} {k i : Nat} {o : Oper},stepAll P ops n F R k l → l[i]? = some o →
 ∀ b vs, (∀ j e, j < ops.size → (deps ops j).contains e = true → b j = true → b e = true) → b (k + i) = false → (∀ e ∈ deps ops (k + i), b e = true) →
   xop P false o (FitV n (F (upd b (k + i) true)) (R (upd b (k + i) true))) (st n (F b vs) vs (R b vs))
 | [],_,_,_,_,h=>by simp at h
 | x :: l, k, 0, o, hs, h => by
   simp only [List.getElem?_cons_zero,Option.some.injEq] at h
   subst h
   exact hs.1
 | x :: l, k, i + 1, o, hs, h => by
   have:=stepAll_get (k:=k + 1) (i:=i) hs.2 (by simpa using h)
   rwa [show k + 1 + i = k + (i + 1) by omega] at this
def upOk (ops : Array Oper) : Bool:=(List.range ops.size).all fun j=>(deps ops j).all fun e=>decide (e < j)
section
variable {P : Program} {C : Ctx} {s : AS} {a : Act} {w : World} {ops : Array Oper}
theorem ready_nil {listed : Array Bool} (hu : upOk ops = true) (h : Region.ready .any ops listed = []) (hsz : listed.size = ops.size) : ∀ j,j < ops.size → listed.getD j true = true:=by
 intro j
 induction j using Nat.strongRecOn with
 | _ j ih =>
   intro hj
   by_cases hx : listed.getD j true = true
   · exact hx
   · exfalso
     have ho : ops[j]? = some ops[j]:=Array.getElem?_eq_getElem hj
     have hr : j ∈ Region.ready .any ops listed:=by
      refine mem_ready.2 ⟨by simpa using hx,ops[j],ho,fun e he hb=>?_⟩
      have hm : e.on ∈ deps ops j:=by unfold deps;rw [ho];exact List.mem_map.2 ⟨e,List.mem_filter.2 ⟨by simpa using he,hb⟩,rfl⟩
      have hlt:=List.all_eq_true.1 (List.all_eq_true.1 hu j (by simpa using hj)) e.on hm
      simp only [decide_eq_true_eq] at hlt
      have:=ih e.on hlt (by omega)
      have h2 : e.on < listed.size:=by omega
      simpa [h2] using this
     rw [h] at hr
     cases hr
theorem inv_any {Q : AS → Prop} {Q' : Exit → Act → World → Prop} (hQ : ∀ s a w,Q s → SRel C s a w → Q' .normal a w) {n : Nat} {F : (Nat → Bool) → (Nat → Nat) → List (Nat × AV)} {R : (Nat → Bool) → (Nat → Nat) → List (Nat × RowC)}
 (hd : dstOk ops n = true) (hg : ops.all (fun o=>o.guard.isNone) = true) (hu : upOk ops = true) (hstep : stepAll P ops n F R 0 ops.toList)
 (hend : ∀ b vs,(∀ j,b j = true) → Q (st n (F b vs) vs (R b vs))) :
 ∀ (fuel : Nat) (vs : Nat → Nat) (listed : Array Bool) (a : Act) (w : World), listed.size = ops.size → down ops listed → unl listed ops.size ≤ fuel → SRel C (st n (F (fun j => listed.getD j true) vs) vs (R (fun j => listed.getD j true) vs)) a w →
   wpAnyIn (fnc C.rd) 0 P .any ops Q' fuel listed a w:=by
 have all : ∀ {listed : Array Bool},listed.size = ops.size → (∀ j,j < ops.size → listed.getD j true = true) → ∀ j,(fun j=>listed.getD j true) j = true:=fun {listed} hsz h j=>by
  by_cases hj : j < ops.size
  · exact h j hj
  · show listed.getD j true = true
    have : ¬ j < listed.size:=by omega
    simp [this]
 intro fuel
 induction fuel with
 | zero =>
   intro vs listed a w hsz hdn hf hs
   have h0:=unl_zero (listed:=listed) ops.size (by omega)
   refine ⟨List.eq_nil_iff_forall_not_mem.2 fun j hj=>?_,hQ _ _ _ (hend _ _ (all hsz h0)) hs⟩
   obtain ⟨h1,o,ho,_⟩:=mem_ready.1 hj
   have:=h0 j (Array.getElem?_eq_some_iff.1 ho).1
   rw [this] at h1
   cases h1
 | succ fuel ih =>
   intro vs listed a w hsz hdn hf hs
   refine ⟨fun h0=>hQ _ _ _ (hend _ _ (all hsz (ready_nil hu h0 hsz))) hs,fun i hi=>?_⟩
   obtain ⟨hi1,o,ho,hall⟩:=mem_ready.1 hi
   unfold wpOpIn
   rw [ho]
   simp only
   have hil : i < ops.size:=(Array.getElem?_eq_some_iff.1 ho).1
   have hgo : o.guard = none:=by
    have:=Array.all_eq_true_iff_forall_mem.1 hg o (Array.mem_of_getElem? ho)
    simpa using this
   obtain ⟨p,hp⟩:=hs
   rw [if_pos (wantA_sound hp (by simp [wantA,hgo]))]
   have hx:=stepAll_get (k:=0) (i:=i) hstep (by rw [Array.getElem?_toList];exact ho) (fun j=>listed.getD j true) vs (fun j e hj he hb=>?_) (by rw [Nat.zero_add];exact hi1) (fun e he=>?_)
   · rw [Nat.zero_add] at hx
     refine xop_sound hp hx (dstOk_get hd ho) (fun a' w' p' s' hs' hn hK=>?_) (dstOk_nd hd ho)
     obtain ⟨vs',hsub⟩:=hK
     have e : upd (fun j=>listed.getD j true) i true = fun j=>(listed.setIfInBounds i true).getD j true:=by
      funext j
      rw [getD_setT]
      rfl
     rw [e] at hsub
     exact ih vs' _ a' w' (by simpa using hsz) (down_set hdn hi) (by have:=unl_set hi1 ops.size hil;omega) (hsub C a' w' ⟨p',hs'⟩)
   · have hjs : j < listed.size:=by omega
     have hb' : listed.getD j true = true:=hb
     have h2:=hdn j (by simpa [hjs] using hb') e (by simpa using he)
     show listed.getD e true = true
     by_cases hes : e < listed.size
     · simpa [hes] using h2
     · simp [hes]
   · have h2:=ready_deps hi e (by simpa using he)
     show listed.getD e true = true
     by_cases hes : e < listed.size
     · simpa [hes] using h2
     · simp [hes]
end
theorem awp_inv {P : Program} {C : Ctx} {id : Nat} {l : List Oper} {n : Nat} {Q : Exit → AS → Prop} {s : AS} (F : (Nat → Bool) → (Nat → Nat) → List (Nat × AV)) (R : (Nat → Bool) → (Nat → Nat) → List (Nat × RowC)) (hm : P.follows .mixedOrders = true)
 (hd : dstOk l.toArray n = true) (hg : l.toArray.all (fun o=>o.guard.isNone) = true) (hu : upOk l.toArray = true) (h0 : FitV n (F fun j=>decide (l.length ≤ j)) (R fun j=>decide (l.length ≤ j)) s)
 (hstep : stepAll P l.toArray n F R 0 l) (hend : ∀ b vs,(∀ j,b j = true) → Q .normal (st n (F b vs) vs (R b vs))) : awp P C (.region id l.toArray true) Q s:=fun a w hs=>by
 obtain ⟨vs,hsub⟩:=h0
 obtain ⟨p,hp⟩:=hsub C a w hs
 have hs' : SR C p _ a { w with drawn:=w.drawn + 1 }:=hp.below (w':=w.drew) ((Below.refl _ _).drew) (fun _ h=>h) (fun _ h=>.inl h) hp.rb
 refine wpIn_region_any hm ?_
 have e : (fun j=>(Array.replicate l.toArray.size false).getD j true) = fun j=>decide (l.length ≤ j):=by
  funext j
  by_cases h : j < l.length
  · have : ¬ l.length ≤ j:=by omega
    simp [h,this]
  · have : l.length ≤ j:=by omega
    simp [h,this]
 refine inv_any (Q:=fun s=>Q .normal s) (n:=n) (F:=F) (R:=R) (fun s a w hq hs=>⟨s,hs,hq⟩) hd hg hu (by simpa using hstep) hend _ vs _ _ _ (by simp) (fun j hj=>?_) ?_ ?_
 · exfalso
   simp only [Array.getD_eq_getD_getElem?,Array.getElem?_replicate] at hj
   split at hj <;> simp at hj
 · have : ∀ m,unl (Array.replicate l.toArray.size false) m ≤ m:=by
    intro m
    induction m with
    | zero=>exact Nat.le_refl _
    | succ m ih=>simp only [unl];split <;> omega
   exact this _
 · rw [e]
   exact ⟨p,hs'⟩
def allB (b : Nat → Bool) (v : Bool) : List Nat → Prop
 | []=>True
 | e :: es=>b e = v ∧ allB b v es
def chU (ops : Array Oper) (n : Nat) : List Nat → List Nat → Bool
 | _,[]=>true
 | seen,e :: es=>((deps ops n).contains e || seen.any fun j=>decide (j < ops.size) && (deps ops j).contains e) && chU ops n (e :: seen) es
def chD (ops : Array Oper) (n : Nat) : List Nat → List Nat → Bool
 | _,[]=>true
 | seen,e :: es=>(decide (e < ops.size) && ((deps ops e).contains n || seen.any fun j=>(deps ops e).contains j)) && chD ops n (e :: seen) es
theorem upT0 {ops : Array Oper} {b : Nat → Bool} {n : Nat} (hdn : ∀ j e,j < ops.size → (deps ops j).contains e = true → b j = true → b e = true) (hde : ∀ e ∈ deps ops n,b e = true) : ∀ (es seen : List Nat),(∀ j ∈ seen,b j = true) → chU ops n seen es = true → allB b true es
 | [],_,_,_=>trivial
 | e :: es, seen, hs, h => by
   simp only [chU,Bool.and_eq_true,Bool.or_eq_true,List.any_eq_true,decide_eq_true_eq] at h
   have he : b e = true:=by
    rcases h.1 with h1 | ⟨j,hj,h1,h2⟩
    · exact hde e (by simpa using h1)
    · exact hdn j e h1 h2 (hs j hj)
   refine ⟨he,upT0 hdn hde es (e :: seen) (fun j hj=>?_) h.2⟩
   rcases List.mem_cons.1 hj with rfl | hj
   · exact he
   · exact hs j hj
theorem upT {ops : Array Oper} {b : Nat → Bool} {n : Nat} (hdn : ∀ j e,j < ops.size → (deps ops j).contains e = true → b j = true → b e = true) (hde : ∀ e ∈ deps ops n,b e = true) (es : List Nat) (h : chU ops n [] es = true) : allB b true es:=upT0 hdn hde es [] (by simp) h
theorem dnT0 {ops : Array Oper} {b : Nat → Bool} {n : Nat} (hdn : ∀ j e,j < ops.size → (deps ops j).contains e = true → b j = true → b e = true) (hbk : b n = false) : ∀ (es seen : List Nat),(∀ j ∈ seen,b j = false) → chD ops n seen es = true → allB b false es
 | [],_,_,_=>trivial
 | e :: es, seen, hs, h => by
   simp only [chD,Bool.and_eq_true,Bool.or_eq_true,List.any_eq_true,decide_eq_true_eq] at h
   have he : b e = false:=by
    cases hb : b e
    · rfl
    · rcases h.1.2 with h1 | ⟨j,hj,h2⟩
      · rw [hdn e n h.1.1 h1 hb] at hbk;cases hbk
      · have:=hs j hj
        rw [hdn e j h.1.1 h2 hb] at this;cases this
   refine ⟨he,dnT0 hdn hbk es (e :: seen) (fun j hj=>?_) h.2⟩
   rcases List.mem_cons.1 hj with rfl | hj
   · exact he
   · exact hs j hj
theorem dnT {ops : Array Oper} {b : Nat → Bool} {n : Nat} (hdn : ∀ j e,j < ops.size → (deps ops j).contains e = true → b j = true → b e = true) (hbk : b n = false) (es : List Nat) (h : chD ops n [] es = true) : allB b false es:=dnT0 hdn hbk es [] (by simp) h
end Go.Oc

namespace Go.Proofs.Ytgfbenanljjgaaa.Du
open Go Go.Oc
set_option maxRecDepth 8000
set_option maxHeartbeats 4000000
def vY (b : Nat → Bool) (j : Nat) (v : AV) : AV:=if b j then v else .r .un
def mkF (dn k : Nat) (la nw : List Int) (b : Nat → Bool) (vs : Nat → Nat) : List (Nat × AV) :=
 [(9,.pt 15 (vs 15) 0),(49,.r (i64 (dn : Int))),(50,.r (i64 (k : Int))),
  (52,vY b 0 (.pt 15 (vs 15) 0)),
  (53,vY b 1 (.pt 15 (vs 15) 0)),
  (54,vY b 2 (.pt 15 (vs 15) 0)),
  (55,vY b 3 (.pt 15 (vs 15) 2)),
  (56,vY b 4 (bif b 10 then .r .un else .os 316 (vs 316) 1 0 (k + 1))),
  (57,vY b 5 (.pt 15 (vs 15) 0)),
  (58,vY b 6 (.pt 15 (vs 15) 0)),
  (59,vY b 7 (.r (ints la))),
  (60,vY b 8 (.r (ints nw))),
  (61,vY b 9 (.r (.sl 1 [[ints nw]]))),
  (62,vY b 10 (.os 316 (vs 316) 1 0 (k + 1 + 1))),
  (63,vY b 11 (.pt 15 (vs 15) 0)),
  (64,vY b 12 (.pt 15 (vs 15) 2))]
def mkR (bs : List Int) (g : Int) (k : Nat) (cs : List (List Int)) (nw : List Int) (b : Nat → Bool) (vs : Nat → Nat) : List (Nat × RowC) :=
 [(15,.box [.os 315 (vs 315) 1 0 bs.length,.r (i64 g),bif b 13 then .os 316 (vs 316) 1 0 (k + 1 + 1) else (bif b 10 then .os 316 (vs 316 - 1) 1 0 (k + 1) else .os 316 (vs 316) 1 0 (k + 1))]),(315,.arr 146 1 (arrN bs)),(316,.arr 33 1 (bif b 10 then (cs.map fun r=>[ints r]) ++ [[ints nw]] else cs.map fun r=>[ints r]))]
end Go.Proofs.Ytgfbenanljjgaaa.Du

namespace Go.Proofs.Ytgfbenanljjgaaa.Du.Th
open Go Go.Oc
set_option maxRecDepth 8000
theorem aimOk_facts {d : Int} {a : Am} (h : aimOk d a = true) : bedOk a.at_ = true ∧ a.beds ≠ [] ∧ seqOk none a.beds = true ∧ chOk d a.beds = true ∧ loS a.beds ≤ d ∧ d ≤ hiS a.beds:=by
 simp only [aimOk,Bool.and_eq_true,decide_eq_true_eq,Bool.not_eq_true'] at h
 obtain ⟨⟨⟨⟨⟨h1,h2⟩,h3⟩,h4⟩,h5⟩,h6⟩:=h
 exact ⟨h1,fun e=>(by rw [e] at h2;cases h2),h3,h4,h5,h6⟩
theorem checkV_zero {d : Int} {l : List Am} (h : checkV d l = 0) : l.length ≤ 20 ∧ (∀ a ∈ l,a.beds.length ≤ 10) ∧ l ≠ [] ∧ (1 ≤ d ∧ d ≤ 3000) ∧ ∀ a ∈ l,aimOk d a = true:=by
 unfold checkV at h
 split at h
 · cases h
 rename_i h1
 split at h
 · cases h
 rename_i h2
 split at h
 · rename_i h3
   simp only [Bool.or_eq_true,decide_eq_true_eq,List.any_eq_true,not_or,not_exists,not_and,Nat.not_lt,Bool.not_eq_true,Bool.not_eq_false',Bool.and_eq_true] at h1 h2
   refine ⟨h1.1,h1.2,fun e=>?_,by simpa using h2.2,List.all_eq_true.1 h3⟩
   rw [e] at h2
   simp at h2
 · cases h
def cmpI (x y : Int) : Int:=if x < y then -1 else if y < x then 1 else 0
theorem nan_ok (n : Int) : ACalls Try.prog 103 [i64 n] (.bo false):=by
 refine zas (rs:=[.bo false]) [.tmp 2] Try.func103 rfl (by kernel_rfl) Try.ntmps103 rfl (by simp) rfl fun C vs=>?_
 repeat apply zq
 refine zb fun K hK=>?_;simp only [go_sem];(try simp (disch:=omega) only [zI]);repeat first | intro _ | refine ⟨by omega,?_⟩
 apply hK;clear hK K
 repeat apply zq
 refine zb fun K hK=>?_;simp only [go_sem];(try simp (disch:=omega) only [zI]);repeat first | intro _ | refine ⟨by omega,?_⟩
 apply hK;clear hK K;apply ze;simp only [go_sem]
 simp
theorem compare_ok (x y : Int) : ACalls Try.prog 74 [i64 x,i64 y] (i64 (cmpI x y)):=by
 refine zas (rs:=[i64 (cmpI x y)]) [.tmp 4] Try.func74 rfl (by kernel_rfl) Try.ntmps74 rfl (by simp) rfl fun C vs=>?_
 repeat apply zq
 refine zb fun K hK=>?_;simp only [go_sem];(try simp (disch:=omega) only [zI]);repeat first | intro _ | refine ⟨by omega,?_⟩
 apply hK;clear hK K
 repeat apply zq
 refine zb fun K hK=>?_;simp only [go_sem];(try simp (disch:=omega) only [zI])
 refine zh (nan_ok x) rfl (by simp only [go_sem,i64,ints]) (by simp only [go_sem,i64,ints]) ?_
 (try simp only [go_sem]);(try simp (disch:=omega) only [zI]);repeat first | intro _ | refine ⟨by omega,?_⟩
 apply hK;clear hK K
 repeat apply zq
 refine zb fun K hK=>?_;simp only [go_sem];(try simp (disch:=omega) only [zI])
 refine zh (nan_ok y) rfl (by simp only [go_sem,i64,ints]) (by simp only [go_sem,i64,ints]) ?_
 (try simp only [go_sem]);(try simp (disch:=omega) only [zI]);repeat first | intro _ | refine ⟨by omega,?_⟩
 apply hK;clear hK K
 repeat apply zq
 refine zb fun K hK=>?_;simp only [go_sem];(try simp (disch:=omega) only [zI]);repeat first | intro _ | refine ⟨by omega,?_⟩
 apply hK;clear hK K
 repeat apply zq
 apply zc rfl <;> intro hc <;> (try simp only [go_sem] at hc)
 apply zx
 try simp only [go_sem]
 repeat apply zq
 refine zb fun K hK=>?_;simp only [go_sem];(try simp (disch:=omega) only [zI]);repeat first | intro _ | refine ⟨by omega,?_⟩
 apply hK;clear hK K
 repeat apply zq
 apply zc rfl <;> intro hc <;> (try simp only [go_sem] at hc)
 apply zx
 try simp only [go_sem]
 repeat apply zq
 refine zb fun K hK=>?_;simp only [go_sem];(try simp (disch:=omega) only [zI]);repeat first | intro _ | refine ⟨by omega,?_⟩
 apply hK;clear hK K
 repeat apply zq
 apply zc rfl <;> intro hc <;> (try simp only [go_sem] at hc)
 · repeat apply zq
   refine zb fun K hK=>?_;simp only [go_sem];(try simp (disch:=omega) only [zI]);repeat first | intro _ | refine ⟨by omega,?_⟩
   apply hK;clear hK K;apply ze;simp only [go_sem]
   simp [cmpI,hc]
 apply zx
 try simp only [go_sem]
 repeat apply zq
 refine zb fun K hK=>?_;simp only [go_sem];(try simp (disch:=omega) only [zI]);repeat first | intro _ | refine ⟨by omega,?_⟩
 apply hK;clear hK K
 have h1:=hc
 repeat apply zq
 apply zc rfl <;> intro hc <;> (try simp only [go_sem] at hc)
 · repeat apply zq
   refine zb fun K hK=>?_;simp only [go_sem];(try simp (disch:=omega) only [zI]);repeat first | intro _ | refine ⟨by omega,?_⟩
   apply hK;clear hK K;apply ze;simp only [go_sem]
   have : ¬ x < y:=by omega
   simp [cmpI,hc,this]
 apply zx
 try simp only [go_sem]
 repeat apply zq
 refine zb fun K hK=>?_;simp only [go_sem];(try simp (disch:=omega) only [zI]);repeat first | intro _ | refine ⟨by omega,?_⟩
 apply hK;clear hK K;apply ze;simp only [go_sem]
 have h2 : ¬ x < y:=by omega
 have h3 : ¬ y < x:=by omega
 simp [cmpI,h2,h3]
def insB (lt : Nat → Nat → Bool) (x : Nat) : List Nat → List Nat
 | []=>[x]
 | y :: ys=>if lt x y then y :: insB lt x ys else x :: y :: ys
def sortB (lt : Nat → Nat → Bool) : List Nat → List Nat → List Nat
 | [],R=>R
 | x :: xs,R=>sortB lt xs (insB lt x R)
def sortN (lt : Nat → Nat → Bool) (l : List Nat) : List Nat:=(sortB lt l []).reverse
theorem insB_len (lt : Nat → Nat → Bool) (x : Nat) : ∀ R,(insB lt x R).length = R.length + 1
 | []=>rfl
 | y :: R => by
   unfold insB
   split
   · simp [insB_len lt x R]
   · rfl
theorem insB_skip (lt : Nat → Nat → Bool) (x : Nat) : ∀ (R : List Nat) (k : Nat),(∀ y ∈ R.take k,lt x y = true) → insB lt x R = R.take k ++ insB lt x (R.drop k)
 | R,0,_=>by simp
 | [],k + 1,_=>by simp
 | y :: R, k + 1, h => by
   have hy : lt x y = true:=h y (by simp)
   have ih:=insB_skip lt x R k fun z hz=>h z (by simp [hz])
   simp only [List.take_succ_cons,List.drop_succ_cons,List.cons_append];rw [← ih]
   simp [insB,hy]
theorem sortB_snoc (lt : Nat → Nat → Bool) : ∀ (l : List Nat) (x : Nat) (R : List Nat),sortB lt (l ++ [x]) R = insB lt x (sortB lt l R)
 | [],_,_=>rfl
 | y :: l,x,R=>by simp only [List.cons_append,sortB];exact sortB_snoc lt l x _
theorem sortB_len (lt : Nat → Nat → Bool) : ∀ (l R : List Nat),(sortB lt l R).length = l.length + R.length
 | [],R=>by simp [sortB]
 | x :: l,R=>by simp only [sortB];rw [sortB_len lt l,insB_len];simp;omega
theorem mem_insB (lt : Nat → Nat → Bool) (x z : Nat) : ∀ R,z ∈ insB lt x R ↔ z = x ∨ z ∈ R
 | []=>by simp [insB]
 | y :: R => by
   unfold insB
   split
   · simp only [List.mem_cons,mem_insB lt x z R]
     constructor
     · rintro (h | h | h) <;> simp [h]
     · rintro (h | h | h) <;> simp [h]
   · simp
theorem mem_sortB (lt : Nat → Nat → Bool) (z : Nat) : ∀ l R,z ∈ sortB lt l R ↔ z ∈ l ∨ z ∈ R
 | [],R=>by simp [sortB]
 | x :: l, R => by
   simp only [sortB];rw [mem_sortB lt z l,mem_insB]
   simp only [List.mem_cons]
   constructor
   · rintro (h | h | h) <;> simp [h]
   · rintro ((h | h) | h) <;> simp [h]
def holeL (R : List Nat) (x k : Nat) (rest : List Nat) : List Nat:=(R.drop k).reverse ++ x :: ((R.take k).reverse ++ rest)
theorem hole_len (R : List Nat) (x k : Nat) (rest : List Nat) (hk : k ≤ R.length) : (holeL R x k rest).length = R.length + 1 + rest.length:=by
 simp [holeL];omega
theorem hole_at (R : List Nat) (x k : Nat) (rest : List Nat) (hk : k ≤ R.length) : (holeL R x k rest)[R.length - k]? = some x:=by
 unfold holeL
 rw [List.getElem?_append_right (by simp)]
 simp
theorem hole_next {R : List Nat} {x k y : Nat} {rest : List Nat} (hy : R[k]? = some y) : (holeL R x k rest)[R.length - k - 1]? = some y ∧ (holeL R x k rest) = (R.drop (k + 1)).reverse ++ y :: x :: ((R.take k).reverse ++ rest) ∧ holeL R x (k + 1) rest = (R.drop (k + 1)).reverse ++ x :: y :: ((R.take k).reverse ++ rest):=by
 have hk:=(List.getElem?_eq_some_iff.1 hy).1
 have hd:=drop_of_opt hy
 have ht:=zto hy
 have e1 : (holeL R x k rest) = (R.drop (k + 1)).reverse ++ y :: x :: ((R.take k).reverse ++ rest):=by
  unfold holeL;rw [hd];simp
 refine ⟨?_,e1,by unfold holeL;rw [ht];simp⟩
 rw [e1,List.getElem?_append_right (by simp;omega)]
 have : R.length - k - 1 - (R.drop (k + 1)).reverse.length = 0:=by simp;omega
 rw [this];rfl
theorem hole_swap {α : Type} (g : Nat → α) {R : List Nat} {x k y : Nat} {rest : List Nat} (hy : R[k]? = some y) :
 (((holeL R x k rest).map g).set (R.length - k) (g y)).set (R.length - k - 1) (g x) = (holeL R x (k + 1) rest).map g:=by
 obtain ⟨_,e1,e2⟩:=hole_next (x:=x) (rest:=rest) hy
 have hk:=(List.getElem?_eq_some_iff.1 hy).1
 rw [e1,e2,← List.map_set,← List.map_set]
 congr 1
 have hl : (R.drop (k + 1)).reverse.length = R.length - k - 1:=by simp;omega
 generalize (R.drop (k + 1)).reverse = A at hl
 generalize (R.take k).reverse ++ rest = B
 have e3 : R.length - k = A.length + 1:=by omega
 rw [e3,Nat.add_sub_cancel]
 rw [List.set_append_right _ _ (by omega)]
 simp only [Nat.add_sub_cancel_left,List.set_cons_succ,List.set_cons_zero];rw [List.set_append_right _ _ (by omega)]
 simp
theorem lent_put {vs : Nat → Nat} {k : Nat} (h : Lent vs) : Lent (upd vs k 0):=fun j hj=>by
 unfold upd;split
 · rfl
 · exact h j hj
abbrev idx (l : List Nat) : List (List RV):=l.map fun (x : Nat)=>[i64 (x : Int)]
end Go.Proofs.Ytgfbenanljjgaaa.Du.Th

namespace Go.Proofs.Ytgfbenanljjgaaa.Du.Th.Ai
open Go Go.Oc
set_option maxRecDepth 8000
abbrev arrV (l : List Int) : List (List RV):=l.map fun n=>[i64 n]
abbrev fnS (s : Bool) : AV:=.fn 166 [.r (.rp [.bo s]),.pt 1001 0 0]
abbrev rowsV (l : List Nat) (vals : List Int) : List (Nat × RowC):=[(1000,.arr 3 1 (idx l)),(1001,.box [.os 1002 0 1 0 vals.length]),(1002,.arr 3 1 (arrV vals))]
theorem insertionV_ok (lt : Nat → Nat → Bool) (c : Nat → Nat → Int) (s : Bool) (vals : List Int) (l : List Nat) (hl : l.length ≤ 1000) (hlt : ∀ x y,lt x y = decide (c x y < 0))
 (hcc : ∀ x ∈ l,∀ y ∈ l,ACalls Try.prog 166 [i64 (x : Int),i64 (y : Int),.rp [.bo s],.rp [ints vals]] (i64 (c x y))) :
 MCalls Try.prog 172 (rowsV l vals) (rowsV (sortN lt l) vals) [.os 1000 0 1 0 l.length,.r (i64 0),.r (i64 l.length),fnS s] (.tu []):=by
 refine mcalls_st (n:=53) (rs:=[]) _ _ [] Try.func172 rfl (by kernel_rfl) Try.ntmps172 rfl (by simp) rfl rfl fun C=>?_
 have hmem : ∀ i z,z ∈ sortB lt (l.take i) [] → z ∈ l:=fun i z hz=>by
  rw [mem_sortB] at hz
  rcases hz with hz | hz
  · exact List.mem_of_mem_take hz
  · cases hz
 repeat apply zq
 refine zb fun K hK=>?_;simp only [go_sem];(try simp (disch:=omega) only [zI]);repeat first | intro _ | refine ⟨by omega,?_⟩
 apply hK;clear hK K;apply zw (zk [0,1,2,3,8]);simp only [go_sem]
 repeat apply zq
 apply zd
 refine awp_upto0 (n:=53) (max l.length 1) (fun i vs=>[(0,.os 1000 0 1 0 l.length),(1,.r (i64 0)),(2,.r (i64 l.length)),(3,fnS s),(8,.r (i64 i))])
  (fun i=>[(1000,.arr 3 1 (idx ((sortB lt (l.take i) []).reverse ++ l.drop i))),(1001,.box [.os 1002 0 1 0 vals.length]),(1002,.arr 3 1 (arrV vals))]) (fun i=>1 ≤ i) 1 (fit0_of [] lent_zero ?_ ?_) (by omega) (Nat.le_refl _) ?_
 · try simp only [go_sem]
 · simp only [go_sem]
   cases l with
   | nil=>rfl
   | cons x l=>simp [sortB,insB]
 · intro i vs hv hi hi1
   have hv0:=hv 1000 (by omega)
   have hv1:=hv 1001 (by omega)
   have hv2:=hv 1002 (by omega)
   repeat apply zq
   refine zb fun K hK=>?_;simp only [go_sem];(try simp (disch:=omega) only [zI]);repeat first | intro _ | refine ⟨by omega,?_⟩
   apply hK;clear hK K;apply zw (zk [0,1,2,3,8,14]);simp only [go_sem]
   repeat apply zq
   apply zc rfl <;> intro hc <;> (try simp only [go_sem] at hc)
   · have hci : i < l.length:=by omega
     obtain ⟨x,hx⟩:=zol hci
     obtain ⟨R,hR⟩ : ∃ R,R = sortB lt (l.take i) []:=⟨_,rfl⟩
     have hRl : R.length = i:=by rw [hR,sortB_len];simp;omega
     have hRm : ∀ z ∈ R,z ∈ l:=fun z hz=>hmem i z (hR ▸ hz)
     have hnx : sortB lt (l.take (i + 1)) [] = insB lt x R:=by rw [zto hx,sortB_snoc,hR]
     have hst : (sortB lt (l.take i) []).reverse ++ l.drop i = holeL R x 0 (l.drop (i + 1)):=by rw [← hR,drop_of_opt hx];simp [holeL]
     rw [hst]
     apply zx
     repeat apply zq
     apply zd
     repeat apply zq
     refine zb fun K hK=>?_;simp only [go_sem];(try simp (disch:=omega) only [zI]);repeat first | intro _ | refine ⟨by omega,?_⟩
     apply hK;clear hK K;apply zw (zk [0,1,2,3,8,9]);simp only [go_sem]
     repeat apply zq
     apply zd
     refine awp_upto0 (n:=53) i (fun k vs=>[(0,.os 1000 0 1 0 l.length),(1,.r (i64 0)),(2,.r (i64 l.length)),(3,fnS s),(8,.r (i64 i)),(9,.r (i64 (i - k : Nat)))])
      (fun k=>[(1000,.arr 3 1 (idx (holeL R x k (l.drop (i + 1))))),(1001,.box [.os 1002 0 1 0 vals.length]),(1002,.arr 3 1 (arrV vals))]) (fun k=>∀ y ∈ R.take k,lt x y = true) 0 (fit0_of [] hv ?_ ?_) (Nat.zero_le _) (by simp) ?_
     · try simp only [go_sem]
     · try simp only [go_sem]
     · intro k vs hv hk hI
       have hv0:=hv 1000 (by omega)
       have hv1:=hv 1001 (by omega)
       have hv2:=hv 1002 (by omega)
       have hins:=insB_skip lt x R k hI
       have done : insB lt x (R.drop k) = x :: R.drop k → sortB lt (l.take (i + 1)) [] = R.take k ++ x :: R.drop k:=fun h=>by rw [hnx,hins,h]
       by_cases hk0 : k = i
       · have e0 : i - k = 0:=by omega
         repeat apply zq
         refine awp_dreg2 [(0,some 1000)] follows (by decide +kernel) (by kernel_rfl) (by simp only [keysOk,List.mem_cons,List.not_mem_nil,forall_eq_or_imp,Oc.keyOf,go_sem];simp) fun K hK=>?_
         simp only [go_sem,hv0,hv1,hv2,e0];(try simp (disch:=omega) only [zI]);repeat first | intro _ | refine ⟨by omega,?_⟩
         apply hK;clear hK K;apply zw (zk [0,1,2,3,8,9,34]);simp only [go_sem]
         repeat apply zq
         apply zc rfl <;> intro hc <;> (try simp only [go_sem] at hc)
         apply zf;simp only [go_sem]
         repeat apply zq
         refine zb fun K hK=>?_;simp only [go_sem];(try simp (disch:=omega) only [zI]);repeat first | intro _ | refine ⟨by omega,?_⟩
         apply hK;clear hK K
         try simp only [go_sem]
         refine ⟨by omega,fit0_of [] hv ?_ ?_⟩
         · try simp only [go_sem]
         · have hd0 : R.drop k = []:=List.drop_eq_nil_of_le (by omega)
           have:=done (by rw [hd0];rfl)
           simp only [go_sem,this]
           simp [holeL]
       · obtain ⟨y,hy⟩:=zol (l:=R) (i:=k) (by omega)
         obtain ⟨j,hj⟩ : ∃ j,i - k = j + 1:=⟨i - k - 1,by omega⟩
         have hjs : IntKind.i64.wrap ((j : Int) + 1 - 1) = j:=by rw [zI] <;> omega
         have hlen : (holeL R x k (l.drop (i + 1))).length = l.length:=by rw [hole_len _ _ _ _ (by omega),List.length_drop];omega
         have hxa : (holeL R x k (l.drop (i + 1)))[j + 1]? = some x:=by rw [← hj,← hRl];exact hole_at R x k _ (by omega)
         have hya : (holeL R x k (l.drop (i + 1)))[j]? = some y:=by
          have:=(hole_next (x:=x) (rest:=l.drop (i + 1)) hy).1
          rw [hRl,hj] at this
          exact this
         have hcall:=hcc x (zmo hx) y (hRm y (zmo hy))
         have hpos : (0 < (j : Int) + 1) = True:=by simp
         have hlxy:=hlt x y
         repeat apply zq
         refine awp_dreg2 [(0,some 1000)] follows (by decide +kernel) (by kernel_rfl) (by simp only [keysOk,List.mem_cons,List.not_mem_nil,forall_eq_or_imp,Oc.keyOf,go_sem];simp) fun K hK=>?_
         simp only [go_sem,hv0,hv1,hv2,hj,hjs,hxa,hya,hlen,hpos];(try simp (disch:=omega) only [zI])
         refine ⟨by omega,by omega,?_⟩
         refine zh (hcall) rfl (by simp only [go_sem,i64,ints,hv0,hv1,hv2,fnS]) (by simp only [go_sem,i64,ints,hv0,hv1,hv2,fnS]) ?_
         (try simp only [go_sem,hv0,hv1,hv2,fnS]);(try simp (disch:=omega) only [zI]);repeat first | intro _ | refine ⟨by omega,?_⟩
         apply hK;clear hK K;apply zw (zk [0,1,2,3,8,9,34]);simp only [go_sem]
         cases hcx : decide (c x y < 0)
         · repeat apply zq
           apply zc rfl <;> intro hc <;> (try simp only [go_sem] at hc)
           apply zf;simp only [go_sem]
           repeat apply zq
           refine zb fun K hK=>?_;simp only [go_sem];(try simp (disch:=omega) only [zI]);repeat first | intro _ | refine ⟨by omega,?_⟩
           apply hK;clear hK K
           try simp only [go_sem]
           refine ⟨by omega,fit0_of [] hv ?_ ?_⟩
           · try simp only [go_sem]
           · have:=done (by rw [drop_of_opt hy];simp [insB,hlxy,hcx])
             simp only [go_sem,this]
             simp [holeL]
         · repeat apply zq
           apply zc rfl <;> intro hc <;> (try simp only [go_sem] at hc)
           apply zx
           try simp only [go_sem]
           repeat apply zq
           apply zd
           have hset : ((idx (holeL R x k (l.drop (i + 1)))).set (j + 1) [i64 (y : Int)]).getD j [] = [i64 (y : Int)]:=by
            rw [List.getD_eq_getElem?_getD,List.getElem?_set_ne (by omega),List.getElem?_map,hya];rfl
           have hsw:=hole_swap (fun (x : Nat)=>[i64 (x : Int)]) (x:=x) (rest:=l.drop (i + 1)) hy
           rw [hRl,hj] at hsw
           simp only [Nat.add_sub_cancel] at hsw
           repeat apply zq
           refine awp_dreg2 [(0,some 1000)] follows (by decide +kernel) (by kernel_rfl) (by simp only [keysOk,List.mem_cons,List.not_mem_nil,forall_eq_or_imp,Oc.keyOf,go_sem];simp) fun K hK=>?_
           simp only [go_sem,hv0,hv1,hv2,hj,hjs,hxa,hya,hlen,hset,List.length_set];(try simp (disch:=omega) only [zI])
           repeat' first | intro _ | refine And.intro ?_ ?_
           all_goals first | omega | skip
           all_goals (refine hK _ ?_;clear hK K)
           apply zw (zk [0,1,2,3,8,9]);simp only [go_sem]
           repeat apply zq
           refine zb fun K hK=>?_;simp only [go_sem,hjs];(try simp (disch:=omega) only [zI]);repeat first | intro _ | refine ⟨by omega,?_⟩
           apply hK;clear hK K
           try simp only [go_sem]
           have hj2 : i - (k + 1) = j:=by omega
           refine ⟨by omega,?_,fit0_of [] (lent_put (lent_put hv)) ?_ ?_⟩
           · rw [zto hy]
             intro z hz
             rcases List.mem_append.1 hz with hz | hz
             · exact hI z hz
             · simp only [List.mem_singleton] at hz
               subst hz
               rw [hlxy,hcx]
           · simp only [go_sem,hj2]
           · simp only [go_sem];exact congrArg (fun z=>[(1000,RowC.arr 3 1 z),(1001,RowC.box [.os 1002 0 1 0 vals.length]),(1002,RowC.arr 3 1 (arrV vals))]) hsw
   · apply zf;simp only [go_sem]
     have h1 : l.take i = l:=List.take_of_length_le (by omega)
     have h2 : l.drop i = []:=List.drop_eq_nil_of_le (by omega)
     rw [h1,h2,List.append_nil]
     rfl
set_option maxHeartbeats 4000000
theorem ascore_ok (b : Int) (hb : 0 ≤ b ∧ b ≤ 499) : ACalls Try.prog 162 [i64 b] (i64 (scoreOf b)):=by
 have e1 : Int.tdiv b 100 = b / 100:=Int.tdiv_eq_ediv_of_nonneg hb.1
 have e2 : Int.tmod b 100 = b % 100:=Int.tmod_eq_emod_of_nonneg hb.1
 have h1 : 0 ≤ b / 100 ∧ b / 100 ≤ 4:=by omega
 have h2 : 0 ≤ b % 100 ∧ b % 100 ≤ 99:=by omega
 have h3:=Int.mul_nonneg h1.1 h2.1
 have h4:=Int.mul_le_mul h1.2 h2.2 h2.1 (show (0 : Int) ≤ 4 by omega)
 have w1 : IntKind.i64.wrap (b / 100) = b / 100:=by rw [zI] <;> omega
 have w2 : IntKind.i64.wrap (b % 100) = b % 100:=by rw [zI] <;> omega
 have w3 : IntKind.i64.wrap (b / 100 * (b % 100)) = b / 100 * (b % 100):=by rw [zI] <;> omega
 have hs : scoreOf b = b / 100 * (b % 100):=rfl
 rw [hs]
 refine zas (rs:=[i64 (b / 100 * (b % 100))]) [.tmp 2] Try.func162 rfl (by kernel_rfl) Try.ntmps162 rfl (by simp) rfl fun C vs=>?_
 repeat apply zq
 refine zb fun K hK=>?_;simp only [go_sem];(try simp (disch:=omega) only [zI]);repeat first | intro _ | refine ⟨by omega,?_⟩
 apply hK;apply zw (zk [0]);simp only [go_sem]
 repeat apply zq
 refine zb fun K hK=>?_;simp only [go_sem,e1,e2,w1,w2,w3];(try simp (disch:=omega) only [zI]);repeat first | intro _ | refine ⟨by omega,?_⟩
 repeat first | intro _ | refine ⟨by omega,?_⟩
 apply hK;apply zw (zk [2]);simp only [go_sem];apply ze;simp only [go_sem]
def opA (g b : Int) : Bool:=if g = 1 then decide (b / 100 = 2) else if g = 2 then decide (2 ≤ b / 100) else decide (b ≠ 0)
theorem aopens_ok (b g : Int) (hb : 0 ≤ b ∧ b ≤ 499) : ACalls Try.prog 163 [i64 b,i64 g] (.bo (opA g b)):=by
 have e1 : Int.tdiv b 100 = b / 100:=Int.tdiv_eq_ediv_of_nonneg hb.1
 have w1 : IntKind.i64.wrap (b / 100) = b / 100:=by rw [zI] <;> omega
 refine zas (rs:=[.bo (opA g b)]) [.tmp 4] Try.func163 rfl (by kernel_rfl) Try.ntmps163 rfl (by simp) rfl fun C vs=>?_
 repeat apply zq
 refine zb fun K hK=>?_;simp only [go_sem];(try simp (disch:=omega) only [zI]);repeat first | intro _ | refine ⟨by omega,?_⟩
 apply hK;apply zw (zk [0,1]);simp only [go_sem]
 repeat apply zq
 refine zb fun K hK=>?_;simp only [go_sem,e1,w1];(try simp (disch:=omega) only [zI]);repeat first | intro _ | refine ⟨by omega,?_⟩
 apply hK;apply zw (zk [0,1,5]);simp only [go_sem]
 repeat apply zq
 refine zb fun K hK=>?_;simp only [go_sem];(try simp (disch:=omega) only [zI]);repeat first | intro _ | refine ⟨by omega,?_⟩
 apply hK;apply zw (zk [0,5,8]);simp only [go_sem]
 repeat apply zq
 apply zd
 repeat apply zq
 refine zb fun K hK=>?_;simp only [go_sem];(try simp (disch:=omega) only [zI]);repeat first | intro _ | refine ⟨by omega,?_⟩
 apply hK;apply zw (zk [0,5,8,9]);simp only [go_sem]
 by_cases h1 : g = 1
 · subst h1
   repeat apply zq
   apply zc rfl <;> intro hc <;> (try simp only [go_sem] at hc)
   repeat apply zq
   refine zb fun K hK=>?_;simp only [go_sem];(try simp (disch:=omega) only [zI]);repeat first | intro _ | refine ⟨by omega,?_⟩
   apply hK;apply zw (zk [4]);simp only [go_sem];apply ze;simp only [go_sem];rw [Bool.eq_iff_iff]
   simp [opA]
 · have e1 : (g == 1) = false:=by simpa using h1
   rw [e1]
   repeat apply zq
   apply zc rfl <;> intro hc <;> (try simp only [go_sem] at hc)
   repeat apply zq
   refine zb fun K hK=>?_;simp only [go_sem];(try simp (disch:=omega) only [zI]);repeat first | intro _ | refine ⟨by omega,?_⟩
   apply hK;apply zw (zk [0,5,13]);simp only [go_sem]
   by_cases h2 : g = 2
   · subst h2
     repeat apply zq
     apply zc rfl <;> intro hc <;> (try simp only [go_sem] at hc)
     repeat apply zq
     refine zb fun K hK=>?_;simp only [go_sem];(try simp (disch:=omega) only [zI]);repeat first | intro _ | refine ⟨by omega,?_⟩
     apply hK;apply zw (zk [4]);simp only [go_sem];apply ze;simp only [go_sem]
     simp [opA]
   · have e2 : (g == 2) = false:=by simpa using h2
     rw [e2]
     repeat apply zq
     apply zc rfl <;> intro hc <;> (try simp only [go_sem] at hc)
     apply zx
     try simp only [go_sem]
     repeat apply zq
     refine zb fun K hK=>?_;simp only [go_sem];(try simp (disch:=omega) only [zI]);repeat first | intro _ | refine ⟨by omega,?_⟩
     apply hK;apply zw (zk [4]);simp only [go_sem];apply ze;simp only [go_sem];rw [Bool.eq_iff_iff]
     simp [opA,h1,h2]
def lowG (g : Int) : Int:=if g = 0 then 1 else 2
theorem alow_ok (g : Int) : ACalls Try.prog 66 [i64 g] (i64 (lowG g)):=by
 refine zas (rs:=[i64 (lowG g)]) [.tmp 2] Try.func66 rfl (by kernel_rfl) Try.ntmps66 rfl (by simp) rfl fun C vs=>?_
 repeat apply zq
 refine zb fun K hK=>?_;simp only [go_sem];(try simp (disch:=omega) only [zI]);repeat first | intro _ | refine ⟨by omega,?_⟩
 apply hK;apply zw (zk [0]);simp only [go_sem]
 repeat apply zq
 refine zb fun K hK=>?_;simp only [go_sem];(try simp (disch:=omega) only [zI]);repeat first | intro _ | refine ⟨by omega,?_⟩
 apply hK;apply zw (zk [4]);simp only [go_sem]
 by_cases h : g = 0
 · subst h
   repeat apply zq
   apply zc rfl <;> intro hc <;> (try simp only [go_sem] at hc)
   repeat apply zq
   refine zb fun K hK=>?_;simp only [go_sem];(try simp (disch:=omega) only [zI]);repeat first | intro _ | refine ⟨by omega,?_⟩
   apply hK;apply ze;simp only [go_sem]
   rfl
 · have e : (g == 0) = false:=by simpa using h
   rw [e]
   repeat apply zq
   apply zc rfl <;> intro hc <;> (try simp only [go_sem] at hc)
   apply zx
   try simp only [go_sem]
   repeat apply zq
   refine zb fun K hK=>?_;simp only [go_sem];(try simp (disch:=omega) only [zI]);repeat first | intro _ | refine ⟨by omega,?_⟩
   apply hK;apply ze;simp only [go_sem]
   simp [lowG,h]
theorem awithin1_ok (n a b : Int) : ACalls Try.prog 91 [i64 n,.rp [i64 a],.rp [i64 b]] (.bo (decide (n < a) || decide (b < n))):=by
 refine zas (rs:=[.bo (decide (n < a) || decide (b < n))]) [.tmp 4] Try.func91 rfl (by kernel_rfl) Try.ntmps91 rfl (by simp) rfl fun C vs=>?_
 repeat apply zq
 refine zb fun K hK=>?_;simp only [go_sem];(try simp (disch:=omega) only [zI]);repeat first | intro _ | refine ⟨by omega,?_⟩
 apply hK
 repeat apply zq
 refine zb fun K hK=>?_;simp only [go_sem];(try simp (disch:=omega) only [zI])
 refine ⟨fun h=>?_,fun h=>?_⟩ <;>
 · repeat first | intro _ | refine ⟨by omega,?_⟩
   apply hK;apply ze;simp only [go_sem]
   try simp [h]
theorem awithin_ok (a b : Int) (l : List Int) : ACalls Try.prog 55 [i64 a,i64 b,ints l] (.bo (withinL a b l)):=by
 refine zas (rs:=[.bo (withinL a b l)]) [.tmp 6] Try.func55 rfl (by kernel_rfl) Try.ntmps55 rfl (by simp) rfl fun C vs=>?_
 repeat apply zq
 refine zb fun K hK=>?_;simp only [go_sem];(try simp (disch:=omega) only [zI]);repeat first | intro _ | refine ⟨by omega,?_⟩
 apply hK
 repeat apply zq
 refine zb fun K hK=>?_;simp only [go_sem];(try simp (disch:=omega) only [zI])
 refine zh (contains_ok (fun n=>decide (n < a) || decide (b < n)) 91 [.rp [i64 a],.rp [i64 b]] l fun x _=>awithin1_ok x a b) rfl (by simp only [go_sem,i64,ints]) (by simp only [go_sem,i64,ints]) ?_
 (try simp only [go_sem]);(try simp (disch:=omega) only [zI]);repeat first | intro _ | refine ⟨by omega,?_⟩
 apply hK;apply ze;simp only [go_sem];rw [← withinL_not]
def canA (beds : List Bd) (i : Nat) (d : Int) : Int:=min (d - (loS beds - (beds.getD i ⟨0,0,0⟩).lo)) (beds.getD i ⟨0,0,0⟩).hi
def denA (beds : List Bd) (i : Nat) (d : Int) (k : Nat) : Int:=d - (loS (beds.take k) - if i < k then (beds.getD i ⟨0,0,0⟩).lo else 0)
theorem can_ok (beds : List Bd) (i : Nat) (d : Int) (hi : i < beds.length) (hl : beds.length ≤ 1000) (hs : Small beds) (hd : 0 ≤ d ∧ d ≤ 6000) : ACalls Try.prog 164 [bedsR beds,i64 (i : Int),i64 d] (i64 (canA beds i d)):=by
 obtain ⟨bi,hbi⟩:=zol hi
 have hgi : beds.getD i ⟨0,0,0⟩ = bi:=by rw [List.getD_eq_getElem?_getD,hbi];rfl
 have hbis:=hs bi (zmo hbi)
 have hbnd : ∀ k,k ≤ beds.length → -6000000 ≤ denA beds i d k ∧ denA beds i d k ≤ 12000:=fun k hk=>by
  have h1:=(sums_le (hs.take k)).1
  have h2 : (beds.take k).length ≤ 1000:=by rw [List.length_take];omega
  unfold denA
  rw [hgi]
  have h3 : (6000 : Int) * ((beds.take k).length : Int) ≤ 6000 * 1000:=Int.mul_le_mul_of_nonneg_left (by omega) (by omega)
  split <;> omega
 refine zas (rs:=[i64 (canA beds i d)]) [.tmp 6] Try.func164 rfl (by kernel_rfl) Try.ntmps164 rfl (by simp) rfl fun C vs=>?_
 repeat apply zq
 refine zb fun K hK=>?_;simp only [go_sem];(try simp (disch:=omega) only [zI]);repeat first | intro _ | refine ⟨by omega,?_⟩
 apply hK;apply zw (zk [0,1,2]);simp only [go_sem]
 repeat apply zq
 refine zb fun K hK=>?_;simp only [go_sem,List.length_map];(try simp (disch:=omega) only [zI]);repeat first | intro _ | refine ⟨by omega,?_⟩
 apply hK;apply zw (zk [0,1,2,9,10,11]);simp only [go_sem]
 repeat apply zq
 apply zd
 refine zup (n:=33) beds.length (fun k vs=>[(0,.r (bedsR beds)),(1,.r (i64 (i : Int))),(2,.r (i64 (denA beds i d k))),(9,.r (bedsR beds)),(10,.r (i64 (beds.length : Int))),(11,.r (i64 (k : Int)))])
  (fun k=>[]) (fun _=>True) 0 (zfo [] ?_ ?_) (Nat.zero_le _) trivial ?_
 · try simp only [go_sem]
   try simp [denA,loS]
 · try simp only [go_sem]
 · intro k vs hk _
   by_cases hkn : k < beds.length
   · obtain ⟨c,hcb⟩:=zol hkn
     have hcs:=hs c (zmo hcb)
     have hb0:=hbnd k (by omega)
     have hb1:=hbnd (k + 1) (by omega)
     have hlo : loS (beds.take (k + 1)) = loS (beds.take k) + c.lo:=by rw [zto hcb,loS_snoc]
     repeat apply zq
     refine zb fun K hK=>?_;simp only [go_sem,hkn];(try simp (disch:=omega) only [zI]);repeat first | intro _ | refine ⟨by omega,?_⟩
     apply hK;apply zw (zk [0,1,2,9,10,11,12]);simp only [go_sem]
     repeat apply zq
     apply zc rfl <;> intro hc <;> (try simp only [go_sem] at hc)
     apply zx
     try simp only [go_sem]
     repeat apply zq
     apply zd
     repeat apply zq
     refine zb fun K hK=>?_;simp only [go_sem,hcb,hkn,bedR,List.length_map];(try simp (disch:=omega) only [zI]);repeat first | intro _ | refine ⟨by omega,?_⟩
     apply hK;refine zw (zfP 8 8 [i64 c.b,i64 c.lo,i64 c.hi] (by omega) rfl rfl) ?_;apply zw (zk [0,1,2,7,8,9,10,11]);simp only [go_sem]
     by_cases hki : k = i
     · subst hki
       have hcbi : c = bi:=by rw [hcb] at hbi;injection hbi
       have hnx : denA beds k d (k + 1) = denA beds k d k:=by
        unfold denA
        rw [hlo,hgi,if_pos (by omega),if_neg (by omega),hcbi];omega
       rw [hnx]
       repeat apply zq
       refine zb fun K hK=>?_;simp only [go_sem,bne_self_eq_false];(try simp (disch:=omega) only [zI]);repeat first | intro _ | refine ⟨by omega,?_⟩
       apply hK;apply zw (zk [0,1,2,9,10,11,18]);simp only [go_sem]
       repeat apply zq
       apply zc rfl <;> intro hc <;> (try simp only [go_sem] at hc)
       apply zx
       try simp only [go_sem]
       repeat apply zq
       refine zb fun K hK=>?_;simp only [go_sem];(try simp (disch:=omega) only [zI]);repeat first | intro _ | refine ⟨by omega,?_⟩
       apply hK
       try simp only [go_sem]
       refine ⟨by omega,zfo [] ?_ ?_⟩
       · try simp only [go_sem]
       · try simp only [go_sem]
     · have hne : ((k : Int) != (i : Int)) = true:=by rw [bne_iff_ne];omega
       have hne' : (k != i) = true:=by simpa using hki
       have hnx : denA beds i d (k + 1) = denA beds i d k - c.lo:=by
        unfold denA
        rw [hlo]
        by_cases h : i < k
        · rw [if_pos (by omega),if_pos h];omega
        · rw [if_neg (by omega),if_neg h];omega
       rw [hnx] at hb1 ⊢
       generalize denA beds i d k = Z at *
       have wz : IntKind.i64.wrap (Z - c.lo) = Z - c.lo:=by rw [zI] <;> omega
       repeat apply zq
       refine zb fun K hK=>?_;simp only [go_sem,hne,hne'];(try simp (disch:=omega) only [zI]);repeat first | intro _ | refine ⟨by omega,?_⟩
       apply hK;apply zw (zk [0,1,2,8,9,10,11,18]);simp only [go_sem]
       repeat apply zq
       apply zc rfl <;> intro hc <;> (try simp only [go_sem] at hc)
       repeat apply zq
       refine zb fun K hK=>?_;simp only [go_sem,wz];(try simp (disch:=omega) only [zI]);repeat first | intro _ | refine ⟨by omega,?_⟩
       repeat first | intro _ | refine ⟨by omega,?_⟩
       apply hK;apply zw (zk [0,1,2,9,10,11]);simp only [go_sem]
       repeat apply zq
       refine zb fun K hK=>?_;simp only [go_sem];(try simp (disch:=omega) only [zI]);repeat first | intro _ | refine ⟨by omega,?_⟩
       apply hK
       try simp only [go_sem]
       refine ⟨by omega,zfo [] ?_ ?_⟩
       · try simp only [go_sem]
       · try simp only [go_sem]
   · have hke : k = beds.length:=by omega
     subst hke
     have hfin : denA beds i d beds.length = d - (loS beds - bi.lo):=by unfold denA;rw [List.take_length,if_pos hi,hgi]
     rw [hfin]
     have hcan : canA beds i d = min (d - (loS beds - bi.lo)) bi.hi:=by unfold canA;rw [hgi]
     rw [hcan]
     repeat apply zq
     refine zb fun K hK=>?_;simp only [go_sem,Nat.lt_irrefl];(try simp (disch:=omega) only [zI]);repeat first | intro _ | refine ⟨by omega,?_⟩
     apply hK;apply zw (zk [0,1,2,12]);simp only [go_sem]
     repeat apply zq
     apply zc rfl <;> intro hc <;> (try simp only [go_sem] at hc)
     apply zf;simp only [go_sem]
     repeat apply zq
     refine zb fun K hK=>?_;simp only [go_sem,hbi,hi,bedR,List.length_map];(try simp (disch:=omega) only [zI]);repeat first | intro _ | refine ⟨by omega,?_⟩
     repeat first | intro _ | refine ⟨by omega,?_⟩
     apply hK;apply zw (zk [6]);simp only [go_sem];apply ze;simp only [go_sem]
def cmpS (s : Bool) (vals : List Int) (x y : Nat) : Int:=if s then cmpI (vals.getD x 0) (vals.getD y 0) else cmpI (vals.getD y 0) (vals.getD x 0)
theorem cmpS_ok (s : Bool) (vals : List Int) (x y : Nat) (hx : x < vals.length) (hy : y < vals.length) : ACalls Try.prog 166 [i64 (x : Int),i64 (y : Int),.rp [.bo s],.rp [ints vals]] (i64 (cmpS s vals x y)):=by
 obtain ⟨a,ha⟩:=zol hx
 obtain ⟨b,hb⟩:=zol hy
 have ga : vals.getD x 0 = a:=by rw [List.getD_eq_getElem?_getD,ha];rfl
 have gb : vals.getD y 0 = b:=by rw [List.getD_eq_getElem?_getD,hb];rfl
 have h1:=compare_ok a b
 have h2:=compare_ok b a
 unfold cmpS
 rw [ga,gb]
 refine zas (rs:=[i64 (if s = true then cmpI a b else cmpI b a)]) [.tmp 6] Try.func166 rfl (by kernel_rfl) Try.ntmps166 rfl (by simp) rfl fun C vs=>?_
 repeat apply zq
 refine zb fun K hK=>?_;simp only [go_sem];(try simp (disch:=omega) only [zI]);repeat first | intro _ | refine ⟨by omega,?_⟩
 apply hK;apply zw (zk [0,1,2,3]);simp only [go_sem]
 repeat apply zq
 refine zb fun K hK=>?_;simp only [go_sem];(try simp (disch:=omega) only [zI]);repeat first | intro _ | refine ⟨by omega,?_⟩
 apply hK;apply zw (zk [0,1,3,8]);simp only [go_sem]
 cases s
 · repeat apply zq
   apply zc rfl <;> intro hc <;> (try simp only [go_sem] at hc)
   apply zx
   try simp only [go_sem]
   repeat apply zq
   refine zg follows (by decide +kernel) (by kernel_rfl) fun K hK=>?_;simp only [go_sem,ha,hb,hx,hy,List.length_map];(try simp (disch:=omega) only [zI]);repeat first | intro _ | refine ⟨by omega,?_⟩
   refine zh (h2) rfl (by simp only [go_sem,i64,ints,ha,hb,hx,hy,List.length_map]) (by simp only [go_sem,i64,ints,ha,hb,hx,hy,List.length_map]) ?_
   (try simp only [go_sem,ha,hb,hx,hy,List.length_map]);(try simp (disch:=omega) only [zI]);repeat first | intro _ | refine ⟨by omega,?_⟩
   apply hK;apply zw (zk [6]);simp only [go_sem];apply ze;simp only [go_sem]
   try rfl
 · have hss:=(rfl : true = true)
   repeat apply zq
   apply zc rfl <;> intro hc <;> (try simp only [go_sem] at hc)
   rotate_left
   · exact absurd rfl hc
   repeat apply zq
   refine zg follows (by decide +kernel) (by kernel_rfl) fun K hK=>?_;simp only [go_sem,ha,hb,hx,hy,List.length_map];(try simp (disch:=omega) only [zI]);repeat first | intro _ | refine ⟨by omega,?_⟩
   refine zh (h1) rfl (by simp only [go_sem,i64,ints,ha,hb,hx,hy,List.length_map]) (by simp only [go_sem,i64,ints,ha,hb,hx,hy,List.length_map]) ?_
   (try simp only [go_sem,ha,hb,hx,hy,List.length_map]);(try simp (disch:=omega) only [zI]);repeat first | intro _ | refine ⟨by omega,?_⟩
   apply hK;apply zw (zk [6]);simp only [go_sem];apply ze;simp only [go_sem]
   try rfl
end Go.Proofs.Ytgfbenanljjgaaa.Du.Th.Ai

namespace Go.Oc
open Go Go.RowKit
section
variable {P : Program} {C : Ctx} {p : Plan} {s : AS} {a : Act} {w : World} {o : Oper}
variable {Q : Exit → AS → Prop} {ops : Array Oper}
end
end Go.Oc

namespace Go.Oc
open Go Go.RowKit
def fam (f : Nat → RowC) : Nat → List (Nat × RowC)
 | 0=>[]
 | n + 1=>fam f n ++ [(n + 600,f n)]
section
variable {P : Program} {C : Ctx} {s : AS}
end
section
variable {P : Program} {C : Ctx} {s : AS} {a : Act} {w : World} {ops : Array Oper}
end
end Go.Oc

namespace Go.Oc
open Go Go.RowKit
def XS.since (X : XS) (n : Nat) (R Ψ0 Θ0 : Nat → Prop) : XS where
 l:=X.l
 z:=X.z
 n0:=n
 R:=R
 X:=fun o w Ψ Θ=>X.X o w Ψ Θ ∧ n ≤ w.heap.size ∧ (∀ b,Ψ b → Ψ0 b ∨ R b ∨ n ≤ b) ∧ ∀ b,Θ b → Θ0 b ∨ n ≤ b
 st:=fun h h1 h2 h3 h4 h5=>⟨X.st h.1 h1 h2 h3 h4 h5,Nat.le_trans h.2.1 h4,h.2.2⟩
theorem YOk.since {P : Program} {X : XS} (hY : YOk P X) {n : Nat} {R Ψ0 Θ0 : Nat → Prop} (hR : ∀ b,R b → X.R b ∨ X.n0 ≤ b) (hn : X.n0 ≤ n) : YOk P (X.since n R Ψ0 Θ0):=by
 intro e rest w Ψ Θ R' vs hX hR' hV
 obtain ⟨hX1,hX2,hX3,hX4⟩:=hX
 obtain ⟨fn,tmps,assign,body,hrun,hround⟩:=hY e rest w Ψ Θ R' vs hX1 (fun b hb=>by
  obtain ⟨g1,g2,g3⟩:=hR' b hb
  refine ⟨g1,g2,?_⟩
  rcases g3 with g | g
  · exact hR b g
  · exact .inr (Nat.le_trans hn g)) hV
 refine ⟨fn,tmps,assign,body,hrun,hround.mono ?_⟩
 rintro en w' ⟨g1,g2,g3,g4,g5,Ψ',Θ',g6,g7,g8,g9,g10⟩
 have a1 : ∀ b,Ψ' b → Ψ0 b ∨ R b ∨ n ≤ b:=fun b hb=>by
  rcases g6 b hb with g | g | g
  · exact hX3 b g
  · rcases (hR' b g).2.2 with q | q
    · exact .inr (.inl q)
    · exact .inr (.inr q)
  · exact .inr (.inr (Nat.le_trans hX2 g))
 have a2 : ∀ b,Θ' b → Θ0 b ∨ n ≤ b:=fun b hb=>by
  rcases g7 b hb with g | g
  · exact hX4 b g
  · exact .inr (Nat.le_trans hX2 g)
 refine ⟨g1,g2,g3,g4,g5,Ψ',Θ',g6,g7,g8,g9,?_⟩
 rcases g10 with ⟨rfl,g⟩ | ⟨rfl,g⟩
 · exact .inl ⟨rfl,g,Nat.le_trans hX2 g4,a1,a2⟩
 · exact .inr ⟨rfl,g,Nat.le_trans hX2 g4,a1,a2⟩
section
variable {P : Program} {C : Ctx} {s : AS} {Q : Exit → AS → Prop} {ops : Array Oper}
end
section
variable {n : Nat} {l : List (Nat × AV)} {vs : Nat → Nat} {cs : List (Nat × RowC)}
end
end Go.Oc
