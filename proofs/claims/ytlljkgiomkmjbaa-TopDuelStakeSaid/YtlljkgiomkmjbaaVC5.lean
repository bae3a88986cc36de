/- Part 5 of the texts of this claim. -/
import Derived.Test.YtlljkgiomkmjbaaVC4
import Derived.Lib.EndianBits
namespace Go.Oc
open Go Go.RowKit
set_option linter.unusedVariables false
theorem relC_plain {w : World} {p : Plan} {ver : Nat → Nat} {R' : Nat → Prop} (hR : ∀ b,p.R b → R' b) {b : Nat} {cells : Array Value} {ty : TypeId} (hh : w.heap[b]? = some (.cells cells ty (0,0))) (h1 : ∀ u ∈ cells.toList,u.oneCell' = true) :
 ∀ (cs : List RV) (us : List Value) (j : Nat),(∀ i u,us[i]? = some u → cells[j + i]? = some u) → AV.relV w p ver (cs.map .r) us → RV.relC w R' cs ⟨b,0,none⟩ j
 | [],_,_,_,_=>by simp [RV.relC]
 | c :: cs, us, j, hget, hV => by
   simp only [List.map_cons,AV.relV] at hV
   obtain ⟨u,us,rfl,hu,hV⟩:=hV
   simp only [RV.relC]
   have hc0 : cells[j]? = some u:=by simpa using hget 0 u (by simp)
   refine ⟨⟨u,?_,h1 u (by simpa using List.mem_of_getElem? (by simpa using hc0 : cells.toList[j]? = some u)),?_⟩,?_⟩
   · rw [add_at,Nat.zero_add,cell_of_row w b j cells ty (0,0) hh]; exact hc0
   · simp only [AV.rel] at hu
     exact RV.rel_mono hR (fun _ _=>rfl) _ _ hu
   · exact relC_plain hR hh h1 cs us (j + 1) (fun i u hi=>by
      have:=hget (i + 1) u (by simpa using hi)
      rwa [show j + 1 + i = j + (i + 1) by omega]) hV
theorem sub_freezeP (s : AS) (t k : Nat) {rs : List RV} (hk0 : k < 1000) (ht : s.tm t = .pt k (s.ver k) 0) (hc : (s.rows k).c = .box (rs.map .r)) :
 Sub s { s with tm:=upd s.tm t (.r (.rp rs)),rows:=upd s.rows k ⟨(s.rows k).ver + 1,.dead⟩ }:=fun C a w ⟨p,hp⟩=>by
 have h1:=hp.reRow (w':=w) k hk0 .dead rfl none 1 (by simp [maxLen]) rfl rfl rfl (Nat.le_refl _) (fun _ _ _=>rfl) (fun _ h=>by cases h) (fun p' ver' _ hβ hγ _=>by simp only [rowRel]; exact ⟨hβ,hγ⟩)
 have hval:=hp.tm t
 rw [ht] at hval
 have hr:=hp.rw k
 rw [hc] at hr
 simp only [rowRel] at hr
 obtain ⟨b,cs,ty,g1,g2,g3,g4⟩:=hr
 simp only [AV.rel] at hval
 obtain ⟨b',e1,e2⟩:=hval.2 trivial
 rw [g1] at e1
 injection e1 with e1
 subst e1
 obtain ⟨q1,_,q2⟩:=hp.bl k b g1
 have h2:=h1.publish (b:=b) q1 (q2.imp id fun h=>h.resolve_left (fun h=>by omega)) (fun j hj=>by
  have hj' : upd p.β k none j = some b:=hj
  by_cases e : j = k
  · subst e; rw [upd_same] at hj'; cases hj'
  · rw [upd_other _ _ e] at hj'; exact e (hp.ij j k b hj' g1)) (hp.ex.publish g1)
 refine ⟨_,{ h2 with tm:=fun j=>?_ }⟩
 show AV.rel w _ _ (upd s.tm t _ j) _
 by_cases hj : j = t
 · subst hj
   rw [upd_same]
   simp only [AV.rel,RV.rel]
   refine ⟨_,e2,.inr rfl,?_⟩
   exact relC_plain (fun _ h=>.inl h) g2 g4 _ _ _ (fun i u h=>by simpa using h) g3
 · rw [upd_other _ _ hj]
   exact h2.tm j
section
variable {n : Nat} {l : List (Nat × AV)} {vs : Nat → Nat} {cs : List (Nat × RowC)}
theorem sub_frzP (t k : Nat) (rs : List RV) (hk0 : k < 1000) (ht : look l t = .pt k (vs k) 0) (hc : lookc cs k = .box (rs.map .r)) :
 Sub (st n l vs cs) (st n ((t,.r (.rp rs)) :: l) (upd vs k (vs k + 1)) (delc cs k)):=by
 have:=sub_freezeP (st n l vs cs) t k hk0 ht hc
 have e : ({ st n l vs cs with tm:=upd (st n l vs cs).tm t (.r (.rp rs)),rows:=upd (st n l vs cs).rows k ⟨((st n l vs cs).rows k).ver + 1,.dead⟩ } : AS) = st n ((t,.r (.rp rs)) :: l) (upd vs k (vs k + 1)) (delc cs k):=by
  simp only [st,AS.mk.injEq,true_and]
  constructor
  · funext j
    show upd (look l) t (.r (.rp rs)) j = look ((t,.r (.rp rs)) :: l) j
    rfl
  · funext j
    rw [lookc_delc]
    unfold upd
    split <;> rfl
 rwa [e] at this
end
end Go.Oc

namespace Go.Oc
open Go Go.RowKit
set_option linter.unusedSimpArgs false
set_option linter.unusedVariables false
set_option linter.unnecessarySimpa false
section
variable {P : Program} {C : Ctx} {s : AS} {ops : Array Oper}
theorem aops_seq2 {Q : AS → Prop} {Q' : Exit → Act → World → Prop} {l2 : List Oper} {n : Nat} (hQ : ∀ s a w,s.n = n → Q s → SRel C s a w → wpListIn (fnc C.rd) 0 P ops Q' l2 a w) : ∀ (l : List Oper) (s : AS) (a : Act) (w : World),s.n = n → dstOk l.toArray s.n = true → aops P false ops l Q s → SRel C s a w → wpListIn (fnc C.rd) 0 P ops Q' (l ++ l2) a w
 | [],s,a,w,hn0,_,h,hs=>hQ s a w hn0 h hs
 | o :: l, s, a, w, hn0, hd, h, hs => by
   rw [List.cons_append]
   have hd0 : ∀ t,o.dst = some t → t < s.n:=dstOk_get (i:=0) hd (by simp)
   have hdl : dstOk l.toArray s.n = true:=by
    unfold dstOk at hd ⊢
    simp only [List.all_toArray,List.all_cons,Bool.and_eq_true] at hd ⊢
    exact hd.2
   obtain ⟨p,hp⟩:=hs
   have run : ∀ {s1 : AS},s1 = s → xop P false o (aops P false ops l Q) s1 → wantA ops s o = some true → wpListIn (fnc C.rd) 0 P ops Q' (o :: (l ++ l2)) a w:=fun e hop hw=>by
    subst e
    unfold wpListIn
    rw [if_pos (wantA_sound hp hw)]
    refine xop_sound hp hop hd0 (fun a' w' p' s' hs' hn hK=>?_) (dstOk_nd (i:=0) hd (by simp))
    exact aops_seq2 hQ l _ a' w' (hn.trans hn0) (by rw [hn]; exact hdl) hK ⟨p',hs'⟩
   have skip : ∀ {s1 : AS},s1 = s → aops P false ops l Q (s1.put o.dst (.r .ud)) → wantA ops s o = some false → wpListIn (fnc C.rd) 0 P ops Q' (o :: (l ++ l2)) a w:=fun e hop hw=>by
    subst e
    unfold wpListIn
    rw [wantA_sound hp hw]
    simp only [Bool.false_eq_true,if_false]
    refine ⟨fun _ _=>trivial,?_⟩
    have:=hp.put' (d:=o.dst) (av:=.r .ud) (v:=undef) (by simp only [AV.rel,RV.rel]) hd0
    exact aops_seq2 hQ l _ _ w ((put_n _ _ _).trans hn0) (by rw [put_n]; exact hdl) hop ⟨p,this⟩
   unfold aops at h
   split at h
   · rename_i hg
     exact run rfl h (by simp [wantA,hg])
   · rename_i g want hg
     split at h
     · rename_i ht
       exact skip rfl h (by simp [wantA,hg,ht])
     · rename_i t ht
       split at h
       · rename_i b hb
         by_cases hw : b = want
         · subst hw
           exact run (put_self hb) (h.1 rfl) (by simp [wantA,hg,ht,hb])
         · have hw' : b = !want:=by cases b <;> cases want <;> simp_all
           subst hw'
           exact skip (put_self hb) (h.2 rfl) (by simp [wantA,hg,ht,hb])
       · rename_i hb
         exact skip rfl h (by simp [wantA,hg,ht,hb])
       · exact h.elim
def sops (P : Program) (C : Ctx) (ops : Array Oper) (l : List Oper) (Q : Exit → AS → Prop) (s : AS) : Prop:=∀ a w,SRel C s a w → wpListIn (fnc C.rd) 0 P ops (fun e a' w'=>∃ s',SRel C s' a' w' ∧ Q e s') l a w
variable {Q : Exit → AS → Prop}
theorem awp_long {id : Nat} {l : List Oper} (h : sops P C l.toArray l Q s) : awp P C (.region id l.toArray false) Q s:=fun a w hs=>wpIn_region_list (h a w hs)
theorem sops_take (k : Nat) {l : List Oper} (hd : dstOk (l.take k).toArray s.n = true) (h : ∀ K : AS → Prop,(∀ s',s'.n = s.n → sops P C ops (l.drop k) Q s' → K s') → aops P false ops (l.take k) K s) : sops P C ops l Q s:=fun a w hs=>by
 have h1:=h (fun s'=>s'.n = s.n → sops P C ops (l.drop k) Q s') (fun s' _ hq _=>hq)
 have:=aops_seq2 (Q':=fun e a' w'=>∃ s',SRel C s' a' w' ∧ Q e s') (l2:=l.drop k) (n:=s.n) (fun s' a' w' hn hq hs'=>hq hn a' w' hs') (l.take k) s a w rfl hd h1 hs
 rwa [List.take_append_drop] at this
theorem sops_sub {l : List Oper} {s' : AS} (h : Sub s s') (hq : sops P C ops l Q s') : sops P C ops l Q s:=fun a w hs=>hq a w (h C a w hs)
theorem sops_end {l : List Oper} (hd : dstOk l.toArray s.n = true) (h : ∀ K : AS → Prop,(∀ s,Q .normal s → K s) → aops P false ops l K s) : sops P C ops l Q s:=fun a w hs =>
 aops_seq (fun s a w hq hs=>⟨s,hs,hq⟩) l s a w hd (h _ fun _ h=>h) hs
theorem awp_fitV {c : Code} {n : Nat} {F : (Nat → Nat) → List (Nat × AV)} {R : (Nat → Nat) → List (Nat × RowC)} (h : FitV n F R s) (k : ∀ vs,awp P C c Q (st n (F vs) vs (R vs))) : awp P C c Q s:=by
 obtain ⟨vs,h⟩:=h
 exact zw h (k vs)
theorem awp_joinV {n : Nat} {c d : Code} {Q1 : Exit → AS → Prop} {α : Type} (F : α → (Nat → Nat) → List (Nat × AV)) (R : α → (Nat → Nat) → List (Nat × RowC)) (I : α → Prop)
 (h0 : ∀ s,awp P C d Q1 s → Q .normal s) (h1 : awp P C c (andThen (fun s'=>∃ z,I z ∧ FitV n (F z) (R z) s') Q) s) (h2 : ∀ z vs,I z → awp P C d Q1 (st n (F z vs) vs (R z vs))) : awp P C c Q s:=by
 refine awp_mono ?_ h1
 intro e s' hq
 cases e with
 | normal =>
   obtain ⟨z,hz,hf⟩:=hq
   exact h0 s' (awp_fitV hf fun vs=>h2 z vs hz)
 | _=>exact hq
end
end Go.Oc

namespace Go.Oc
open Go Go.RowKit
set_option linter.unusedSimpArgs false
set_option linter.unusedVariables false
def ICalls (P : Program) (z : Bool) (F : FuncId) (caps : List RV) (xs : List (List RV)) : Prop :=
 callable P F = true ∧ ∀ (w : World) (R : Nat → Prop) (vs : Array Value) (X : XS) (Ψ Θ : Nat → Prop),(∀ b,R b → b < w.heap.size) → RV.relV w R caps vs.toList → X.z = z → (z = false → ∀ b,R b → X.R b) → X.n0 ≤ w.heap.size → YOk P X →
  (∀ b,Ψ b → b < w.heap.size) → (∀ b,Θ b → b < w.heap.size) → (∀ b,R b → ¬ Θ b) → X.X (some xs) w Ψ Θ →
  Calls P F (#[.func (.yield X.l) #[] #[]] ++ vs) w fun e w'=>(∃ v,e = .returned v) ∧ (∃ Ψ' Θ',X.X (some []) w' Ψ' Θ' ∨ X.X none w' Ψ' Θ')
def ipost (P : Program) : Exit → AS → Prop
 | .normal,s=>∃ l z,(s.rows 999).c = .gh P l z (some []) ∨ (s.rows 999).c = .gh P l z none
 | .ret,s=>∃ l z,(s.rows 999).c = .gh P l z (some []) ∨ (s.rows 999).c = .gh P l z none
 | _,_=>False
theorem icalls_st {P : Program} {z : Bool} {f : FuncId} {fn : Func} {c : Code} {n : Nat} {caps : List RV} {xs : List (List RV)} (hf : P.funcs[f]? = some fn) (hb : fn.body = some c) (hc : callable P f = true) (hn : fn.ntmps = n) (hres : fn.results.toList = [])
 (hargs : caps.length + 1 ≤ n) (h : ∀ C l,awp P C c (ipost P) (st n (argL 0 (.yl l :: caps)) (fun _=>0) [(999,.gh P l z (some xs))])) : ICalls P z f caps xs:=by
 refine ⟨hc,fun w R vs0 X Ψ Θ hR hV0 hz hzR hn0 hY hΨ hΘ hRΘ hX=>?_⟩
 have hV : RV.relV w R (.yl X.l :: caps) (#[Value.func (.yield X.l) #[] #[]] ++ vs0).toList:=by
  simp only [RV.relV];exact ⟨Value.func (.yield X.l) #[] #[],vs0.toList,by simp,by simp only [RV.rel],hV0⟩
 generalize #[Value.func (.yield X.l) #[] #[]] ++ vs0 = vs at hV
 have hlen:=RV.relV_length hV
 simp only [Array.length_toList,List.length_cons] at hlen
 let C : Ctx:={ w0:=w,R0:=R,bor:=Θ,pin:=fun _=>none,X:=X }
 let p : Plan:={ R:=R,β:=fun _=>none,γ:=fun _=>1,X:=X,Ψ:=Ψ,Θ:=Θ }
 have hs : SR C p (st n (argL 0 (.yl X.l :: caps)) (fun _=>0) [(999,.gh P X.l z (some xs))]) { tmps:=vs ++ Array.replicate (fn.ntmps - vs.size) undef,defers:=[] } w:={
  base:=⟨rfl,rfl,rfl,Nat.le_refl _,fun _ _ _ _=>rfl⟩
  r0:=fun _ h=>h
  rn:=fun _ h=>.inl h
  rb:=hR
  tm:=fun t=>by
   show (look (argL 0 (.yl X.l :: caps)) t).rel _ _ _ _
   by_cases hmem : ∃ x,(t,x) ∈ argL 0 (RV.yl X.l :: caps)
   · cases e : (RV.yl X.l :: caps)[t]? with
     | none =>
       obtain ⟨x,hx⟩:=hmem
       obtain ⟨i,y,h1,h2⟩:=argL_mem _ hx
       simp only [Nat.zero_add,Prod.mk.injEq] at h1
       rw [← h1.1,e] at h2; cases h2
     | some x =>
       obtain ⟨u,hu,hx⟩:=RV.relV_get hV e
       have : (vs ++ Array.replicate (fn.ntmps - vs.size) undef).getD t undef = u:=by
        have ht : t < vs.size:=by have:=(List.getElem?_eq_some_iff.1 hu).1; simpa using this
        rw [Array.getD_eq_getD_getElem?,Array.getElem?_append_left ht]
        simp only [Array.getElem?_toList] at hu
        rw [hu]; rfl
       have e2:=argL_look (k:=0) e
       rw [Nat.zero_add] at e2
       rw [this,e2]
       simpa only [AV.rel] using hx
   · rw [look_none hmem]
     exact AV.rel_un _ _ _ _
  sz:=by simp only [Array.size_append,Array.size_replicate,st]; omega
  ex:={
   px:=rfl
   n0:=hn0
   ψ0:=fun hz' b hb=>hzR (hz ▸ hz') b hb
   ψl:=hΨ
   θl:=hΘ
   ψb:=fun k b h=>by cases h
   ψr:=hRΘ
   ψo:=fun b h=>h.elim
   θo:=fun b h _=>h
   bo:=fun b h=>h.elim (hΘ b) (fun h=>h.elim)
   ψn:=fun hn=>(hn _ _ _ _ hX).elim
   hd:=fun b h=>h.elim
   rm:=fun _=>rfl
   df:=⟨[],rfl,List.nodup_nil,fun D hD=>by cases hD⟩ }
  rw:=fun k=>by
   show rowRel w p _ k (lookc [(999,RowC.gh P X.l z (some xs))] k)
   rw [lookc_cons,lookc_nil]
   split
   · rename_i e
     simp only [rowRel];exact ⟨e,rfl,rfl,rfl,hz,hY,hX⟩
   · simp only [rowRel]; exact ⟨rfl,rfl⟩
  bl:=fun k b h=>by simp [p] at h
  ij:=fun k k' b h=>by simp [p] at h
  cap:=fun k=>by simp [p,maxLen]
  pn:=fun k x h=>by cases h
  lk:=fun j km n l cur h _=>by
   have h' : lookc [(999,RowC.gh P X.l z (some xs))] j = .mi km n l cur:=h
   rw [lookc_cons,lookc_nil] at h'
   split at h' <;> cases h' }
 refine callsIn_wide.1 (callsIn_of_wp_marks (n:=0) hf hb trivial (wpIn_mono (h C X.l _ w ⟨p,hs⟩) ?_))
 rintro e a' w' ⟨s',⟨p',hs'⟩,hq⟩
 have fin : ∀ (a' : Act) (w' : World),SR C p' s' a' w' → (∃ l z,(s'.rows 999).c = .gh P l z (some []) ∨ (s'.rows 999).c = .gh P l z none) →
  ∃ v,(results fn a'.tmps).run P w' = .ok v w' ∧ ((∃ v',Ending.returned v = .returned v') ∧ ∃ Ψ' Θ',X.X (some []) w' Ψ' Θ' ∨ X.X none w' Ψ' Θ'):=fun a' w' hs' ⟨l,z',hq⟩=>by
  have hm : (fn.results.mapM (resOp a'.tmps)).run P w' = .ok #[] w':=by
   rw [Array.mapM_eq_mapM_toList,hres]
   simp only [Sem.run_map,List.mapM_nil,Sem.run_pure,Result.andThen_ok]
  refine ⟨.tuple #[],by rw [results_eq,Sem.run_bind,hm]; simp,⟨_,rfl⟩,p'.Ψ,p'.Θ,?_⟩
  have hpx : p'.X = X:=hs'.ex.px
  have hr:=hs'.rw 999
  rcases hq with hq | hq
  · rw [hq] at hr
    simp only [rowRel] at hr
    rw [hpx] at hr
    exact .inl hr.2.2.2.2.2.2
  · rw [hq] at hr
    simp only [rowRel] at hr
    rw [hpx] at hr
    exact .inr hr.2.2.2.2.2.2
 cases e with
 | normal=>exact hs'.leave fun a'' w'' _ hs''=>fin a'' w'' hs'' hq
 | ret=>exact hs'.leave fun a'' w'' _ hs''=>fin a'' w'' hs'' hq
 | _=>exact hq.elim
section
variable {P : Program} {C : Ctx} {p p1 p3 : Plan} {s s1 s3 : AS} {a a1 a3 : Act} {w w1 w2 w3 : World} {L : Nat} {R : Nat → Prop}
def Cin (C : Ctx) (p : Plan) (R : Nat → Prop) (w : World) (rd : Option Nat) (Hd : Nat → Prop) : Ctx :=
 { w0:=w,R0:=fun b=>p.R b ∨ R b,bor:=fun b=>C.bor b ∧ ∃ k,1000 ≤ k ∧ p.β k = some b,pin:=C.pin,own:=fun b=>∃ k,p.β k = some b ∧ ¬ (1000 ≤ k ∧ C.bor b),X:=C.X,rd:=rd,hd:=Hd }
theorem own_of {k b : Nat} (h : p.β k = some b) : (1000 ≤ k ∧ (C.bor b ∧ ∃ k,1000 ≤ k ∧ p.β k = some b)) ∨ ∃ k,p.β k = some b ∧ ¬ (1000 ≤ k ∧ C.bor b):=by
 by_cases e : 1000 ≤ k ∧ C.bor b
 · exact .inl ⟨e.1,e.2,k,e.1,h⟩
 · exact .inr ⟨k,h,e⟩
theorem SR.into (h : SR C p s a w) (hn : ∀ o w Ψ Θ,¬ C.X.X o w Ψ Θ) (hos : w2.os = w.os) (htape : w2.tape = w.tape) (hout : w2.output = w.output) (hsize : w2.heap.size = w.heap.size) (hoth : ∀ b,b ≠ L → w2.heap[b]? = w.heap[b]?)
 (hLR : ¬ p.R L) (hLβ : ∀ k,p.β k ≠ some L) (hR : ∀ b,R b → b < w.heap.size ∧ ∀ k,p.β k ≠ some b) {a' : Act} {tm' : Nat → AV} (htm : ∀ t,(tm' t).rel w2 { p with R:=fun b=>p.R b ∨ R b } s.ver (a'.tmps.getD t undef))
 (hsz : a'.tmps.size = s.n) (hdf : a'.defers = []) {rd : Option Nat} {Hd : Nat → Prop} (hHd : ∀ b,Hd b → b < w.heap.size ∧ ¬ C.bor b ∧ ¬ p.R b ∧ ¬ R b ∧ ∀ k,p.β k ≠ some b) (hC : C.X = XS.none) :
 SR (Cin C p R w2 rd Hd) { p with R:=fun b=>p.R b ∨ R b } { s with tm:=tm' } a' w2:=by
 have hk : Kept w w2 p { p with R:=fun b=>p.R b ∨ R b } s.ver s.ver :=
  ⟨fun _ h=>.inl h,fun ad hr=>World.cell?_of_block (hoth _ fun e=>hLR (e ▸ hr)),fun _=>Nat.le_refl _,fun _ _=>⟨rfl,rfl⟩⟩
 have hψ:=h.ex.ψn hn
 exact {
  base:=⟨rfl,rfl,rfl,Nat.le_refl _,fun _ _ _ _=>rfl⟩
  r0:=fun _ h=>h
  rn:=fun _ h=>.inl h
  rb:=fun b hb=>by rw [hsize]; exact hb.elim (h.rb b) (fun hb=>(hR b hb).1)
  tm:=htm
  sz:=hsz
  ex:={
   px:=h.ex.px
   n0:=by show C.X.n0 ≤ _; rw [hC]; exact Nat.zero_le _
   ψ0:=fun hz=>by have : C.X.z = false:=hz; rw [hC] at this; cases this
   ψl:=fun b hb=>((hψ b).1 hb).elim
   θl:=fun b hb=>((hψ b).2 hb).elim
   ψb:=fun k b _=>hψ b
   ψr:=fun b _=>(hψ b).2
   ψo:=fun b _=>by show C.X.n0 ≤ _; rw [hC]; exact Nat.zero_le _
   θo:=fun b hb=>((hψ b).2 hb).elim
   bo:=fun b hb=>by
    show b < w2.heap.size
    rw [hsize]
    rcases hb with ⟨_,k,_,hk⟩ | ⟨k,hk,_⟩
    · exact (h.bl k b hk).1
    · exact (h.bl k b hk).1
   ψn:=fun _ b=>hψ b
   hd:=fun b hb=>by
    obtain ⟨g1,g2,g3,g4,g5⟩:=hHd b hb
    exact ⟨by show b < w2.heap.size; rw [hsize]; exact g1,fun ⟨g,_⟩=>g2 g,fun ⟨k,g,_⟩=>g5 k g,by rw [hsize]; exact g1,fun g=>g.elim g3 g4,(hψ b).1,(hψ b).2,g5⟩
   rm:=fun _=>hdf
   df:=⟨[],hdf,List.nodup_nil,fun D hD=>by cases hD⟩ }
  rw:=fun k=>by
   by_cases e : k = 999
   · have hr:=h.rw k
     show rowRel w2 _ s.ver k (s.rows k).c
     cases hc : (s.rows k).c with
     | gh P' l z left =>
       rw [hc] at hr
       simp only [rowRel] at hr
       exact (hn _ _ _ _ (h.ex.px ▸ hr.2.2.2.2.2.2)).elim
     | _ =>
       refine rowRel_mono hk (.inr ⟨rfl,rfl,rfl,hos,htape,hout,Nat.le_of_eq hsize.symm,fun b hb=>((hψ b).1 hb).elim⟩) rfl rfl (fun b hb=>hoth b fun e=>hLβ k (e ▸ hb)) _ (fun km _ _ _ _ _ b hb=>hoth b fun e=>hLβ km (e ▸ hb)) (by rw [hc] at hr; exact hr)
   · exact rowRel_mono hk (.inl e) rfl rfl (fun b hb=>hoth b fun e=>hLβ k (e ▸ hb)) _ (fun km _ _ _ _ _ b hb=>hoth b fun e=>hLβ km (e ▸ hb)) (h.rw k)
  bl:=fun k b hb=>⟨by rw [hsize]; exact (h.bl k b hb).1,fun hr=>hr.elim (h.bl k b hb).2.1 (fun hr=>(hR b hr).2 k hb),.inr (own_of hb)⟩
  ij:=h.ij
  cap:=h.cap
  pn:=h.pn
  lk:=h.lk }
structure Hop (C : Ctx) (p : Plan) (w : World) (L : Nat) (R : Nat → Prop) (p3 : Plan) (w3 : World) : Prop where
 os : w3.os = w.os
 tape : w3.tape = w.tape
 output : w3.output = w.output
 size : w.heap.size ≤ w3.heap.size
 heap : ∀ b,b < w.heap.size → (∀ k,p.β k ≠ some b) → b ≠ L → w3.heap[b]? = w.heap[b]?
 r : ∀ b,p.R b → p3.R b
 rn : ∀ b,p3.R b → p.R b ∨ R b ∨ w.heap.size ≤ b ∨ ∃ k,p.β k = some b ∧ ¬ (1000 ≤ k ∧ C.bor b)
 bl : ∀ k b,p3.β k = some b → w.heap.size ≤ b ∨ (1000 ≤ k ∧ C.bor b ∧ ∃ k,1000 ≤ k ∧ p.β k = some b) ∨ ∃ k,p.β k = some b ∧ ¬ (1000 ≤ k ∧ C.bor b)
theorem Hop.of (hos : w2.os = w.os) (htape : w2.tape = w.tape) (hout : w2.output = w.output) (hsize : w2.heap.size = w.heap.size) (hoth : ∀ b,b ≠ L → w2.heap[b]? = w.heap[b]?) {rd : Option Nat} {Hd : Nat → Prop}
 (h : SR (Cin C p R w2 rd Hd) p3 s3 a3 w3) : Hop C p w L R p3 w3 where
 os:=h.base.os.trans hos
 tape:=h.base.tape.trans htape
 output:=h.base.output.trans hout
 size:=hsize ▸ h.base.size
 heap:=fun b hb hn hl=>(h.base.block b (by show b < w2.heap.size; rw [hsize]; exact hb) (fun ⟨_,k,_,hk⟩=>hn k hk) (fun ⟨k,hk,_⟩=>hn k hk)).trans (hoth b hl)
 r:=fun b hb=>h.r0 b (.inl hb)
 rn:=fun b hb=>by
  rcases h.rn b hb with g | g | g
  · exact g.elim .inl (fun g=>.inr (.inl g))
  · exact .inr (.inr (.inl (by rw [← hsize]; exact g)))
  · exact .inr (.inr (.inr g))
 bl:=fun k b hb=>by
  rcases (h.bl k b hb).2.2 with g | ⟨g1,g2,k',g3,g4⟩ | g
  · exact .inl (by rw [← hsize]; exact g)
  · exact .inr (.inl ⟨g1,g2,k',g3,g4⟩)
  · exact .inr (.inr g)
theorem Hop.trans (h : Hop C p w L R p1 w1) {C' : Ctx} (hCb : ∀ b,C'.bor b ↔ C.bor b ∧ ∃ k,1000 ≤ k ∧ p.β k = some b) (h' : Hop C' p1 w1 L (fun _=>False) p3 w3) : Hop C p w L R p3 w3 where
 os:=h'.os.trans h.os
 tape:=h'.tape.trans h.tape
 output:=h'.output.trans h.output
 size:=Nat.le_trans h.size h'.size
 heap:=fun b hb hn hl=>by
  refine (h'.heap b (Nat.lt_of_lt_of_le hb h.size) (fun k hk=>?_) hl).trans (h.heap b hb hn hl)
  rcases h.bl k b hk with g | ⟨_,_,k',_,g⟩ | ⟨k',g,_⟩
  · omega
  · exact hn k' g
  · exact hn k' g
 r:=fun b hb=>h'.r b (h.r b hb)
 rn:=fun b hb=>by
  rcases h'.rn b hb with g | g | g | ⟨k,g,g'⟩
  · exact h.rn b g
  · exact g.elim
  · exact .inr (.inr (.inl (Nat.le_trans h.size g)))
  · rcases h.bl k b g with g1 | ⟨g1,g2,g3⟩ | g1
    · exact .inr (.inr (.inl g1))
    · exact (g' ⟨g1,(hCb b).2 ⟨g2,g3⟩⟩).elim
    · exact .inr (.inr (.inr g1))
 bl:=fun k b hb=>by
  rcases h'.bl k b hb with g | ⟨g1,g2,_⟩ | ⟨k',g1,g2⟩
  · exact .inl (Nat.le_trans h.size g)
  · exact .inr (.inl ⟨g1,((hCb b).1 g2).1,((hCb b).1 g2).2⟩)
  · rcases h.bl k' b g1 with q | ⟨q1,q2,q3⟩ | q
    · exact .inl q
    · exact (g2 ⟨q1,(hCb b).2 ⟨q2,q3⟩⟩).elim
    · exact .inr (.inr q)
theorem Hop.put (h : Hop C p w L R p3 w3) {o : Obj} : Hop C p w L R p3 (w3.putObj L o) where
 os:=h.os
 tape:=h.tape
 output:=h.output
 size:=by rw [World.putObj_size]; exact h.size
 heap:=fun b hb hn hl=>(World.putObj_heap_other hl).trans (h.heap b hb hn hl)
 r:=h.r
 rn:=h.rn
 bl:=h.bl
theorem SR.land (h0 : SR C p s a w) (hn : ∀ o w Ψ Θ,¬ C.X.X o w Ψ Θ) (hL0 : C.w0.heap.size ≤ L) (hLm : ∀ d ∈ a.defers,d.target ≠ .collected L) (hop : Hop C p w L R p3 w3)
 (hR : ∀ b,R b → b < w.heap.size ∧ (∀ d ∈ a.defers,d.target ≠ .collected b) ∧ ¬ C.hd b ∧ (C.R0 b ∨ C.w0.heap.size ≤ b ∨ C.own b)) {C' : Ctx} (hpin : C'.pin = C.pin) (hX : C'.X = C.X) (h3 : SR C' p3 s3 a3 w2) (hLR : ¬ p3.R L) (hLβ : ∀ k,p3.β k ≠ some L)
 (hos : w3.os = w2.os) (htape : w3.tape = w2.tape) (hout : w3.output = w2.output) (hsize : w3.heap.size = w2.heap.size) (hoth : ∀ b,b ≠ L → w3.heap[b]? = w2.heap[b]?) :
 SR C p3 { n:=s.n,tm:=fun _=>.r .un,rows:=s3.rows } a w3:=by
 have hψ:=h3.ex.ψn (by rw [hX]; exact hn)
 have hk : Kept w2 w3 p3 p3 s3.ver s3.ver:=⟨fun _ h=>h,fun ad hr=>World.cell?_of_block (hoth _ fun e=>hLR (e ▸ hr)),fun _=>Nat.le_refl _,fun _ _=>⟨rfl,rfl⟩⟩
 have hx : KX w2 w3 p3 p3:=⟨rfl,rfl,rfl,hos,htape,hout,Nat.le_of_eq hsize.symm,fun b hb=>((hψ b).1 hb).elim⟩
 have hβC : ∀ k b,p3.β k = some b → C.w0.heap.size ≤ b ∨ (1000 ≤ k ∧ C.bor b) ∨ C.own b:=fun k b hb=>by
  rcases hop.bl k b hb with g | ⟨g1,g2,_⟩ | ⟨k',g1,g2⟩
  · exact .inl (Nat.le_trans h0.base.size g)
  · exact .inr (.inl ⟨g1,g2⟩)
  · rcases (h0.bl k' b g1).2.2 with q | q | q
    · exact .inl q
    · exact (g2 q).elim
    · exact .inr (.inr q)
 have hout' : ∀ b,b < w.heap.size → (∀ k,p.β k ≠ some b) → (∀ k,p3.β k = some b → 1000 ≤ k ∧ C.bor b ∧ ∃ k,1000 ≤ k ∧ p.β k = some b):=fun b hb hn k hk=>by
  rcases hop.bl k b hk with g | g | ⟨k',g1,_⟩
  · omega
  · exact g
  · exact (hn k' g1).elim
 exact {
  base:=⟨hop.os.trans h0.base.os,hop.tape.trans h0.base.tape,hop.output.trans h0.base.output,Nat.le_trans h0.base.size hop.size,fun b hb hbor hown=>by
   refine (hop.heap b (Nat.lt_of_lt_of_le hb h0.base.size) (fun k hk=>?_) (fun e=>by omega)).trans (h0.base.block b hb hbor hown)
   rcases (h0.bl k b hk).2.2 with g | g | g
   · omega
   · exact hbor g.2
   · exact hown g⟩
  r0:=fun b hb=>hop.r b (h0.r0 b hb)
  rn:=fun b hb=>by
   rcases hop.rn b hb with g | g | g | ⟨k,g1,g2⟩
   · exact h0.rn b g
   · exact (hR b g).2.2.2
   · exact .inr (.inl (Nat.le_trans h0.base.size g))
   · rcases (h0.bl k b g1).2.2 with q | q | q
     · exact .inr (.inl q)
     · exact (g2 q).elim
     · exact .inr (.inr q)
  rb:=fun b hb=>hsize ▸ h3.rb b hb
  tm:=fun t=>AV.rel_un _ _ _ _
  sz:=h0.sz
  ex:={
   px:=h3.ex.px.trans hX
   n0:=h0.ex.n0
   ψ0:=h0.ex.ψ0
   ψl:=fun b hb=>((hψ b).1 hb).elim
   θl:=fun b hb=>((hψ b).2 hb).elim
   ψb:=fun k b _=>hψ b
   ψr:=fun b _=>(hψ b).2
   ψo:=h0.ex.ψo
   θo:=fun b hb=>((hψ b).2 hb).elim
   bo:=h0.ex.bo
   ψn:=fun _ b=>hψ b
   hd:=fun b hb=>by
    obtain ⟨k1,k2,k3,k4,k5,k6,k7,k8⟩:=h0.ex.hd b hb
    refine ⟨k1,k2,k3,Nat.lt_of_lt_of_le k4 hop.size,fun g=>?_,(hψ b).1,(hψ b).2,fun k hk=>?_⟩
    · rcases hop.rn b g with g | g | g | ⟨k,g,_⟩
      · exact k5 g
      · exact (hR b g).2.2.1 hb
      · omega
      · exact k8 k g
    · exact k2 (hout' b k4 k8 k hk).2.1
   rm:=h0.ex.rm
   df:=by
    obtain ⟨Ds,g1,g2,g3⟩:=h0.ex.df
    refine ⟨Ds,g1,g2,fun D hD=>?_⟩
    have hmem : ({ target:=.collected D,args:=#[] } : Deferred) ∈ a.defers:=by rw [g1]; exact List.mem_map.2 ⟨D,hD,rfl⟩
    obtain ⟨k1,k2,k3,k4,k5,k6⟩:=g3 D hD
    have hlt : D < w.heap.size:=(Array.getElem?_eq_some_iff.1 k1).1
    refine ⟨(hop.heap D hlt k4 fun e=>hLm _ hmem (by rw [e])).trans k1,k2,fun g=>?_,fun k hk=>?_,(hψ D).1,(hψ D).2⟩
    · rcases hop.rn D g with g | g | g | ⟨k,g,_⟩
      · exact k3 g
      · exact (hR D g).2.1 _ hmem rfl
      · omega
      · exact k4 k g
    · have:=h0.ex.bo D (.inl (hout' D hlt k4 k hk).2.1); omega }
  rw:=fun k=>by
   show rowRel w3 p3 s3.ver k (s3.rows k).c
   exact rowRel_mono hk (.inr hx) rfl rfl (fun b hb=>hoth b fun e=>hLβ k (e ▸ hb)) _ (fun km _ _ _ _ _ b hb=>hoth b fun e=>hLβ km (e ▸ hb)) (h3.rw k)
  bl:=fun k b hb=>⟨by rw [hsize]; exact (h3.bl k b hb).1,(h3.bl k b hb).2.1,hβC k b hb⟩
  ij:=h3.ij
  cap:=h3.cap
  pn:=fun k x hx=>h3.pn k x (by rw [hpin]; exact hx)
  lk:=h3.lk }
end
end Go.Oc

namespace Go.Oc
open Go Go.RowKit
set_option linter.unusedSimpArgs false
set_option linter.unusedVariables false
section
variable {P : Program} {C : Ctx} {p : Plan} {s : AS} {a : Act} {w : World}
theorem SR.enter (h : SR C p s a w) (hrd : C.rd = none) (o1 : Loop) :
 SR C p s { tmps:=a.tmps,defers:={ target:=.collected w.heap.size,args:=#[] } :: a.defers } ((w.alloc (.deferred (some []))).alloc (.loop o1)):=by
 have h1 : SR C p s a ((w.alloc (.deferred (some []))).alloc (.loop o1)) :=
  h.below (R':=p.R) (((Below.refl _ w).alloc (Nat.le_refl _) _).alloc (by simp) _) (fun _ h=>h) (fun _ h=>.inl h) (fun b hb=>by have:=h.rb b hb; simp; omega)
 have hnew : ((w.alloc (.deferred (some []))).alloc (.loop o1)).heap[w.heap.size]? = some (.deferred (some [])):=(Below.heap_alloc _ _ _ (by simp)).trans (World.alloc_heap_new w _)
 refine h1.other rfl rfl rfl rfl (Nat.le_refl _) (fun _ _ _=>rfl) { h1.ex with rm:=fun hr=>absurd hr (by rw [hrd]; simp),df:=?_ }
 obtain ⟨Ds,g1,g2,g3⟩:=h.ex.df
 obtain ⟨Ds',g1',_,g3'⟩:=h1.ex.df
 have he : Ds' = Ds:=marks_inj (g1'.symm.trans g1)
 subst he
 refine ⟨w.heap.size :: Ds',by rw [g1]; rfl,List.nodup_cons.2 ⟨fun hD=>?_,g2⟩,fun D hD=>?_⟩
 · have:=(Array.getElem?_eq_some_iff.1 (g3 _ hD).1).1; omega
 · rcases List.mem_cons.1 hD with rfl | hD
   · exact ⟨hnew,h.base.size,fun hr=>by have:=h.rb _ hr; omega,fun k hk=>by have:=(h.bl k _ hk).1; omega,fun hr=>by have:=h.ex.ψl _ hr; omega,fun hr=>by have:=h.ex.θl _ hr; omega⟩
   · exact g3' D hD
theorem SR.wait (h : SR C p s a w) (hdead : (s.rows 0).c = .dead) (ts : List Nat) :
 SR C p { n:=s.n,tm:=fun _=>.r .un,rows:=upd s.rows 0 ⟨(s.rows 0).ver,.sus (ts.map s.tm) (ts.map fun t=>a.tmps.getD t undef)⟩ } a w:=by
 have hv : AS.ver { n:=s.n,tm:=fun _=>.r .un,rows:=upd s.rows 0 ⟨(s.rows 0).ver,.sus (ts.map s.tm) (ts.map fun t=>a.tmps.getD t undef)⟩ } = s.ver:=by
  funext j
  show (upd s.rows 0 _ j).ver = (s.rows j).ver
  unfold upd; split
  · rename_i e; subst e; rfl
  · rfl
 exact {
  base:=h.base
  r0:=h.r0
  rn:=h.rn
  rb:=h.rb
  tm:=fun t=>AV.rel_un _ _ _ _
  sz:=h.sz
  ex:=h.ex
  rw:=fun k=>by
   rw [hv]
   show rowRel w p s.ver k (upd s.rows 0 _ k).c
   by_cases e : k = 0
   · subst e
     rw [upd_same]
     have hr:=h.rw 0
     rw [hdead] at hr
     simp only [rowRel] at hr ⊢
     refine ⟨hr.1,hr.2,?_⟩
     clear hv hr
     induction ts with
     | nil=>simp [AV.relV]
     | cons t ts ih=>simp only [List.map_cons,AV.relV]; exact ⟨_,_,rfl,h.tm t,ih⟩
   · rw [upd_other _ _ e]; exact h.rw k
  bl:=h.bl
  ij:=h.ij
  cap:=h.cap
  pn:=fun k x hx=>by rw [hv]; exact h.pn k x hx
  lk:=fun j km n l cur hj hn=>by
   rw [hv] at hn
   show (upd s.rows 0 _ km).c.isMpi = true
   have hj' : (upd s.rows 0 ⟨(s.rows 0).ver,.sus (ts.map s.tm) (ts.map fun t=>a.tmps.getD t undef)⟩ j).c = .mi km n l cur:=hj
   by_cases e : j = 0
   · subst e; rw [upd_same] at hj'; cases hj'
   · rw [upd_other _ _ e] at hj'
     have h5:=h.lk j km n l cur hj' hn
     have e2 : km ≠ 0:=fun e2=>by rw [e2,hdead] at h5; cases h5
     rw [upd_other _ _ e2]; exact h5 }
def psA : List Nat → List RV → (Nat → AV) → Nat → AV
 | t :: ts,x :: xs,tm=>psA ts xs (upd tm t (.r x))
 | _,_,tm=>tm
theorem look_zip {ver : Nat → Nat} {f : Nat → Value} : ∀ {ts : List Nat} {avs : List AV},AV.relV w p ver avs (ts.map f) → ∀ t,(look (ts.zip avs) t).rel w p ver (f t)
 | [],_,_,t=>by simp only [List.zip_nil_left]; exact AV.rel_un _ _ _ _
 | _ :: _,[],_,t=>by simp only [List.zip_nil_right]; exact AV.rel_un _ _ _ _
 | t0 :: ts, x :: avs, h, t => by
   simp only [List.map_cons,AV.relV] at h
   obtain ⟨u,us,he,h1,h2⟩:=h
   injection he with e1 e2
   subst e1 e2
   simp only [List.zip_cons_cons]
   show ((if t = t0 then x else look (ts.zip avs) t)).rel w p ver (f t)
   split
   · rename_i e; subst e; exact h1
   · exact look_zip h2 t
theorem psA_rel {ver : Nat → Nat} : ∀ (ts : List Nat) (es : List RV) (vs : List Value) (tm : Nat → AV) (tmps : Array Value),RV.relV w p.R es vs → (∀ t ∈ ts,t < tmps.size) → (∀ t,(tm t).rel w p ver (tmps.getD t undef)) →
 ((ts.zip vs).foldl (fun tmps (x : Nat × Value)=>tmps.setIfInBounds x.1 x.2) tmps).size = tmps.size ∧ ∀ t,(psA ts es tm t).rel w p ver (((ts.zip vs).foldl (fun tmps (x : Nat × Value)=>tmps.setIfInBounds x.1 x.2) tmps).getD t undef)
 | [],_,_,tm,tmps,_,_,h=>⟨rfl,h⟩
 | t0 :: ts, [], vs, tm, tmps, hV, _, h => by
   simp only [RV.relV] at hV
   subst hV
   exact ⟨rfl,h⟩
 | t0 :: ts, x :: es, vs, tm, tmps, hV, hlt, h => by
   simp only [RV.relV] at hV
   obtain ⟨u,us,rfl,h1,h2⟩:=hV
   simp only [List.zip_cons_cons,List.foldl_cons]
   have h3:=psA_rel (ver:=ver) ts es us (upd tm t0 (.r x)) (tmps.setIfInBounds t0 u) h2 (fun t ht=>by simpa using hlt t (by simp [ht])) (fun t=>by
    by_cases e : t = t0
    · subst e
      rw [upd_same]
      have : t < tmps.size:=hlt t (by simp)
      have e2 : (tmps.setIfInBounds t u).getD t undef = u:=by simp [Array.getD,this]
      rw [e2]
      simpa only [AV.rel] using h1
    · rw [upd_other _ _ e]
      have e2 : (tmps.setIfInBounds t0 u).getD t undef = tmps.getD t undef:=by simp only [Array.getD_eq_getD_getElem?,Array.getElem?_setIfInBounds_ne (Ne.symm e)]
      rw [e2]; exact h t)
   exact ⟨h3.1.trans (by simp),h3.2⟩
theorem look_nil' : look [] = fun _=>AV.r .un:=funext fun _=>rfl
def rpost (n : Nat) (I : List (List RV) → List Value → AS → Prop) (J : Code → List Value → AS → Prop) (rest : List (List RV)) (us : List Value) : Exit → AS → Prop
 | .normal,s=>∃ s4,Sub s s4 ∧ I rest us ⟨n,look [],s4.rows⟩
 | .ret,s=>∃ s4,Sub s s4 ∧ J .ret us ⟨n,look [],s4.rows⟩
 | .exit id,s=>∃ s4,Sub s s4 ∧ J (.exit id) us ⟨n,look [],s4.rows⟩
 | .goto l,s=>∃ s4,Sub s s4 ∧ J (.goto l) us ⟨n,look [],s4.rows⟩
 | _,_=>False
def XJ (C : Ctx) (aL : Act) (L : Nat) (rec : LoopState → Option Code → Loop) (I : List (List RV) → AS → Prop) (J : Code → AS → Prop) (o : Option (List (List RV))) (w : World) (Ψ Θ : Nat → Prop) : Prop :=
 ∃ p s, SR C p s aL w ∧ s.n = aL.tmps.size ∧ (match o with
   | some left=>I left s ∧ w.heap[L]? = some (.loop (rec .ready none))
   | none=>∃ c,J c s ∧ w.heap[L]? = some (.loop (rec .done (some c)))) ∧ ¬ p.R L ∧ (∀ k,p.β k ≠ some L) ∧
   (∀ b,Ψ b ↔ p.R b ∨ (∃ k,p.β k = some b) ∨ (b < C.w0.heap.size ∧ ¬ C.bor b ∧ ¬ C.own b) ∨ b = L ∨ C.hd b ∨ ∃ d ∈ aL.defers,d.target = .collected b) ∧ (∀ b,Θ b ↔ (∃ k,p.β k = some b) ∨ b = L)
theorem XJ.st (hn : ∀ o w Ψ Θ,¬ C.X.X o w Ψ Θ) {aL : Act} {L : Nat} {rec : LoopState → Option Code → Loop} {I : List (List RV) → AS → Prop} {J : Code → AS → Prop} {o : Option (List (List RV))} {w w' : World} {Ψ Θ : Nat → Prop} (h : XJ C aL L rec I J o w Ψ Θ)
 (hos : w'.os = w.os) (htape : w'.tape = w.tape) (hout : w'.output = w.output) (hsize : w.heap.size ≤ w'.heap.size) (hh : ∀ b,Ψ b → w'.heap[b]? = w.heap[b]?) : XJ C aL L rec I J o w' Ψ Θ:=by
 obtain ⟨p,s,hS,hsn,ho,hLR,hLβ,hΨ,hΘ⟩:=h
 have hψ:=hS.ex.ψn hn
 refine ⟨p,s,hS.other rfl hos htape hout hsize (fun b hb hf=>hh b ((hΨ b).2 ?_)) ?_,hsn,?_,hLR,hLβ,hΨ,hΘ⟩
 · rcases hf with g | g | g | g
   · exact .inl g
   · exact .inr (.inl g)
   · exact .inr (.inr (.inl g))
   · exact ((hψ b).1 g).elim
 · obtain ⟨Ds,g1,g2,g3⟩:=hS.ex.df
   exact { hS.ex with
    ψl:=fun b hb=>((hψ b).1 hb).elim
    θl:=fun b hb=>((hψ b).2 hb).elim
    hd:=fun b hb=>by
     obtain ⟨k1,k2,k3,k4,k5⟩:=hS.ex.hd b hb
     exact ⟨k1,k2,k3,Nat.lt_of_lt_of_le k4 hsize,k5⟩
    df:=⟨Ds,g1,g2,fun D hD=>by
     obtain ⟨k1,k2⟩:=g3 D hD
     refine ⟨(hh D ((hΨ D).2 (.inr (.inr (.inr (.inr (.inr ⟨{ target:=.collected D,args:=#[] },?_,rfl⟩))))))).trans k1,k2⟩
     rw [g1]; exact List.mem_map.2 ⟨D,hD,rfl⟩⟩ }
 · have hL:=hh L ((hΨ L).2 (.inr (.inr (.inr (.inl rfl)))))
   cases o with
   | some left=>exact ⟨ho.1,hL.trans ho.2⟩
   | none =>
     obtain ⟨c,h1,h2⟩:=ho
     exact ⟨c,h1,hL.trans h2⟩
theorem callee_eval (h : SR C p s a w) {f : Operand} {F : FuncId} {cs : List AV} (hF : callee? (s.ev f) = some (F,cs)) : ∃ vs : Array Value,a.eval f = .func (.func F) #[] vs ∧ AV.relV w p s.ver cs vs.toList:=by
 have hx:=h.ev f
 unfold callee? at hF
 split at hF
 · rename_i g cs' e
   injection hF with hF
   injection hF with h1 h2
   subst h1 h2
   rw [e] at hx
   simp only [AV.rel,RV.rel] at hx
   obtain ⟨vs,hv,hV⟩:=hx
   exact ⟨vs,hv,AV.relV_map_r hV⟩
 · rename_i g cs' e
   injection hF with hF
   injection hF with h1 h2
   subst h1 h2
   rw [e] at hx
   simp only [AV.rel] at hx
   exact hx
 · cases hF
theorem SR.awake (h : SR C p s a w) {avs : List AV} {ts : List Nat} (hrow : (s.rows 0).c = .sus avs (ts.map fun t=>a.tmps.getD t undef)) : SR C p ⟨s.n,look (ts.zip avs),s.rows⟩ a w :=
 { h with
   tm:=fun t=>by
    have hr:=h.rw 0
    rw [hrow] at hr
    simp only [rowRel] at hr
    exact look_zip (f:=fun t=>a.tmps.getD t undef) hr.2.2 t }
theorem putObj_other {w : World} {L : Nat} {o : Obj} : ∀ b,b ≠ L → (w.putObj L o).heap[b]? = w.heap[b]?:=fun b hb=>World.putObj_heap_other hb
theorem SR.turn (h : SR C p s a w) {L : Nat} {o : Obj} (hLR : ¬ p.R L) (hLβ : ∀ k,p.β k ≠ some L) (hL0 : C.w0.heap.size ≤ L) (hψ : ∀ b,¬ p.Ψ b ∧ ¬ p.Θ b) (hLm : ∀ d ∈ a.defers,d.target ≠ .collected L) : SR C p s a (w.putObj L o):=by
 refine h.other rfl rfl rfl rfl (Nat.le_of_eq World.putObj_size.symm) (fun b _ hb=>putObj_other b fun e=>?_) ?_
 · subst e
   rcases hb with g | ⟨k,g⟩ | g | g
   · exact hLR g
   · exact hLβ k g
   · omega
   · exact (hψ b).1 g
 · obtain ⟨Ds,g1,g2,g3⟩:=h.ex.df
   exact { h.ex with
    ψl:=fun b hb=>((hψ b).1 hb).elim
    θl:=fun b hb=>((hψ b).2 hb).elim
    hd:=fun b hb=>by rw [World.putObj_size]; exact h.ex.hd b hb
    df:=⟨Ds,g1,g2,fun D hD=>by
     obtain ⟨k1,k2⟩:=g3 D hD
     refine ⟨(putObj_other D fun e=>hLm { target:=.collected D,args:=#[] } ?_ (by rw [e])).trans k1,k2⟩
     rw [g1]; exact List.mem_map.2 ⟨D,hD,rfl⟩⟩ }
set_option maxHeartbeats 400000 in
theorem awp_rangeFunc {g : Operand} {ps : Array Tmp} {assign body : Code} {Q : Exit → AS → Prop} (hrd : C.rd = none) (hC : C.X = XS.none) {F : FuncId} {cs : List AV} {args : List RV} {xs : List (List RV)} {z : Bool}
 (hF : callee? (s.ev g) = some (F,cs)) (hcap0 : ∀ (p : Plan) (a : Act) (w : World),SR C p s a w → ∀ vs : List Value,AV.relV w p s.ver cs vs → ∃ Rx : Nat → Prop,(∀ b,Rx b → C.hd b ∧ z = true) ∧ RV.relV w (fun b=>p.R b ∨ Rx b) args vs) (hI : ICalls P z F args xs) (hdead : (s.rows 0).c = .dead) (ts : List Nat) (hps : ∀ t ∈ ps.toList,t < s.n)
 (I : List (List RV) → List Value → AS → Prop) (J : Code → List Value → AS → Prop)
 (h0 : ∀ us,I xs us { n:=s.n,tm:=look [],rows:=upd s.rows 0 ⟨(s.rows 0).ver,.sus (ts.map s.tm) us⟩ })
 (round : ∀ e rest us s',s'.n = s.n → I (e :: rest) us s' → e.length = ps.size ∧ ∃ avs,(s'.rows 0).c = .sus avs us ∧ ∀ C,awp P C assign (fun x s2=>x = .normal ∧ ∀ C,awp P C body (rpost s.n I J rest us) s2) ⟨s.n,psA ps.toList e (look (ts.zip avs)),s'.rows⟩)
 (done : ∀ us s',s'.n = s.n → I [] us s' → ∃ avs,(s'.rows 0).c = .sus avs us ∧ Q .normal ⟨s.n,look (ts.zip avs),s'.rows⟩)
 (stop : ∀ c us s',s'.n = s.n → J c us s' → ∃ avs,(s'.rows 0).c = .sus avs us ∧ awp P C c Q ⟨s.n,look (ts.zip avs),s'.rows⟩) : awp P C (.rangeFunc g ps assign body) Q s:=by
 rintro a w ⟨p,hS⟩
 have hn : ∀ o w Ψ Θ,¬ C.X.X o w Ψ Θ:=fun o w Ψ Θ h=>by rw [hC] at h; exact h
 have hF0 : fnc C.rd = Fence.wide:=by rw [hrd]; rfl
 rw [hF0]
 refine wpIn_rangeFunc fun fn _=>?_
 obtain ⟨vsC,hgv,hcs⟩:=callee_eval hS hF
 have hψ0:=hS.ex.ψn hn
 obtain ⟨rec,hrec⟩ : ∃ rec : LoopState → Option Code → Loop,rec = fun st pe=>{ state:=st,pending:=pe,fn,tmps:=a.tmps,params:=ps,assign,body,defers:=w.heap.size }:=⟨_,rfl⟩
 obtain ⟨w1,hw1⟩ : ∃ w1,(w.alloc (.deferred (some []))).alloc (.loop (rec .ready none)) = w1:=⟨_,rfl⟩
 obtain ⟨L,hLdef⟩ : ∃ L,L = w.heap.size + 1:=⟨_,rfl⟩
 obtain ⟨aL,haL⟩ : ∃ aL : Act,aL = { tmps:=a.tmps,defers:={ target:=.collected w.heap.size,args:=#[] } :: a.defers }:=⟨_,rfl⟩
 have hS1 : SR C p s aL w1:=by rw [haL,← hw1]; exact hS.enter hrd _
 have hsz1 : w1.heap.size = w.heap.size + 2:=by rw [← hw1]; simp
 have hL1 : w1.heap[L]? = some (.loop (rec .ready none)):=by
  rw [← hw1,hLdef]; have:=World.alloc_heap_new (w.alloc (.deferred (some []))) (.loop (rec .ready none)); rwa [World.size_alloc] at this
 have hLR : ¬ p.R L:=fun h=>by have:=hS.rb L h; omega
 have hLβ : ∀ k,p.β k ≠ some L:=fun k h=>by have:=(hS.bl k L h).1; omega
 have hL0 : C.w0.heap.size ≤ L:=by have:=hS.base.size; omega
 have hLm : ∀ d ∈ aL.defers,d.target ≠ .collected L:=fun d hd e=>by
  obtain ⟨Ds,g1,_,g3⟩:=hS1.ex.df
  rw [g1] at hd
  obtain ⟨D,hD,rfl⟩:=List.mem_map.1 hd
  injection e with e
  subst e
  have:=(g3 _ hD).1
  rw [hL1] at this; cases this
 obtain ⟨us,hus⟩ : ∃ us,us = ts.map fun t=>aL.tmps.getD t undef:=⟨_,rfl⟩
 have hS2:=hS1.wait hdead ts
 rw [← hus,← look_nil'] at hS2
 have htmps : aL.tmps = a.tmps:=by rw [haL]
 have hsn : s.n = aL.tmps.size:=by rw [htmps]; exact hS.sz.symm
 let X : XS:={ l:=L,z:=z,n0:=w1.heap.size,R:=p.R,X:=XJ C aL L rec (fun left s'=>I left us s') (fun c s'=>J c us s'),st:=XJ.st hn }
 obtain ⟨Rx,hRx,hcap⟩:=hcap0 p aL w1 hS1 vsC.toList (by
  have hk : Kept w w1 p p s.ver s.ver:=⟨fun _ h=>h,fun ad hr=>World.cell?_of_block (by rw [← hw1]; exact (Below.heap_alloc _ _ _ (by have:=hS.rb _ hr; simp; omega)).trans (Below.heap_alloc _ _ _ (hS.rb _ hr))),fun _=>Nat.le_refl _,fun _ _=>⟨rfl,rfl⟩⟩
  exact AV.relV_mono hk _ _ hcs)
 have hY : YOk P X:=by
  intro e rest wv Ψ Θ R vs hX hR hV
  obtain ⟨pv,sv,hSv,hsnv,⟨hIv,hLv⟩,hLRv,hLβv,hΨv,hΘv⟩:=hX
  have hψv:=hSv.ex.ψn hn
  obtain ⟨hlen,avs,hrow,hround⟩:=round e rest us sv (hsnv.trans hsn.symm) hIv
  have hvs : vs.size = ps.size:=by have:=RV.relV_length hV; simp only [Array.length_toList] at this; omega
  have hltv : L < wv.heap.size:=(Array.getElem?_eq_some_iff.1 hLv).1
  have hy:=run_yield (P:=P) (args:=vs) hLv (by rw [hrec]; exact hvs)
  rw [hrec] at hy
  refine ⟨fn,_,assign,body,hy,?_⟩
  have hRβ : ∀ b,R b → b < wv.heap.size ∧ ∀ k,pv.β k ≠ some b:=fun b hb=>⟨(hR b hb).1,fun k hk=>(hR b hb).2.1 ((hΘv b).2 (.inl ⟨k,hk⟩))⟩
  have hRL : ¬ R L:=fun hb=>(hR L hb).2.1 ((hΘv L).2 (.inr rfl))
  have hkv : Kept wv wv pv { pv with R:=fun b=>pv.R b ∨ R b } sv.ver sv.ver:=⟨fun _ h=>.inl h,fun _ _=>rfl,fun _=>Nat.le_refl _,fun _ _=>⟨rfl,rfl⟩⟩
  have haw:=hSv.awake (by rw [hrow,hus])
  have hzip : (ps.zip vs).foldl (fun tmps (x : Nat × Value)=>tmps.setIfInBounds x.1 x.2) a.tmps = (ps.toList.zip vs.toList).foldl (fun tmps (x : Nat × Value)=>tmps.setIfInBounds x.1 x.2) a.tmps:=by
   rw [← Array.foldl_toList,Array.toList_zip]
  obtain ⟨hpsz,hprel⟩:=psA_rel (w:=wv) (p:={ pv with R:=fun b=>pv.R b ∨ R b }) (ver:=sv.ver) ps.toList e vs.toList (look (ts.zip avs)) a.tmps (RV.relV_mono (fun _ h=>.inr h) (fun _ _=>rfl) _ _ hV)
   (fun t ht=>by rw [← htmps,← hsn]; exact hps t ht) (fun t=>by rw [← htmps]; exact AV.rel_mono hkv _ _ (haw.tm t))
  let Hd : Nat → Prop:=fun b=>b = L ∨ ∃ d ∈ aL.defers,d.target = .collected b
  have hHd : ∀ b,Hd b → b < wv.heap.size ∧ ¬ C.bor b ∧ ¬ pv.R b ∧ ¬ R b ∧ ∀ k,pv.β k ≠ some b:=fun b hb=>by
   rcases hb with rfl | ⟨d,hd,hdt⟩
   · exact ⟨hltv,fun hb=>by have:=hS.ex.bo b (.inl hb); omega,hLRv,hRL,hLβv⟩
   · obtain ⟨Ds,g1,_,g3⟩:=hSv.ex.df
     rw [g1] at hd
     obtain ⟨D,hD,rfl⟩:=List.mem_map.1 hd
     injection hdt with hdt
     subst hdt
     obtain ⟨k1,k2,k3,k4,k5,k6⟩:=g3 D hD
     refine ⟨(Array.getElem?_eq_some_iff.1 k1).1,fun hb=>by have:=hS.ex.bo D (.inl hb); omega,k3,fun hr=>?_,k4⟩
     have hD1 : D < w1.heap.size:=by
      obtain ⟨Ds',q1,_,q3⟩:=hS1.ex.df
      have : Ds' = Ds:=marks_inj (q1.symm.trans g1)
      subst this
      exact (Array.getElem?_eq_some_iff.1 (q3 D hD).1).1
     rcases (hR D hr).2.2 with q | q
     · obtain ⟨Ds',q1,_,q3⟩:=hS1.ex.df
       have : Ds' = Ds:=marks_inj (q1.symm.trans g1)
       subst this
       exact (q3 D hD).2.2.1 q
     · have q' : w1.heap.size ≤ D:=q
       omega
  have hSa:=hSv.into (L:=L) (w2:=wv) (R:=R) (rd:=some L) (Hd:=Hd) (a':={ tmps:=(ps.zip vs).foldl (fun tmps (x : Nat × Value)=>tmps.setIfInBounds x.1 x.2) a.tmps,defers:=[] }) (tm':=psA ps.toList e (look (ts.zip avs)))
   hn rfl rfl rfl rfl (fun _ _=>rfl) hLRv hLβv hRβ (fun t=>by rw [hzip]; exact hprel t) (by rw [hzip,hpsz,← htmps]; exact hsnv.symm) rfl hHd hC
  have hna:=hsnv.trans hsn.symm
  refine roundIn_of_wpIn trivial ?_
  have hassign:=hround (Cin C pv R wv (some L) Hd) _ _ ⟨_,hna ▸ hSa⟩
  refine wpIn_mono hassign ?_
  rintro x a1 wa ⟨s1,⟨p1,hS1a⟩,rfl,hbody⟩
  have hLa : wa.heap[L]? = some (.loop (rec .ready none)):=(hS1a.base.block L hltv (fun ⟨hb,_⟩=>(hHd L (.inl rfl)).2.1 hb) (fun ⟨k,hk,_⟩=>hLβv k hk)).trans hLv
  have hlta : L < wa.heap.size:=(Array.getElem?_eq_some_iff.1 hLa).1
  refine ⟨_,run_beginRound hLa (by rw [hrec]),?_⟩
  have hop1:=Hop.of (L:=L) (w:=wv) (w2:=wv) rfl rfl rfl rfl (fun _ _=>rfl) hS1a
  have hHd1 : ∀ b,Hd b → b < wa.heap.size ∧ ¬ (Cin C pv R wv (some L) Hd).bor b ∧ ¬ p1.R b ∧ ¬ False ∧ ∀ k,p1.β k ≠ some b:=fun b hb=>by
   obtain ⟨_,q2,_,q4,q5,_,_,q8⟩:=hS1a.ex.hd b hb
   exact ⟨q4,q2,q5,fun h=>h,q8⟩
  have hS1b:=hS1a.into (L:=L) (w2:=wa.putObj L (.loop { rec .ready none with state:=.busy })) (R:=fun _=>False) (rd:=some L) (Hd:=Hd) (a':=a1) (tm':=s1.tm) hn rfl rfl rfl World.putObj_size putObj_other
   (hHd1 L (.inl rfl)).2.2.1 (hHd1 L (.inl rfl)).2.2.2.2 (fun _ h=>h.elim) (fun t=>by
    have hk1 : Kept wa (wa.putObj L (.loop { rec .ready none with state:=.busy })) p1 { p1 with R:=fun b=>p1.R b ∨ False } s1.ver s1.ver :=
     ⟨fun _ h=>.inl h,fun ad hr=>World.cell?_of_block (putObj_other _ fun e=>(hHd1 L (.inl rfl)).2.2.1 (e ▸ hr)),fun _=>Nat.le_refl _,fun _ _=>⟨rfl,rfl⟩⟩
    exact AV.rel_mono hk1 _ _ (hS1a.tm t)) hS1a.sz (hS1a.ex.rm rfl) hHd1 hC
  refine wpIn_mono (hbody _ _ _ ⟨_,hS1b⟩) ?_
  have hLb : (wa.putObj L (.loop { rec .ready none with state:=.busy })).heap[L]? = some (.loop { rec .ready none with state:=.busy }):=World.putObj_heap_same hlta
  have hRo : ∀ b,R b → b < wv.heap.size ∧ (∀ d ∈ aL.defers,d.target ≠ .collected b) ∧ ¬ C.hd b ∧ (C.R0 b ∨ C.w0.heap.size ≤ b ∨ C.own b):=fun b hb=>by
   have hsz0:=hS.base.size
   refine ⟨(hR b hb).1,fun d hd hdt=>(hHd b (.inr ⟨d,hd,hdt⟩)).2.2.2.1 hb,fun hh=>?_,?_⟩
   · obtain ⟨q1,_,_,_,q5,_⟩:=hS.ex.hd b hh
     rcases (hR b hb).2.2 with q | q
     · exact q5 q
     · have q' : w1.heap.size ≤ b:=q; omega
   · rcases (hR b hb).2.2 with q | q
     · exact hS.rn b q
     · have q' : w1.heap.size ≤ b:=q; exact .inr (.inl (by omega))
  have fin : ∀ (jump : Option Code) (s3 : AS) (p3 : Plan) (a3 : Act) (w3 : World),SR (Cin (Cin C pv R wv (some L) Hd) p1 (fun _=>False) (wa.putObj L (.loop { rec .ready none with state:=.busy })) (some L) Hd) p3 s3 a3 w3 →
   (match jump with | none=>∃ s4,Sub s3 s4 ∧ I rest us ⟨s.n,look [],s4.rows⟩ | some c=>∃ s4,Sub s3 s4 ∧ J c us ⟨s.n,look [],s4.rows⟩) →
   ∃ v w', (Instr.endRound L jump).run P w3 = .ok v w' ∧ (w'.os = wv.os ∧ w'.tape = wv.tape ∧ w'.output = wv.output ∧ wv.heap.size ≤ w'.heap.size ∧ (∀ b, b < wv.heap.size → ¬ Θ b → w'.heap[b]? = wv.heap[b]?) ∧
     ∃ Ψ' Θ' : Nat → Prop,(∀ b,Ψ' b → Ψ b ∨ R b ∨ wv.heap.size ≤ b) ∧ (∀ b,Θ' b → Θ b ∨ wv.heap.size ≤ b) ∧ (∀ b,Ψ' b → b < w'.heap.size) ∧ (∀ b,Θ' b → b < w'.heap.size) ∧
     ((Ending.returned v = .returned (.bool true) ∧ X.X (some rest) w' Ψ' Θ') ∨ (Ending.returned v = .returned (.bool false) ∧ X.X Option.none w' Ψ' Θ'))):=by
   intro jump s30 p30 a3 w3 h30 hj0
   obtain ⟨s3,hsub,hj⟩ : ∃ s4,Sub s30 s4 ∧ (match jump with | none=>I rest us ⟨s.n,look [],s4.rows⟩ | some c=>J c us ⟨s.n,look [],s4.rows⟩):=by
    cases jump with
    | none=>exact hj0
    | some c=>exact hj0
   obtain ⟨p3,h3⟩:=hsub _ _ _ ⟨p30,h30⟩
   have hL3 : w3.heap[L]? = some (.loop { rec .ready none with state:=.busy }):=by
    refine (h3.base.block L (by show L < (wa.putObj L _).heap.size; rw [World.putObj_size]; exact hlta) (fun ⟨hb,_⟩=>(hHd1 L (.inl rfl)).2.1 hb) (fun ⟨k,hk,_⟩=>(hHd1 L (.inl rfl)).2.2.2.2 k hk)).trans hLb
   obtain ⟨_,_,_,_,e5,_,_,e8⟩:=h3.ex.hd L (.inl rfl)
   have hend:=run_endRound (P:=P) jump hL3
   have hlt3 : L < w3.heap.size:=(Array.getElem?_eq_some_iff.1 hL3).1
   have hop2:=Hop.of (C:=Cin C pv R wv (some L) Hd) (p:=p1) (L:=L) (w:=wa) (w2:=wa.putObj L (.loop { rec .ready none with state:=.busy })) (R:=fun _=>False) rfl rfl rfl World.putObj_size putObj_other h3
   obtain ⟨o4,ho4⟩ : ∃ o4,o4 = Obj.loop { { rec .ready none with state:=.busy } with state:=if jump.isNone then .ready else .done,pending:=jump }:=⟨_,rfl⟩
   rw [← ho4] at hend
   have hop:=(Hop.trans (C':=Cin C pv R wv (some L) Hd) hop1 (fun _=>Iff.rfl) hop2).put (o:=o4)
   have hL4 : (w3.putObj L o4).heap[L]? = some (.loop (rec (if jump.isNone then .ready else .done) jump)):=by
    rw [World.putObj_heap_same hlt3,ho4,hrec]
   have hS4 : SR C p3 ⟨s.n,look [],s3.rows⟩ aL (w3.putObj L o4):=by
    have:=hSv.land (C':=Cin (Cin C pv R wv (some L) Hd) p1 (fun _=>False) (wa.putObj L (.loop { rec .ready none with state:=.busy })) (some L) Hd) hn hL0 hLm hop hRo rfl rfl h3 e5 e8 rfl rfl rfl World.putObj_size putObj_other
    rw [hna,← look_nil'] at this
    exact this
   have hψ4:=hS4.ex.ψn hn
   refine ⟨_,_,hend,hop.os,hop.tape,hop.output,hop.size,fun b hb hθ=>hop.heap b hb (fun k hk=>hθ ((hΘv b).2 (.inl ⟨k,hk⟩))) (fun e=>hθ ((hΘv b).2 (.inr e))),
    fun b=>p3.R b ∨ (∃ k,p3.β k = some b) ∨ (b < C.w0.heap.size ∧ ¬ C.bor b ∧ ¬ C.own b) ∨ b = L ∨ C.hd b ∨ ∃ d ∈ aL.defers,d.target = .collected b,fun b=>(∃ k,p3.β k = some b) ∨ b = L,fun b hb=>?_,fun b hb=>?_,fun b hb=>?_,fun b hb=>?_,?_⟩
   · rcases hb with g | ⟨k,g⟩ | g | g | g | g
     · rcases hop.rn b g with q | q | q | ⟨k,q,_⟩
       · exact .inl ((hΨv b).2 (.inl q))
       · exact .inr (.inl q)
       · exact .inr (.inr q)
       · exact .inl ((hΨv b).2 (.inr (.inl ⟨k,q⟩)))
     · rcases hop.bl k b g with q | ⟨_,_,k',_,q⟩ | ⟨k',q,_⟩
       · exact .inr (.inr q)
       · exact .inl ((hΨv b).2 (.inr (.inl ⟨k',q⟩)))
       · exact .inl ((hΨv b).2 (.inr (.inl ⟨k',q⟩)))
     · exact .inl ((hΨv b).2 (.inr (.inr (.inl g))))
     · exact .inl ((hΨv b).2 (.inr (.inr (.inr (.inl g)))))
     · exact .inl ((hΨv b).2 (.inr (.inr (.inr (.inr (.inl g))))))
     · exact .inl ((hΨv b).2 (.inr (.inr (.inr (.inr (.inr g))))))
   · rcases hb with ⟨k,g⟩ | g
     · rcases hop.bl k b g with q | ⟨_,_,k',_,q⟩ | ⟨k',q,_⟩
       · exact .inr q
       · exact .inl ((hΘv b).2 (.inl ⟨k',q⟩))
       · exact .inl ((hΘv b).2 (.inl ⟨k',q⟩))
     · exact .inl ((hΘv b).2 (.inr g))
   · have hsz4:=hS4.base.size
     rcases hb with g | ⟨k,g⟩ | g | rfl | g | ⟨d,hd,hdt⟩
     · exact hS4.rb b g
     · exact (hS4.bl k b g).1
     · omega
     · rw [World.putObj_size]; exact hlt3
     · exact (hS4.ex.hd b g).2.2.2.1
     · exact Nat.lt_of_lt_of_le (hHd b (.inr ⟨d,hd,hdt⟩)).1 hop.size
   · rcases hb with ⟨k,g⟩ | rfl
     · exact (hS4.bl k b g).1
     · rw [World.putObj_size]; exact hlt3
   · cases jump with
     | none=>exact .inl ⟨rfl,p3,_,hS4,hsn,⟨hj,hL4⟩,e5,e8,fun _=>Iff.rfl,fun _=>Iff.rfl⟩
     | some c=>exact .inr ⟨rfl,p3,_,hS4,hsn,⟨c,hj,hL4⟩,e5,e8,fun _=>Iff.rfl,fun _=>Iff.rfl⟩
  rintro en a3 w3 ⟨s3,⟨p3,h3⟩,hq⟩
  cases en with
  | normal=>exact fin none s3 p3 a3 w3 h3 hq
  | ret=>exact fin (some .ret) s3 p3 a3 w3 h3 hq
  | exit id=>exact fin (some (.exit id)) s3 p3 a3 w3 h3 hq
  | goto l=>exact fin (some (.goto l)) s3 p3 a3 w3 h3 hq
  | panic ch=>exact hq.elim
  | outgrown=>exact hq.elim
 have hX0 : X.X (some xs) w1 (fun b=>p.R b ∨ (∃ k,p.β k = some b) ∨ (b < C.w0.heap.size ∧ ¬ C.bor b ∧ ¬ C.own b) ∨ b = L ∨ C.hd b ∨ ∃ d ∈ aL.defers,d.target = .collected b) (fun b=>(∃ k,p.β k = some b) ∨ b = L) :=
  ⟨p,_,hS2,hsn,⟨h0 us,hL1⟩,hLR,hLβ,fun _=>Iff.rfl,fun _=>Iff.rfl⟩
 have hlt1 : L < w1.heap.size:=(Array.getElem?_eq_some_iff.1 hL1).1
 have hcall:=hI.2 w1 (fun b=>p.R b ∨ Rx b) vsC X _ _ (fun b hb=>hb.elim (hS1.rb b) fun h=>(hS1.ex.hd b (hRx b h).1).2.2.2.1) hcap rfl (fun hz b hb=>hb.elim id fun h=>by have:=(hRx b h).2; rw [hz] at this; cases this) (Nat.le_refl _) hY (fun b hb=>by
  have hszw:=hS1.base.size
  rcases hb with g | ⟨k,g⟩ | g | rfl | g | ⟨d,hd,hdt⟩
  · exact hS1.rb b g
  · exact (hS1.bl k b g).1
  · omega
  · exact hlt1
  · exact (hS1.ex.hd b g).2.2.2.1
  · obtain ⟨Ds,g1,_,g3⟩:=hS1.ex.df
    rw [g1] at hd
    obtain ⟨D,hD,rfl⟩:=List.mem_map.1 hd
    injection hdt with hdt
    subst hdt
    exact (Array.getElem?_eq_some_iff.1 (g3 D hD).1).1) (fun b hb=>by
  rcases hb with ⟨k,g⟩ | rfl
  · exact (hS1.bl k b g).1
  · exact hlt1) (fun b hb hθ=>by
  rcases hb with hb | hb
  · rcases hθ with ⟨k,g⟩ | rfl
    · exact (hS1.bl k b g).2.1 hb
    · exact hLR hb
  · obtain ⟨_,_,_,g4,_,_,_,g8⟩:=hS.ex.hd b (hRx b hb).1
    rcases hθ with ⟨k,g⟩ | g
    · exact g8 k g
    · omega) hX0
 have e1 : (Instr.enterLoop fn a.tmps ps assign body none).run P w = .ok (L,[{ target:=.collected w.heap.size,args:=#[] }]) w1:=by
  rw [run_enterLoop_outer,← hw1,hrec,hLdef]
 have e2 : (resolve a.eval (rangeCall g L) 0).run P w1 = .ok { target:=.fn (.func F) vsC,args:=#[.func (.yield L) #[] #[]] } w1:=by
  simp only [resolve,hgv,Sem.run_bind,Deferred.ofValue,Sem.run_pure,Result.andThen_ok]
  simp [Act.eval]
 have e3 : (invoke (.fn (.func F) vsC) #[.func (.yield L) #[] #[]]).run P w1 = .ok (.enter F (#[.func (.yield L) #[] #[]] ++ vsC)) w1:=by
  simp only [invoke];exact run_callFunc hI.1 _ _
 have e4 : Fence.wide.depth.isSome = true → 1 ≤ 0:=fun h=>by simp [Fence.wide] at h
 refine ⟨L,_,w1,_,w1,F,_,w1,e1,e2,?_,e3,e4,?_⟩
 · intro f' _; exact trivial
 · refine callsIn_wide.2 (hcall.mono ?_)
   have haL' : ({ a with defers:=[{ target:=.collected w.heap.size,args:=#[] }] ++ a.defers } : Act) = aL:=by rw [haL]; rfl
   rintro e w' ⟨⟨v,rfl⟩,Ψ',Θ',hX | hX⟩
   · obtain ⟨p',s',hS',hsn',⟨hI',hL'⟩,hLR',hLβ',_⟩:=hX
     have hend:=run_endLoop (P:=P) hL' (by rw [hrec]; simp)
     have hp : (rec .ready none).pending = none:=by rw [hrec]
     rw [hp] at hend
     refine ⟨none,_,hend,?_⟩
     obtain ⟨avs,hrow,hQ⟩:=done us s' (hsn'.trans hsn.symm) hI'
     have hS4 : ∀ o,SR C p' ⟨s.n,look (ts.zip avs),s'.rows⟩ aL (w'.putObj L o):=fun o=>by
      have:=(hS'.turn (o:=o) hLR' hLβ' hL0 (hS'.ex.ψn hn) hLm).awake (by rw [hrow,hus])
      rw [hsn'.trans hsn.symm] at this
      exact this
     rw [haL']
     exact ⟨_,⟨_,hS4 _⟩,hQ⟩
   · obtain ⟨p',s',hS',hsn',⟨c,hJ',hL'⟩,hLR',hLβ',_⟩:=hX
     have hend:=run_endLoop (P:=P) hL' (by rw [hrec]; simp)
     have hp : (rec .done (some c)).pending = some c:=by rw [hrec]
     rw [hp] at hend
     refine ⟨some c,_,hend,?_⟩
     obtain ⟨avs,hrow,hQ⟩:=stop c us s' (hsn'.trans hsn.symm) hJ'
     have hS4 : ∀ o,SR C p' ⟨s.n,look (ts.zip avs),s'.rows⟩ aL (w'.putObj L o):=fun o=>by
      have:=(hS'.turn (o:=o) hLR' hLβ' hL0 (hS'.ex.ψn hn) hLm).awake (by rw [hrow,hus])
      rw [hsn'.trans hsn.symm] at this
      exact this
     have hQ':=fun o=>hQ _ _ ⟨_,hS4 o⟩
     rw [hF0] at hQ'
     rw [haL']
     exact hQ' _
end
end Go.Oc

namespace Go.Oc
open Go Go.RowKit
theorem zI {n : Int} (h1 : -9223372036854775808 ≤ n) (h2 : n ≤ 9223372036854775807) : IntKind.i64.wrap n = n:=by
 unfold IntKind.wrap
 simp only [IntKind.bits,IntKind.signed,Bool.true_and]
 split <;> rename_i h <;> simp only [ge_iff_le,decide_eq_true_eq] at h <;> omega
theorem getD_map_opt {α : Type} {f : α → List RV} {l : List α} {i : Nat} : (l.map f).getD i [] = match l[i]? with | some x=>f x | none=>[]:=by
 rw [List.getD_eq_getElem?_getD,List.getElem?_map]
 cases l[i]? <;> rfl
abbrev i64 (n : Int) : RV:=.it .i64 n
abbrev ints (l : List Int) : RV:=.sl 1 (l.map fun x=>[.it .i64 x])
theorem mem_of_opt {α : Type} {l : List α} {i : Nat} {x : α} (h : l[i]? = some x) : x ∈ l:=List.mem_of_getElem? h
theorem drop_of_opt {α : Type} {l : List α} {i : Nat} {x : α} (h : l[i]? = some x) : l.drop i = x :: l.drop (i + 1):=by
 obtain ⟨hi,rfl⟩:=List.getElem?_eq_some_iff.1 h
 exact List.drop_eq_getElem_cons hi
theorem take_of_opt {α : Type} {l : List α} {i : Nat} {x : α} (h : l[i]? = some x) : l.take (i + 1) = l.take i ++ [x]:=by
 obtain ⟨hi,rfl⟩:=List.getElem?_eq_some_iff.1 h
 exact List.take_succ_eq_append_getElem hi
theorem opt_of_lt {α : Type} {l : List α} {i : Nat} (h : i < l.length) : ∃ x,l[i]? = some x:=⟨l[i],List.getElem?_eq_getElem h⟩
theorem snapVL_ro {rows : Nat → Row} : ∀ l : List RV,snapVL rows (l.map .r) = l
 | []=>by simp only [List.map_nil,snapVL]
 | x :: l=>by simp only [List.map_cons,snapVL,snapV,snapVL_ro l]
theorem snapPL_ro {rows : Nat → Row} : ∀ l : List RV,snapPL rows (l.map .r) ↔ True
 | []=>by simp only [List.map_nil,snapPL]
 | x :: l=>by simp only [List.map_cons,snapPL,snapP,snapPL_ro l,true_and]
theorem take_map_len {α β : Type} {f : α → β} {l : List α} : (l.map f).take l.length = l.map f:=List.take_of_length_le (by simp)
theorem toNat_add1 {n : Nat} : ((n : Int) + 1).toNat = n + 1:=rfl
def indexF {α : Type} (p : α → Bool) : List α → Int
 | []=>-1
 | x :: l=>if p x then 0 else if indexF p l < 0 then -1 else indexF p l + 1
theorem indexF_any {α : Type} (p : α → Bool) : ∀ l : List α,decide (indexF p l ≥ 0) = l.any p
 | []=>rfl
 | x :: l => by
   have ih:=indexF_any p l
   unfold indexF
   cases h : p x
   · simp only [Bool.false_eq_true,if_false,List.any_cons,h,Bool.false_or,← ih]
     split
     · rename_i h1
       have : ¬ indexF p l ≥ 0:=by omega
       simp [this]
     · rename_i h1
       have : indexF p l ≥ 0:=by omega
       have h2 : indexF p l + 1 ≥ 0:=by omega
       simp only [this,h2]
   · simp [h]
theorem indexF_ge {α : Type} (p : α → Bool) : ∀ l : List α,-1 ≤ indexF p l
 | []=>by simp [indexF]
 | x :: l => by
   have:=indexF_ge p l
   unfold indexF
   split
   · omega
   · split <;> omega
open Go
attribute [go_sem] reduceIte reduceCtorEq Nat.reduceEqDiff Nat.reduceAdd Nat.reduceSub Nat.reduceMul Nat.reduceLeDiff Nat.reduceLT Int.reduceToNat Int.reduceLE Int.reduceLT Int.reduceMul Int.reduceAdd Int.reduceSub Int.reduceNeg Int.reduceEq Int.reduceNe
attribute [go_sem] aops_nil aops_cons aops_guard gslot_zero gslot_succ gA_some gB_tt gB_ff gB_tf gB_ft gB_ud gB_bo aop_move aop_assign aop_pick aop_bin aop_un aop_conv aop_load aop_store aop_box aop_alloc aop_fieldAddr aop_field aop_indexAddr aop_index aop_slice aop_build aop_buildSlice aop_makeSlice aop_makeFunc aop_extract aop_nil aop_len aop_min aop_max aop_append aop_cap aop_clear sAppendZ sCap sClear sSlice3 lenA rowLen aop_call aop_next aop_makeMap aop_lookup aop_mapUpdate aop_mapEntry aop_entryStore sMapEntry sEntryStore bornAt aop_range aop_entry sNext sMakeMap sLookup sMapUpdate sRange sEntry mapOf valR agR sEq cmpL cmpB sameK findK keyOk allIt List.length_cons List.length_nil row_st verf_st lendA lendL lendC lendOk lendKey backA backL backC backCs pinOf aR_when aR_val aR_bad aR_mk aF_false aF_true evs evp upd_app put_st put_none app_val app_st evt_st tm_st rows_st ver_st n_st ins insc delc look_nil look_cons lookc_nil lookc_cons keepL killV killC argL allEq cond_true cond_false ev_const ev_func sPick pickA sBin sUn sConv sLoad sStore sBox sAlloc sField sFieldV sPart sIndex sIndexV sSlice sSliceA chunk bound sBuild lay sBuildSlice layE sMakeSlice news? sAppend sLen minA minF maxA maxF sMinMax sExtract sNil RV.flat1 AV.cells? roL cutR cutA need RV.ofV RV.ofV1
attribute [go_sem] opostL_normal opostL_ret resA_tmp resA_cell mpostL_normal mpostL_ret resM_nil resM_tmp resM_cell mfin frzC frzPC frzL frzPL frz1 frzP1 keyIn okC argA resC_when resC_val resOk_nil resOk_tmp resOk_cell fpostL_normal fpostL_ret andThen_normal andThen_ret andThen_exit inBlk_normal inBlk_ret inBlk_exit le_bo le_it le_ns le_sls le_ag leL_nil leL_cons le_nsns le_np snapV snapVL snapP snapPL snap1V snap1P snap1PL
attribute [go_sem] Bool.false_eq_true Bool.not_false Bool.not_true Bool.true_eq_false Int.le_refl List.append_nil List.cons_append List.drop_succ_cons List.drop_zero List.getElem?_cons_succ List.getElem?_cons_zero List.headD_cons List.length_cons List.length_nil List.map_cons List.map_nil List.nil_append List.replicate_succ List.replicate_zero List.set_cons_succ List.set_cons_zero List.take_succ_cons List.take_zero Nat.add_zero Nat.le_refl Nat.zero_add Nat.zero_le Option.bind_some Option.getD_none Option.getD_some Option.isSome_some Option.map_none Option.map_some Option.some.injEq and_false and_true decide_false decide_true eq_self false_and false_imp_iff forall_const ite_false ite_true true_and true_imp_iff
attribute [go_sem] not_false_eq_true not_true_eq_false toNat_add1 Nat.sub_zero beq_iff_eq beq_eq_false_iff_ne List.length_drop List.length_take upd_self List.drop_replicate Nat.add_sub_cancel_left take_map_len List.getD_cons_zero List.getD_cons_succ true_or or_true false_or or_false List.length_replicate Int.sub_zero Int.add_zero Int.zero_add getD_map_opt snapVL_ro snapPL_ro Int.ofNat_lt Int.ofNat_le Int.toNat_natCast Int.natCast_nonneg Int.natCast_add Int.cast_ofNat_Int Int.natCast_zero Int.natCast_one List.length_map List.mem_cons ge_iff_le gt_iff_lt decide_eq_true_eq decide_eq_false_iff_not AV.r.injEq RV.it.injEq RV.bo.injEq RV.sl.injEq
open Go Go.RowKit
set_option linter.unusedSimpArgs false
set_option linter.unusedVariables false
def psL : List Nat → List RV → List (Nat × AV) → List (Nat × AV)
 | t :: ts,x :: xs,l=>psL ts xs ((t,.r x) :: l)
 | _,_,l=>l
theorem psL_nil {l : List (Nat × AV)} : psL [] [] l = l:=rfl
theorem psL_cons {t : Nat} {ts : List Nat} {x : RV} {xs : List RV} {l : List (Nat × AV)} : psL (t :: ts) (x :: xs) l = psL ts xs ((t,.r x) :: l):=rfl
theorem psA_look : ∀ (ts : List Nat) (xs : List RV) (l : List (Nat × AV)),psA ts xs (look l) = look (psL ts xs l)
 | [],_,_=>rfl
 | _ :: _,[],_=>rfl
 | t :: ts, x :: xs, l => by
   simp only [psA,psL];rw [← psA_look ts xs]
   rfl
def rfpost (n : Nat) (ts : List Nat) (Q : Exit → AS → Prop) (N : AS → Prop) (us : List Value) : Exit → AS → Prop
 | .normal,s=>N s
 | .ret,s=>∃ avs,(s.rows 0).c = .sus avs us ∧ Q .ret ⟨n,look (ts.zip avs),s.rows⟩
 | .exit id,s=>∃ avs,(s.rows 0).c = .sus avs us ∧ Q (.exit id) ⟨n,look (ts.zip avs),s.rows⟩
 | _,_=>False
section
variable {n : Nat} {ts : List Nat} {Q : Exit → AS → Prop} {N : AS → Prop} {us : List Value} {l : List (Nat × AV)} {vs : Nat → Nat} {cs : List (Nat × RowC)}
theorem rfpost_normal {s : AS} : rfpost n ts Q N us .normal s = N s:=rfl
theorem rf_ret {avs : List AV} (h : lookc cs 0 = .sus avs us) (hq : Q .ret (st n (ts.zip avs) vs cs)) : rfpost n ts Q N us .ret (st n l vs cs):=⟨avs,h,hq⟩
end
theorem sub_wake {n : Nat} {l : List (Nat × AV)} {vs : Nat → Nat} {cs : List (Nat × RowC)} {avs : List AV} {us : List Value} (h : lookc cs 0 = .dead) : Sub (st n l vs ((0,.sus avs us) :: cs)) (st n l vs cs):=fun C a w ⟨p,hp⟩=>by
 refine ⟨p,{ hp with rw:=fun k=>?_,lk:=fun j km m l' cur hj hn=>?_ }⟩
 · have hr:=hp.rw k
   show rowRel w p vs k (lookc cs k)
   have hr' : rowRel w p vs k (lookc ((0,.sus avs us) :: cs) k):=hr
   rw [lookc_cons] at hr'
   split at hr'
   · rename_i e
     subst e
     rw [h]
     simp only [rowRel] at hr' ⊢
     exact ⟨hr'.1,hr'.2.1⟩
   · exact hr'
 · have hj' : lookc cs j = .mi km m l' cur:=hj
   have e1 : j ≠ 0:=fun e=>by subst e; rw [h] at hj'; cases hj'
   have h1:=hp.lk j km m l' cur (by show lookc ((0,.sus avs us) :: cs) j = _; rw [lookc_cons,if_neg e1]; exact hj') hn
   show (lookc cs km).isMpi = true
   have h2 : (lookc ((0,.sus avs us) :: cs) km).isMpi = true:=h1
   rw [lookc_cons] at h2
   split at h2
   · cases h2
   · exact h2
theorem upd_rows_st {n : Nat} {l : List (Nat × AV)} {vs : Nat → Nat} {cs : List (Nat × RowC)} {k : Nat} {c : RowC} : (⟨n,look [],upd (st n l vs cs).rows k ⟨((st n l vs cs).rows k).ver,c⟩⟩ : AS) = st n [] vs ((k,c) :: cs):=by
 simp only [st,AS.mk.injEq,true_and]
 funext j
 rw [lookc_cons]
 unfold upd
 split
 · rename_i e; subst e; rfl
 · rfl
theorem zip_keys : ∀ l : List (Nat × AV),(l.map (·.1)).zip (l.map (·.2)) = l
 | []=>rfl
 | _ :: l=>by simp only [List.map_cons,List.zip_cons_cons,zip_keys l]
attribute [go_sem] psL_nil psL_cons rfpost_normal List.zip_cons_cons List.zip_nil_right
theorem look_keys : ∀ l : List (Nat × AV),(l.map (·.1)).Nodup → l.map (·.2) = (l.map (·.1)).map (look l)
 | [],_=>rfl
 | (k, v) :: l, h => by
   simp only [List.map_cons,List.nodup_cons] at h ⊢
   have h1 : look ((k,v) :: l) k = v:=by rw [look_cons,if_pos rfl]
   rw [h1,look_keys l h.2]
   congr 1
   refine List.map_congr_left fun j hj=>?_
   have hne : j ≠ k:=fun e=>h.1 (e ▸ hj)
   rw [look_cons,if_neg hne]
theorem awp_rangeF {P : Program} {C : Ctx} {n : Nat} {s : AS} {t : Nat} {ps : Array Tmp} {assign body : Code} {Q : Exit → AS → Prop} (hC : C.rd = none ∧ C.X = XS.none) {f : FuncId} {caps : List RV} {z : Bool} (xs : List (List RV)) (hI : ICalls P z f caps xs)
 (ts : List Nat) (hnd : ts.Nodup) (F : (Nat → Nat) → List (Nat × AV)) (R : Nat → (Nat → Nat) → List (Nat × RowC)) (I : Nat → Prop) (h0 : FitV n F (R 0) s) (hi0 : I 0)
 (hts : ∀ vs,(F vs).map (·.1) = ts) (hg : ∀ vs,look (F vs) t = .r (.fn f caps)) (hd : ∀ i vs,lookc (R i vs) 0 = .dead) (hps : ∀ t ∈ ps.toList,t < n) (hlen : ∀ e ∈ xs,e.length = ps.size)
 (round : ∀ i e vs us C,xs[i]? = some e → I i → awp P C assign (fun x s2=>x = .normal ∧ ∀ C,awp P C body (rfpost n ts Q (fun s3=>I (i + 1) ∧ ∃ vs',Sub s3 (st n [] vs' ((0,.sus ((F vs').map (·.2)) us) :: R (i + 1) vs'))) us) s2)
  (st n (psL ps.toList e (F vs)) vs ((0,.sus ((F vs).map (·.2)) us) :: R i vs)))
 (done : ∀ vs us,I xs.length → Q .normal (st n (F vs) vs ((0,.sus ((F vs).map (·.2)) us) :: R xs.length vs))) : awp P C (.rangeFunc (.tmp t) ps assign body) Q s:=by
 obtain ⟨vs0,h0⟩:=h0
 refine zw h0 ?_
 have hdrop : ∀ i e rest,xs.drop i = e :: rest → xs[i]? = some e ∧ xs.drop (i + 1) = rest:=fun i e rest h=>by
  refine ⟨?_,by rw [← List.drop_drop,h]; rfl⟩
  have : (xs.drop i)[0]? = some e:=by rw [h]; rfl
  simpa using this
 have hz : ∀ vs,ts.zip ((F vs).map (·.2)) = F vs:=fun vs=>by rw [← hts vs]; exact zip_keys _
 refine awp_rangeFunc hC.1 hC.2 (F:=f) (cs:=caps.map .r) (args:=caps) (xs:=xs) (z:=z) (by
  show callee? (look (F vs0) t) = _
  rw [hg]; rfl) (fun p a w _ us hV=>⟨fun _=>False,fun _ h=>h.elim,by
  have hp : AV.pureL (caps.map .r) = true:=by clear hI hg hV; induction caps with | nil=>rfl | cons c cs ih=>simpa [AV.pureL,AV.pure] using ih
  have h1:=pure_relV (rows:=fun _=>⟨0,.dead⟩) _ _ hp hV
  rw [snapVL_ro] at h1
  exact RV.relV_mono (fun _ h=>.inl h) (fun _ _=>rfl) _ _ h1⟩) hI (hd 0 vs0) ts hps
  (fun left us s'=>∃ i vs,left = xs.drop i ∧ i ≤ xs.length ∧ I i ∧ s' = st n [] vs ((0,.sus ((F vs).map (·.2)) us) :: R i vs))
  (fun c us s'=>∃ avs,(s'.rows 0).c = .sus avs us ∧ ((c = .ret ∧ Q .ret ⟨n,look (ts.zip avs),s'.rows⟩) ∨ ∃ id,c = .exit id ∧ Q (.exit id) ⟨n,look (ts.zip avs),s'.rows⟩))
  (fun us=>⟨0,vs0,rfl,Nat.zero_le _,hi0,?_⟩) ?_ ?_ ?_
 · refine (upd_rows_st (c:=.sus (ts.map (st n (F vs0) vs0 (R 0 vs0)).tm) us)).trans ?_
   congr 3
   have hk : (F vs0).map (·.2) = ts.map (look (F vs0)):=by
    have:=look_keys (F vs0) (by rw [hts vs0]; exact hnd)
    rw [hts vs0] at this
    exact this
   rw [hk]; rfl
 · rintro e rest us s' _ ⟨i,vs,hl,hle,hI',rfl⟩
   obtain ⟨h1,h2⟩:=hdrop i e rest hl.symm
   refine ⟨hlen e (List.mem_of_getElem? h1),(F vs).map (·.2),rfl,fun C'=>?_⟩
   have hr:=round i e vs us C' h1 hI'
   rw [hz,psA_look]
   refine awp_mono ?_ hr
   rintro x s2 ⟨hx,hbody⟩
   refine ⟨hx,fun C''=>awp_mono ?_ (hbody C'')⟩
   intro x s3 hq
   cases x with
   | normal =>
     obtain ⟨hI3,vs',hsub⟩:=hq
     refine ⟨_,hsub,i + 1,vs',h2.symm,?_,hI3,rfl⟩
     have:=(List.getElem?_eq_some_iff.1 h1).1
     omega
   | ret =>
     obtain ⟨avs,h3,h4⟩:=hq
     exact ⟨s3,Sub.refl _,avs,h3,.inl ⟨rfl,h4⟩⟩
   | exit id =>
     obtain ⟨avs,h3,h4⟩:=hq
     exact ⟨s3,Sub.refl _,avs,h3,.inr ⟨id,rfl,h4⟩⟩
   | goto l=>exact hq.elim
   | panic c=>exact hq.elim
   | outgrown=>exact hq.elim
 · rintro us s' _ ⟨i,vs,hl,hle,hI',rfl⟩
   have hi : i = xs.length:=by
    have : (xs.drop i).length = 0:=by rw [← hl]; rfl
    rw [List.length_drop] at this; omega
   subst hi
   refine ⟨(F vs).map (·.2),rfl,?_⟩
   have:=done vs us hI'
   rw [hz]
   exact this
 · rintro c us s' _ ⟨avs,h3,h4⟩
   refine ⟨avs,h3,?_⟩
   rcases h4 with ⟨rfl,h4⟩ | ⟨id,rfl,h4⟩
   · exact ze h4
   · exact zf h4
theorem awp_uptoV {P : Program} {C : Ctx} {c : Code} {n : Nat} {Q : Exit → AS → Prop} {s : AS} (N : Nat) (F : Nat → (Nat → Nat) → List (Nat × AV)) (R : Nat → (Nat → Nat) → List (Nat × RowC)) (I : Nat → Prop) (i0 : Nat)
 (h0 : FitV n (F i0) (R i0) s) (hi : i0 ≤ N) (hI : I i0)
 (round : ∀ i vs,i ≤ N → I i → awp P C c (andThen (fun s'=>i < N ∧ I (i + 1) ∧ FitV n (F (i + 1)) (R (i + 1)) s') Q) (st n (F i vs) vs (R i vs))) : awp P C (.loop c) Q s:=by
 refine awp_whileV F R (fun i=>i ≤ N ∧ I i) (fun i=>N - i) i0 h0 ⟨hi,hI⟩ ?_
 rintro i vs ⟨hi,hI⟩
 refine awp_mono ?_ (round i vs hi hI)
 intro e s' hq
 cases e with
 | normal =>
   obtain ⟨h1,h2,h3⟩:=hq
   exact ⟨i + 1,⟨h1,h2⟩,by omega,h3⟩
 | _=>exact hq
end Go.Oc

namespace Go.Oc
open Go Go.RowKit
set_option linter.unusedVariables false
set_option linter.unusedSimpArgs false
section
variable {P : Program} {C : Ctx} {s : AS} {Q : Exit → AS → Prop}
theorem awp_openR {c : Code} (k : Nat) {m : List (RV × RV)} (hc : (s.rows k).c = .mp m) (h : ∀ bs cl,bs.length = m.length → awp P C c Q { s with rows:=upd s.rows k ⟨(s.rows k).ver,.mpx m bs cl⟩ }) : awp P C c Q s:=fun a w ⟨p,hs⟩=>by
 have hrow:=hs.rw k
 rw [hc] at hrow
 simp only [rowRel] at hrow
 obtain ⟨b,hβ,es,cl,h1,h2,h3,h4⟩:=hrow
 have hset:=hs.setRow (w':=w) k (.mpx m (es.toList.map (·.born)) cl) (by rw [hc]; rfl) (fun _ _ _ _ h=>by cases h) hβ rfl rfl rfl rfl (fun i _=>rfl) (fun _=>by
  simp only [rowRel];exact ⟨b,es,hβ,h1,h2,rfl,h3,h4⟩)
 exact h _ cl (by rw [List.length_map]; exact relM_length h2) a w ⟨p,hset⟩
theorem sub_shutR (k : Nat) {m : List (RV × RV)} {bs : List Nat} {cl : Nat} (hc : (s.rows k).c = .mpx m bs cl) : Sub s { s with rows:=upd s.rows k ⟨(s.rows k).ver,.mp m⟩ }:=fun C a w ⟨p,hs⟩=>by
 have hrow:=hs.rw k
 rw [hc] at hrow
 simp only [rowRel] at hrow
 obtain ⟨b,es,hβ,h1,h2,_,h3,h4⟩:=hrow
 exact ⟨p,hs.setRow (w':=w) k (.mp m) (by rw [hc]; rfl) (fun _ _ _ _ h=>by cases h) hβ rfl rfl rfl rfl (fun i _=>rfl) (fun _=>by
  simp only [rowRel];exact ⟨b,hβ,es,cl,h1,h2,h3,h4⟩)⟩
variable {n : Nat} {l : List (Nat × AV)} {vs : Nat → Nat} {cs : List (Nat × RowC)}
theorem st_row (k : Nat) (c : RowC) : ({ st n l vs cs with rows:=upd (st n l vs cs).rows k ⟨((st n l vs cs).rows k).ver,c⟩ } : AS) = st n l vs (insc cs k c):=by
 simp only [st,AS.mk.injEq,true_and]
 funext j
 rw [lookc_insc]
 unfold upd
 split
 · rename_i e; subst e; rfl
 · rfl
theorem awp_open {c : Code} (k : Nat) {m : List (RV × RV)} (hc : lookc cs k = .mp m) (h : ∀ bs cl,bs.length = m.length → awp P C c Q (st n l vs (insc cs k (.mpx m bs cl)))) : awp P C c Q (st n l vs cs) :=
 awp_openR k hc fun bs cl hl=>by rw [st_row]; exact h bs cl hl
theorem sub_shut (k : Nat) {m : List (RV × RV)} {bs : List Nat} {cl : Nat} (hc : lookc cs k = .mpx m bs cl) : Sub (st n l vs cs) (st n l vs (insc cs k (.mp m))):=by
 have:=sub_shutR (s:=st n l vs cs) k hc
 rwa [st_row] at this
end
theorem keyOk_same {kn : Option Nat} {key : RV} (h : keyOk kn key = true) : sameK key key = some true:=by
 have hag : ∀ xs : List RV,allIt xs = true → cmpL xs xs = some true:=fun xs=>by
  induction xs with
  | nil=>intro _; rfl
  | cons x xs ih =>
    intro hx
    cases x <;> simp only [allIt,Bool.false_eq_true] at hx
    simp [cmpL,ih hx]
 cases kn <;> cases key <;> simp only [keyOk,Bool.false_eq_true,Bool.and_eq_true] at h
 · simp [sameK]
 · simp only [sameK]; exact hag _ h.2
theorem findK_new {key z : RV} (hs : sameK key key = some true) : ∀ {m : List (RV × RV)} {i : Nat},findK key m i = some none → ∃ j,findK key (m ++ [(key,z)]) i = some (some (j,z))
 | [],i,_=>⟨i,by simp [findK,hs]⟩
 | e :: m, i, h => by
   simp only [findK,List.cons_append] at h ⊢
   split at h
   · cases h
   · exact findK_new hs h
   · cases h
def entOk (ops : Array Oper) (x y : Oper) : Bool :=
 match x.op,y.op with
 | .lookup t (.tmp p) (.tmp q) false,.mapEntry t' (.tmp p') (.tmp q')=>t == t' && p == p' && q == q' && x.guard.isNone && y.guard.isNone && x.apart ops y
 | _,_=>false
section
variable {P : Program} {s : AS} {ops : Array Oper}
theorem exchangeE {oi oj : Oper} {y z : Yi} (hp : entOk ops oi oj = true) (hy : YieldsA P ops oi y s) (hz : YieldsA P ops oj z (s.app oi.dst y)) :
 YieldsA P ops oj z s ∧ YieldsA P ops oi y (s.app oj.dst z) ∧ (s.app oj.dst z).app oi.dst y = (s.app oi.dst y).app oj.dst z:=by
 unfold entOk at hp
 split at hp
 · rename_i t p q t' p' q' e1 e2
   simp only [Bool.and_eq_true,beq_iff_eq] at hp
   obtain ⟨⟨⟨⟨⟨rfl,rfl⟩,rfl⟩,g1⟩,g2⟩,hap⟩:=hp
   obtain ⟨hap1,hap2,hap3⟩:=Oper.apart_spec hap
   have wi : ∀ s : AS,wantA ops s oi = some true:=fun s=>by unfold wantA; rw [Option.isNone_iff_eq_none.1 g1]
   have wj : ∀ s : AS,wantA ops s oj = some true:=fun s=>by unfold wantA; rw [Option.isNone_iff_eq_none.1 g2]
   have mi : ∀ y,¬ mk oi y:=fun y=>by simp [mk,cls,vcall,e1]
   have mj : ∀ y,¬ mk oj y:=fun y=>by simp [mk,cls,vcall,e2]
   have hy2 : (sLookup P s t (s.tm p) (s.tm q) false).pre ∧ y = (sLookup P s t (s.tm p) (s.tm q) false).y:=by
    rcases hy with ⟨_,hy,_⟩ | ⟨hw,_⟩
    · unfold AY at hy; rw [e1] at hy; rcases hy with hy | hy; · simpa only [step,e1,AS.ev] using rx_no hy (by simp [isBS,e1])
      · exact (hy.no (by simp [isApp,e1])).elim
    · rw [wi] at hw; cases hw
   have hz2 : (sMapEntry P (s.app oi.dst y) t ((s.app oi.dst y).tm p) ((s.app oi.dst y).tm q)).pre ∧ z = (sMapEntry P (s.app oi.dst y) t ((s.app oi.dst y).tm p) ((s.app oi.dst y).tm q)).y:=by
    rcases hz with ⟨_,hz,_⟩ | ⟨hw,_⟩
    · unfold AY at hz; rw [e2] at hz; rcases hz with hz | hz; · simpa only [step,e2,AS.ev] using rx_no hz (by simp [isBS,e2])
      · exact (hz.no (by simp [isApp,e2])).elim
    · rw [wj] at hw; cases hw
   have hyE : y.eff = []:=by
    rw [hy2.2]
    have h0:=hy2.1
    unfold sLookup at h0 ⊢
    (repeat' split at h0) <;> first | rfl | exact h0.elim
   have hyR : (s.app oi.dst y).rows = s.rows:=by rw [app_rows]; simp [Yi.rows,hyE]
   have np : ∀ d,oi.dst = some d → p ≠ d ∧ q ≠ d:=fun d hd=>by
    have:=hap1 d hd
    have e : oj.looksAt ops = oj.looksAt ops:=rfl
    constructor
    · intro hc; subst hc; exact this (List.mem_append_left _ (List.mem_filterMap.2 ⟨.tmp p,by rw [e2]; simp [Op.operands],rfl⟩))
    · intro hc; subst hc; exact this (List.mem_append_left _ (List.mem_filterMap.2 ⟨.tmp q,by rw [e2]; simp [Op.operands],rfl⟩))
   have nq : ∀ d,oj.dst = some d → p ≠ d ∧ q ≠ d:=fun d hd=>by
    have:=hap3 d hd
    constructor
    · intro hc; subst hc; exact this (List.mem_append_left _ (List.mem_filterMap.2 ⟨.tmp p,by rw [e1]; simp [Op.operands],rfl⟩))
    · intro hc; subst hc; exact this (List.mem_append_left _ (List.mem_filterMap.2 ⟨.tmp q,by rw [e1]; simp [Op.operands],rfl⟩))
   have tmo : ∀ (d : Option Nat) (y : Yi) (t : Nat),(∀ d',d = some d' → t ≠ d') → (s.app d y).tm t = s.tm t:=fun d y t h=>by
    rw [app_tm]
    cases d with
    | none=>rfl
    | some d=>exact upd_other _ _ (h d rfl)
   have t1:=tmo oi.dst y p fun d hd=>(np d hd).1
   have t2:=tmo oi.dst y q fun d hd=>(np d hd).2
   have t3:=tmo oj.dst z p fun d hd=>(nq d hd).1
   have t4:=tmo oj.dst z q fun d hd=>(nq d hd).2
   have hcong : ∀ s' : AS,s'.rows = s.rows → sMapEntry P s' t (s.tm p) (s.tm q) = sMapEntry P s t (s.tm p) (s.tm q):=fun s' h=>by unfold sMapEntry; rw [h]
   rw [t1,t2,hcong _ hyR] at hz2
   have hz3 : (step P oj s).pre ∧ z = (step P oj s).y:=by simpa only [step,e2,AS.ev] using hz2
   have hzA : AY P oj s z:=by
    unfold AY; rw [e2]; exact .inl ⟨hz3.1,.inl hz3.2⟩
   have hzs : YieldsA P ops oj z s:=.inl ⟨wj _,hzA,fun h=>absurd h (mj _)⟩
   have hlook : (sLookup P (s.app oj.dst z) t (s.tm p) (s.tm q) false).pre ∧ (sLookup P (s.app oj.dst z) t (s.tm p) (s.tm q) false).y = (sLookup P s t (s.tm p) (s.tm q) false).y:=by
    obtain ⟨h1,h2⟩:=hz2
    have h0:=hy2.1
    have hr : (s.app oj.dst z).rows = z.rows s.rows:=app_rows _ _ _
    unfold sMapEntry at h1 h2
    split at h1
    · rename_i kt et kn k n key a1 a2 a3
      rw [a1,a2,a3] at h2
      simp only at h2
      unfold sLookup at h0 ⊢
      rw [a1,a2,a3] at h0 ⊢
      simp only at h0 ⊢
      split at h1
      · rename_i n' m bs cl zz a4 a5
        rw [a4,a5] at h2
        simp only at h2
        rw [hr]
        rw [a4,a5] at h0 ⊢
        simp only [mapOf] at h0 ⊢
        split at h1
        · rename_i j v a6
          rw [a6] at h2
          simp only at h2
          have hz : z.rows s.rows k = ⟨n',.mpx m bs cl⟩:=by rw [h2]; simp [Yi.rows,upd_same]
          rw [hz]
          simp only [mapOf,a6];exact ⟨⟨h1.1,h1.2⟩,by first | rfl | trivial⟩
        · rename_i a6
          rw [a6] at h2
          simp only at h2
          have hz : z.rows s.rows k = ⟨n',.mpx (m ++ [(key,zz)]) (bs ++ [cl]) (cl + 1)⟩:=by rw [h2]; simp [Yi.rows,upd_same]
          rw [hz]
          obtain ⟨j,hj⟩:=findK_new (z:=zz) (keyOk_same h1.2) a6
          simp only [mapOf,hj];exact ⟨⟨h1.1,h1.2⟩,by first | rfl | trivial⟩
        · exact h1.elim
      · exact h1.elim
    · exact h1.elim
   refine ⟨hzs,.inl ⟨wi _,?_,fun h=>absurd h (mi _)⟩,?_⟩
   · unfold AY
     rw [e1]
     refine .inl ?_
     refine ⟨?_,.inl ?_⟩
     · simp only [step,e1,AS.ev,t3,t4]; exact hlook.1
     · simp only [step,e1,AS.ev,t3,t4]; rw [hlook.2]; exact hy2.2
   · refine AS.ext (by simp only [app_n]) ?_ ?_
     · rw [app_tm,app_tm,app_tm,app_tm]
       cases hi : oi.dst with
       | none=>cases oj.dst <;> rfl
       | some d =>
         cases hj : oj.dst with
         | none=>rfl
         | some d' =>
           have : d ≠ d':=fun e=>hap2 d hi (by rw [hj,e])
           exact upd_comm _ (Ne.symm this) _ _
     · rw [app_rows,app_rows,app_rows,app_rows]
       simp [Yi.rows,hyE]
 · cases hp
def pairE (ops : Array Oper) (x y : Oper) : Bool:=okPair ops x y || entOk ops x y
theorem exchangeB {oi oj : Oper} {y z : Yi} (hp : pairE ops oi oj = true) (hne : NE s) (hy : YieldsA P ops oi y s) (hz : YieldsA P ops oj z (s.app oi.dst y)) :
 YieldsA P ops oj z s ∧ YieldsA P ops oi y (s.app oj.dst z) ∧ (s.app oj.dst z).app oi.dst y = (s.app oi.dst y).app oj.dst z:=by
 unfold pairE at hp
 rcases Bool.or_eq_true _ _ ▸ hp with h | h
 · exact exchange h hne hy hz
 · exact exchangeE h hy hz
def lexOkE (ops : Array Oper) : Bool :=
 (List.range ops.size).all fun i=>(deps ops i).all (fun e=>decide (e < i)) &&
  (List.range ops.size).all fun j=>!decide (i < j) || waits ops ops.size j i ||
   (match ops[i]?,ops[j]? with | some x,some y=>pairE ops x y | _,_=>true)
theorem anyA_firstE {Q : AS → Prop} {n i : Nat} {oi : Oper} {y : Yi} (hi : ops[i]? = some oi) (hdst : dstOk ops n = true) : ∀ (fuel : Nat) (listed : Array Bool) (s : AS),s.n = n → NE s → down ops listed →
 (∀ j oj,ops[j]? = some oj → j ≠ i → listed.getD j true = false → waits ops ops.size j i = false → pairE ops oi oj = true) →
 i ∈ Region.ready .any ops listed → YieldsA P ops oi y s → anyA P ops Q fuel (listed.setIfInBounds i true) (s.app oi.dst y) → anyA P ops Q (fuel + 1) listed s:=by
 intro fuel
 induction fuel with
 | zero =>
   intro listed s hn hne hdown _ hr hy H
   refine ⟨fun h=>(by rw [h] at hr; cases hr),fun j hj=>?_⟩
   by_cases hji : j = i
   · subst hji; unfold qA; rw [hi]; exact ⟨y,hy,H⟩
   · have:=ready_mono hj hji
     rw [H.1] at this
     cases this
 | succ fuel ih =>
   intro listed s hn hne hdown hfree hr hy H
   refine ⟨fun h=>(by rw [h] at hr; cases hr),fun j hj=>?_⟩
   by_cases hji : j = i
   · subst hji; unfold qA; rw [hi]; exact ⟨y,hy,H⟩
   · have h1:=H.2 j (ready_mono hj hji)
     obtain ⟨hjun,oj,hoj,_⟩:=mem_ready.1 hj
     have hjun' : listed.getD j true = false:=hjun
     have hnw : waits ops ops.size j i = false:=by
      refine Decidable.byContradiction fun hw=>?_
      have hw : waits ops ops.size j i = true:=by simpa using hw
      have h2:=waits_listed hdown _ _ _ (ready_deps hj) hw
      have h3:=(mem_ready.1 hr).1
      rcases Nat.lt_or_ge i listed.size with h' | h'
      · simp [h'] at h2 h3; rw [h3] at h2; cases h2
      · simp [Array.getElem?_eq_none h'] at h2
     have hpair:=hfree j oj hoj hji hjun' hnw
     unfold qA at h1 ⊢
     rw [hoj] at h1 ⊢
     obtain ⟨z,hz,hK⟩:=h1
     obtain ⟨hz',hy',heq⟩:=exchangeB hpair hne hy hz
     refine ⟨z,hz',?_⟩
     refine ih (listed.setIfInBounds j true) (s.app oj.dst z) (by rw [app_n]; exact hn) (hne.app hz' (by rw [hn]; exact dstOk_get hdst hoj)) (down_set hdown hj) (fun k ok hk hki hun hno=>?_) (ready_mono hr (Ne.symm hji)) hy' ?_
     · refine hfree k ok hk hki ?_ hno
       by_cases hjk : j = k
       · subst hjk; exact hjun'
       · rw [getD_set_ne true hjk] at hun; exact hun
     · rw [Array.setIfInBounds_comm _ _ hji,heq]
       exact hK
theorem lexOkE_spec (h : lexOkE ops = true) {i : Nat} (hi : i < ops.size) : (∀ e ∈ deps ops i,e < i) ∧ ∀ j,i < j → j < ops.size → waits ops ops.size j i = false → ∀ x y,ops[i]? = some x → ops[j]? = some y → pairE ops x y = true:=by
 unfold lexOkE at h
 have:=List.all_eq_true.1 h i (by simpa using hi)
 simp only [Bool.and_eq_true,List.all_eq_true,decide_eq_true_eq] at this
 refine ⟨this.1,fun j hij hj hw x y hx hy=>?_⟩
 have h2:=this.2 j (by simpa using hj)
 rw [hx,hy] at h2
 simpa [hij,hw] using h2
theorem anyA_lexE {Q : AS → Prop} {n : Nat} (hB : lexOkE ops = true) (hdst : dstOk ops n = true) : ∀ (l : List Oper) (k : Nat) (listed : Array Bool) (s : AS),(∀ j,l[j]? = ops[k + j]?) → k + l.length = ops.size → listed.size = ops.size →
 (∀ j,j < ops.size → listed.getD j false = decide (j < k)) → s.n = n → NE s → lexA P ops Q l s → anyA P ops Q l.length listed s
 | [], k, listed, s, _, hlen, hsz, hl, _, _, h => by
   refine ⟨?_,h⟩
   refine List.eq_nil_iff_forall_not_mem.2 fun j hj=>?_
   obtain ⟨h1,o,ho,_⟩:=mem_ready.1 hj
   have hj' : j < ops.size:=(Array.getElem?_eq_some_iff.1 ho).1
   have h2:=hl j hj'
   simp only [List.length_nil,Nat.add_zero] at hlen
   have hjl : j < listed.size:=by omega
   simp [hjl] at h1 h2
   rw [h1] at h2
   have : j < k:=by omega
   simp [this] at h2
 | o :: l, k, listed, s, hlk, hlen, hsz, hl, hn, hne, h => by
   simp only [List.length_cons] at hlen
   have hk : k < ops.size:=by omega
   have ho : ops[k]? = some o:=by simpa using (hlk 0).symm
   obtain ⟨hdeps,hpairs⟩:=lexOkE_spec hB hk
   obtain ⟨y,hy,hrest⟩:=h
   have hunk : listed.getD k false = false:=by rw [hl k hk]; simp
   have hsame : ∀ j,j < ops.size → listed.getD j true = listed.getD j false:=fun j hj=>by
    have : j < listed.size:=by omega
    simp [this]
   have hready : k ∈ Region.ready .any ops listed:=by
    refine mem_ready.2 ⟨by rw [hsame k hk]; exact hunk,o,ho,fun e he hb=>?_⟩
    have : e.on < k:=hdeps e.on (by unfold deps; rw [ho]; exact List.mem_map.2 ⟨e,List.mem_filter.2 ⟨by simpa using he,hb⟩,rfl⟩)
    rw [hl e.on (by omega)]; simpa using this
   have hdown : down ops listed:=fun j hj e he=>by
    by_cases hjs : j < ops.size
    · rw [hl j hjs] at hj
      have hjk : j < k:=by simpa using hj
      have:=(lexOkE_spec hB hjs).1 e he
      rw [hl e (by omega)]; simp; omega
    · have : ¬ j < listed.size:=by omega
      simp [Array.getElem?_eq_none (Nat.le_of_not_lt this)] at hj
   refine anyA_firstE ho hdst l.length listed s hn hne hdown (fun j oj hj hjk hun hw=>?_) hready hy ?_
   · have hj' : j < ops.size:=(Array.getElem?_eq_some_iff.1 hj).1
     rw [hsame j hj',hl j hj'] at hun
     have : k < j:=by simp at hun; omega
     exact hpairs j this hj' hw o oj ho hj
   · refine anyA_lexE hB hdst l (k + 1) _ _ (fun j=>by have:=hlk (j + 1); simpa [Nat.add_assoc,Nat.add_comm 1 j] using this) (by omega) (by simpa using hsz) (fun j hj=>?_) (by rw [app_n]; exact hn) (hne.app hy (by rw [hn]; exact dstOk_get hdst ho)) hrest
     by_cases hjk : k = j
     · subst hjk
       have : k < listed.size:=by omega
       simp [this]
     · rw [getD_set_ne false hjk,hl j hj]
       simp; omega
theorem region_drawE {C : Ctx} {id : Nat} {a : Act} {w : World} {Q : AS → Prop} {Q' : Exit → Act → World → Prop} (hm : P.follows .mixedOrders = true) (hB : lexOkE ops = true) (hd : dstOk ops s.n = true)
 (hs : SRel C s a w) (hQ : ∀ s a w,Q s → SRel C s a w → Q' .normal a w) (h : lexA P ops Q ops.toList s) : (Code.region id ops true).wpIn (fnc C.rd) 0 P Q' a w:=by
 obtain ⟨p,hs⟩:=hs
 have hs' : SR C p s a { w with drawn:=w.drawn + 1 }:=hs.below (w':=w.drew) ((Below.refl _ _).drew) (fun _ h=>h) (fun _ h=>.inl h) hs.rb
 refine wpIn_region_any hm (anyA_sound hQ _ _ _ _ _ p hd ?_ hs')
 have:=anyA_lexE (n:=s.n) hB hd ops.toList 0 (Array.replicate ops.size false) s (by simp) (by simp) (by simp) (fun j hj=>by simp [hj]) rfl ⟨C,p,a,w,hs⟩ h
 simpa using this
theorem awp_drawE {C : Ctx} {Q : Exit → AS → Prop} {id : Nat} {l : List Oper} (hm : P.follows .mixedOrders = true) (hB : lexOkE l.toArray = true) (hd : dstOk l.toArray s.n = true) (h : aops P true l.toArray l (Q .normal) s) : awp P C (.region id l.toArray true) Q s:=fun a w hs=>by
 obtain ⟨p,hp⟩:=hs
 exact region_drawE hm hB hd ⟨p,hp⟩ (fun s a w hq hs=>⟨s,hs,hq⟩) (aops_lex l s hd ⟨C,p,a,w,hp⟩ h)
theorem awp_dregE {C : Ctx} {Q : Exit → AS → Prop} {id : Nat} {l : List Oper} (hm : P.follows .mixedOrders = true) (hB : lexOkE l.toArray = true) (hd : dstOk l.toArray s.n = true)
 (h : ∀ K : AS → Prop,(∀ s,Q .normal s → K s) → aops P true l.toArray l K s) : awp P C (.region id l.toArray true) Q s:=awp_drawE hm hB hd (h _ fun _ h=>h)
end
end Go.Oc

namespace Go.Oc
open Go Go.RowKit
set_option linter.unusedVariables false
set_option linter.unusedSimpArgs false
def sBuildOwn (P : Program) (s : AS) (d : Nat) (t : TypeId) (len : Nat) (parts : List (Nat × AV)) : Res :=
 match tyq P t with
 | some ⟨.slice e esz _ ez, _, _, _⟩ =>
   if len = 0 then .bad else
   match layE s.ver esz (List.replicate len ez) parts with
   | some es=>⟨0 < esz ∧ len * esz ≤ 16777216 ∧ d < 1000,True,⟨.os d ((s.rows d).ver + 1) esz 0 len,[(d,⟨(s.rows d).ver + 1,.arr e esz es⟩)]⟩⟩
   | none=>.bad
 | _=>.bad
section
variable {P : Program} {C : Ctx} {p : Plan} {s : AS} {a : Act} {w : World} {o : Oper}
theorem good_buildOwn {t : TypeId} {n : Nat} {ps : Array (Nat × Operand)} (h : SR C p s a w) (ho : o.op = .buildSlice t n ps) (hp : (sBuildOwn P s (o.dst.getD 0) t n (ps.toList.map fun (i,x)=>(i,s.ev x))).pre) :
 Done P C o s a w (sBuildOwn P s (o.dst.getD 0) t n (ps.toList.map fun (i,x)=>(i,s.ev x))):=by
 have hparts:=parts_rel h ps.toList
 unfold sBuildOwn at hp ⊢
 split at hp
 · rename_i e esz eb ez sz agg z e1
   obtain ⟨hu,hok,hsz,_,zv,hzv,hez⟩:=tyq_slice e1
   subst hsz
   obtain ⟨i,zval,hi,hzero,hcells,hz1,hzl⟩:=zeroOf_spec hzv
   split at hp
   · exact hp.elim
   · rename_i hn0
     rw [if_neg hn0]
     split at hp
     · rename_i es hlay
       obtain ⟨hpos,hmax,hd⟩ : 0 < P.cellsOf e ∧ n * P.cellsOf e ≤ 16777216 ∧ o.dst.getD 0 < 1000:=hp
       have hzc : zval.cells.size = P.cellsOf e:=by rw [← hzl,← hcells]; simp
       obtain ⟨cells',hf,hle,hl',hr,hr1⟩:=layE_rel (p:=p) (w:=w) _ (ps.toList.map fun x=>(x.1,a.eval x.2)) _ _ (madeCells zval.cells (n * P.cellsOf e)) hlay
        (by intro e he; rw [List.eq_of_mem_replicate he,hez,List.length_map,hzl])
        (by
         rw [← hzc,madeCells_list,hcells,hez]
         clear hlay hn0 ho hmax
         induction n with
         | zero=>simp [RV.relV]
         | succ n ih =>
           simp only [List.replicate_succ,List.flatten_cons];exact RV.relV_append (RV.relV_ofV1 w p.R zv) ih)
        (by
         rw [← hzc,madeCells_list,hcells]
         intro u hu
         obtain ⟨l,hl,hul⟩:=List.mem_flatten.1 hu
         rw [List.eq_of_mem_replicate hl] at hul
         exact hz1 u hul)
        hparts.1 hparts.2
       have hnl : es.length = n:=by rw [hle]; simp
       have hcl : cells'.size = n * P.cellsOf e:=by
        rw [← Array.length_toList,RV.relV_length hr]
        have : ∀ (es : List (List RV)),(∀ x ∈ es,x.length = P.cellsOf e) → es.flatten.length = es.length * P.cellsOf e:=by
         intro es
         induction es with
         | nil=>simp
         | cons x es ih =>
           intro h
           rw [List.flatten_cons,List.length_append,ih fun y hy=>h y (by simp [hy]),h x (by simp),List.length_cons,Nat.add_mul]
           omega
        rw [this es hl',hnl]
       have hnm : n ≤ 16777216:=Nat.le_trans (Nat.le_mul_of_pos_right n hpos) hmax
       have hn:=h.newRow (o.dst.getD 0) hd (.arr e (P.cellsOf e) es) rfl n (by simp only [maxLen]; omega) (.cells cells' e) (fun p' ver' hR hβ hγ hk=>by
        simp only [rowRel];rw [hγ]
        refine .inr ⟨_,_,hβ,heap_alloc_new w _,hcl,by rw [hnl]; exact Nat.le_refl _,?_⟩
        rw [hR]
        have hV : RV.relV (w.alloc (.cells cells' e)) p.R es.flatten cells'.toList :=
         RV.relV_mono (fun _ h=>h) (fun ad hr=>World.cell?_alloc_lt w _ ad (h.rb _ hr)) _ _ hr
        refine relE_of_vals hl' hV hr1 (fun j u hj=>?_)
        rw [add_at]
        simp only [Nat.zero_add,World.cell?_alloc_new]
        simpa using hj)
       refine ⟨_,.slice (some ⟨w.heap.size,0,none⟩) n n,_,_,?_,.inl rfl,trivial,by rw [rows_one]; exact hn,?_⟩
       · have hmap : (ps.map fun (x : Nat × Operand)=>(x.1,a.eval x.2)).toList = ps.toList.map fun x=>(x.1,a.eval x.2):=by simp
         have hne : ¬ (n * P.cellsOf e = 0):=by
          have:=Nat.mul_pos (show 0 < n by omega) hpos
          omega
         have hz : (zeroValue e).run P w = .ok zval w:=by simp [zeroValue,typeInfo,hi,hzero]
         have hf':=hf
         simp only [madeCells] at hf'
         simp only [execOp,ho,Instr.buildSlice,Sem.run_bind,run_underlying hu,Result.andThen_ok,run_sizeOf_ok hok,if_neg (show ¬ (n * P.cellsOf e > 2 ^ 24) by omega),if_neg hne,hz,Sem.run_pure,hmap,hf']
         simp [newRow]
       · rw [rows_one]
         simp only [AV.rel,vers,upd_same];exact ⟨Nat.le_refl _,fun _=>.inr ⟨_,_,rfl,by simp; rfl,by omega,fun _=>by simp⟩⟩
     · exact hp.elim
 · exact hp.elim
variable {Q : Exit → AS → Prop} {ops : Array Oper}
theorem sops_own {l : List Oper} {t : TypeId} {n : Nat} {ps : List (Nat × Operand)} {d : Nat} {ty : TypeId} {pos : String} {af : Array Edge} (hdn : d < s.n)
 (h : aR s (some d) (sBuildOwn P s d t n (evp s ps)) (fun s'=>sops P C ops l Q s')) : sops P C ops (⟨some d,.buildSlice t n ps.toArray,ty,pos,af,none⟩ :: l) Q s:=fun a w ⟨p,hs⟩=>by
 rw [← evp_eq] at h
 unfold wpListIn
 rw [if_pos (wantA_sound hs (by simp [wantA]))]
 refine wpIn_of_wp (by intro c h; cases h) ?_
 obtain ⟨nx,v,w',p',hrun,hnx,hass,hSR,hrel⟩:=good_buildOwn (o:=⟨some d,.buildSlice t n ps.toArray,ty,pos,af,none⟩) hs rfl h.1
 unfold Oper.wp
 rw [hrun]
 have hput:=hSR.put' (d:=some d) hrel (fun t ht=>by injection ht with ht; subst ht; exact hdn)
 rcases hnx with rfl | ⟨rfl,rfl⟩
 · exact h.2 hass _ _ ⟨p',hput⟩
 · exact h.2 hass _ _ ⟨p',hput⟩
end
end Go.Oc

namespace Go.Oc
open Go Go.RowKit
def cpR (s : AS) (d : Nat) (b : AV) (r : Res) (K : AS → Prop) : Prop :=
 match b,r with
 | .r .ns,⟨pre,_,⟨.os d' v sz 0 m,[(d'',⟨v',.arr _ sz' es⟩)]⟩⟩=>pre ∧ d < 1000 ∧ d' = d ∧ d'' = d ∧ v = (s.rows d).ver + 1 ∧ v' = v ∧ sz' = sz ∧ m = es.length ∧ K (AS.put (s.row d ⟨(s.rows d).ver + 2,.dead⟩) (some d) (.r (.sl sz es)))
 | _,_=>False
def cpX (P : Program) (s : AS) (d : Nat) (t : TypeId) (b : AV) (n : Option (Prop × Nat × List (List RV))) (K : AS → Prop) : Prop :=
 match tyq P t,b,n with
 | some ⟨.slice _ esz eb _, _, _, _⟩, .r (.sx sz0 es), some (c, sz, ns) => sz0 = esz ∧ d < 1000 ∧ c ∧ (sz = esz ∨ ns = []) ∧ 0 < esz ∧ (es.length + ns.length) * eb ≤ 140737488355328 ∧ es.length + ns.length ≤ 9223372036854775807 ∧
   K (AS.put (s.row d ⟨(s.rows d).ver + 2,.dead⟩) (some d) (.r (.sl esz (es ++ ns))))
 | _,_,_=>False
def isSx : AV → Bool
 | .r (.sx _ _)=>true
 | _=>false
def cpB (s : AS) (d : Option Nat) (r : Res) (K : AS → Prop) : Prop :=
 match r with
 | ⟨pre,_,⟨.r (.sl sz es),[]⟩⟩=>pre ∧ es ≠ [] ∧ K (AS.put s d (.r (.sx sz es)))
 | _=>False
def copyK (P : Program) (o : Oper) (K : AS → Prop) (s : AS) : Prop :=
 match o.op with
 | .call ⟨.builtin .append, args, ts⟩ => (match args.toList, ts.toList, o.dst with
   | [x,z],[t,t'],some d=>t = t' ∧ (if isSx (s.ev x) then cpX P s d t (s.ev x) (news? s (s.ev z)) K else cpR s d (s.ev x) (sAppend P s d t t' (s.ev x) (s.ev z)) K)
   | _,_,_=>False)
 | .buildSlice t n ps=>cpB s o.dst (sBuildSlice P s t n (ps.toList.map fun (i,x)=>(i,s.ev x))) K
 | _=>False
def isPl (pl : List Nat) (o : Oper) : Bool :=
 match o.op with
 | .call ⟨.builtin .append,_,_⟩=>(match o.dst with | some d=>pl.contains d | none=>false)
 | .buildSlice _ _ _=>(match o.dst with | some d=>pl.contains d | none=>false)
 | _=>false
def xopC (P : Program) (pl : List Nat) (o : Oper) (K : AS → Prop) (s : AS) : Prop:=if isPl pl o then copyK P o K s else xop P true o K s
def aopsC (P : Program) (pl : List Nat) (ops : Array Oper) : List Oper → (AS → Prop) → AS → Prop
 | [],K,s=>K s
 | o :: rest, K, s =>
   match o.guard with
   | none=>xopC P pl o (aopsC P pl ops rest K) s
   | some (g, want) =>
     match ((ops[g]?).bind (·.dst) : Option Nat) with
     | none=>aopsC P pl ops rest K (s.put o.dst (.r .ud))
     | some t =>
       match s.tm t with
       | .r (.bo b)=>(b = want → xopC P pl o (aopsC P pl ops rest K) (s.put (some t) (.r (.bo want)))) ∧ (b = !want → aopsC P pl ops rest K ((s.put (some t) (.r (.bo (!want)))).put o.dst (.r .ud)))
       | .r .ud=>aopsC P pl ops rest K (s.put o.dst (.r .ud))
       | _=>False
section
variable {P : Program} {C : Ctx} {s : AS} {ops : Array Oper} {pl : List Nat}
theorem copyK_AY {o : Oper} {K : AS → Prop} (h : copyK P o K s) : ∃ y,AY P o s y ∧ (mk o y → (s.rows (o.dst.getD 0)).c = .dead ∧ o.dst.isSome = true) ∧ K (s.app o.dst y):=by
 unfold copyK at h
 split at h
 · rename_i args ts ho
   split at h
   · rename_i x z t t' d ha ht hd
     have ha : args = #[x,z]:=by cases args; simpa using ha
     have ht : ts = #[t,t']:=by cases ts; simpa using ht
     subst ha ht
     obtain ⟨rfl,h⟩:=h
     split at h
     · unfold cpX at h
       split at h
       · rename_i e esz eb ez ssz sagg sz1 sz0 es c sz ns e1 e3 hny
         obtain ⟨rfl,h2,h3,h4,h5,h6,h7,hK⟩:=h
         refine ⟨⟨.r (.sl sz0 (es ++ ns)),[(d,⟨(s.rows d).ver + 2,.dead⟩)]⟩,?_,fun hm=>?_,by rw [hd]; exact hK⟩
         · unfold AY
           split
           · rename_i ho'; rw [ho] at ho'; cases ho'
           · exact .inr ⟨x,z,t,d,_,ho,hd,h2,⟨_,e3⟩,rfl,.inr ⟨e,sz0,eb,ez,ssz,sagg,sz1,es,c,sz,ns,e3,e1,hny,h3,h4,h5,h6,h7,rfl⟩⟩
         · rcases hm with hm | ⟨hm,_⟩
           · simp [cls,ho] at hm
           · simp [vcall,ho] at hm
       · exact h.elim
     · unfold cpR at h
       split at h
       · rename_i pre ass d' v sz m d'' v' e sz' es hb hr
         obtain ⟨h1,h2,rfl,rfl,rfl,rfl,rfl,rfl,hK⟩:=h
         have hs : step P o s = sAppend P s d'' t t (s.ev x) (s.ev z):=by simp [step,ho,sBuiltin,hd]
         refine ⟨⟨.r (.sl sz' es),[(d'',⟨(s.rows d'').ver + 2,.dead⟩)]⟩,?_,fun hm=>?_,by rw [hd]; exact hK⟩
         · unfold AY
           split
           · rename_i ho'; rw [ho] at ho'; cases ho'
           · exact .inr ⟨x,z,t,d'',_,ho,hd,h2,⟨_,hb⟩,rfl,.inl ⟨by rw [hs,hr]; exact h1,hb,e,sz',es,by rw [hs,hr],rfl⟩⟩
         · rcases hm with hm | ⟨hm,_⟩
           · simp [cls,ho] at hm
           · simp [vcall,ho] at hm
       · exact h.elim
   · exact h.elim
 · rename_i t n ps ho
   unfold cpB at h
   split at h
   · rename_i pre ass sz es hr
     obtain ⟨h1,h2,hK⟩:=h
     have hs : step P o s = sBuildSlice P s t n (ps.toList.map fun (i,x)=>(i,s.ev x)):=by simp only [step,ho]
     refine ⟨⟨.r (.sx sz es),[]⟩,?_,fun hm=>?_,hK⟩
     · unfold AY
       split
       · rename_i ho'; rw [ho] at ho'; cases ho'
       · exact .inl ⟨by rw [hs,hr]; exact h1,.inr ⟨by simp [isBS,ho],sz,es,h2,by rw [hs,hr],rfl⟩⟩
     · rcases hm with hm | ⟨hm,_⟩
       · simp [cls,ho] at hm
       · simp [vcall,ho] at hm
   · exact h.elim
 · exact h.elim
theorem aopsC_lex {Q : AS → Prop} : ∀ (l : List Oper) (s : AS),dstOk l.toArray s.n = true → NE s → aopsC P pl ops l Q s → lexA P ops Q l s
 | [],_,_,_,h=>h
 | o :: l, s, hd, hne, h => by
   have hd0 : ∀ t,o.dst = some t → t < s.n:=dstOk_get (i:=0) hd (by simp)
   have hdl : dstOk l.toArray s.n = true:=by
    unfold dstOk at hd ⊢
    simp only [List.all_toArray,List.all_cons,Bool.and_eq_true] at hd ⊢
    exact hd.2
   have run : ∀ {s1 : AS},s1 = s → xopC P pl o (aopsC P pl ops l Q) s1 → wantA ops s o = some true → lexA P ops Q (o :: l) s:=fun e hop hw=>by
    subst e
    unfold xopC at hop
    split at hop
    · obtain ⟨y,hy,hdead,hK⟩:=copyK_AY hop
      have hY : YieldsA P ops o y _:=.inl ⟨hw,hy,hdead⟩
      exact ⟨y,hY,aopsC_lex l _ (by rw [app_n]; exact hdl) (hne.app hY hd0) hK⟩
    · unfold xop at hop
      rw [if_pos rfl] at hop
      obtain ⟨y,hy,hdead,hK⟩:=aop_AY hop
      have hY : YieldsA P ops o y _:=.inl ⟨hw,hy,hdead rfl⟩
      exact ⟨y,hY,aopsC_lex l _ (by rw [app_n]; exact hdl) (hne.app hY hd0) (hK hne)⟩
   have skip : ∀ {s1 : AS},s1 = s → aopsC P pl ops l Q (s1.put o.dst (.r .ud)) → wantA ops s o = some false → lexA P ops Q (o :: l) s:=fun e hop hw=>by
    subst e
    have hY : YieldsA P ops o ysk _:=.inr ⟨hw,rfl⟩
    exact ⟨ysk,hY,aopsC_lex l _ (by rw [app_n]; exact hdl) (hne.app hY hd0) hop⟩
   unfold aopsC at h
   split at h
   · rename_i hg
     exact run rfl h (by simp [wantA,hg])
   · rename_i g want hg
     split at h
     · rename_i ht
       exact skip rfl h (by simp [wantA,hg,ht])
     · rename_i t ht
       split at h
       · rename_i b hb
         by_cases hw : b = want
         · subst hw
           exact run (put_self hb) (h.1 rfl) (by simp [wantA,hg,ht,hb])
         · have hw' : b = !want:=by cases b <;> cases want <;> simp_all
           subst hw'
           exact skip (put_self hb) (h.2 rfl) (by simp [wantA,hg,ht,hb])
       · rename_i hb
         exact skip rfl h (by simp [wantA,hg,ht,hb])
       · exact h.elim
theorem awp_dregC3 {Q : Exit → AS → Prop} {id : Nat} {l : List Oper} (pl : List Nat) (κ : List (Nat × Option Nat)) (bs : List Nat) (hm : P.follows .mixedOrders = true) (hB : lexOk3 l.toArray κ bs = true) (hd : dstOk l.toArray s.n = true) (hk : keysOk κ s) (hbx : ∀ k ∈ bs,boxRow s k)
 (h : ∀ K : AS → Prop,(∀ s,Q .normal s → K s) → aopsC P pl l.toArray l K s) : awp P C (.region id l.toArray true) Q s:=fun a w hs=>by
 obtain ⟨p,hp⟩:=hs
 exact region_draw3 hm hB hd hk hbx ⟨p,hp⟩ (fun s a w hq hs=>⟨s,hs,hq⟩) (aopsC_lex l s hd ⟨C,p,a,w,hp⟩ (h _ fun _ h=>h))
variable {n : Nat} {l : List (Nat × AV)} {vs : Nat → Nat} {cs : List (Nat × RowC)} {K : AS → Prop} {d : Option Nat} {ty : TypeId} {pos : String} {af : Array Edge}
theorem aopsC_nil {ops : Array Oper} : aopsC P pl ops [] K s ↔ K s:=Iff.rfl
theorem aopsC_cons {ops : Array Oper} {o : Op} {rest : List Oper} : aopsC P pl ops (⟨d,o,ty,pos,af,none⟩ :: rest) K s ↔ xopC P pl ⟨d,o,ty,pos,af,none⟩ (aopsC P pl ops rest K) s:=Iff.rfl
theorem row_dead {k m : Nat} : AS.row (st n l vs cs) k ⟨m,.dead⟩ = st n l (upd vs k m) (delc cs k):=by
 rw [row_st]
 unfold st
 congr 1
 funext j
 rw [lookc_insc,lookc_delc]
attribute [go_sem] Nat.reduceBEq Bool.or_false Bool.false_or Bool.or_true Bool.true_or
attribute [go_sem] aopsC_nil aopsC_cons xopC isPl copyK cpR cpB cpX isSx List.contains_cons List.contains_nil List.toList_toArray
attribute [go_sem high] row_dead
end
end Go.Oc

namespace Go.Oc
open Go Go.RowKit
set_option linter.unusedVariables false
def idK (L : List (Nat × RowC)) : List (Nat × Nat):=L.map fun x=>(x.1,x.1)
def npostL (P : Program) (rv : ResultVar) (L : List (Nat × RowC)) (r : AV) : Exit → AS → Prop
 | .normal,s=>resC (resA P s rv) fun v=>lendA (idK L) s.ver v = some r ∧ lendOk (idK L) s (idK L) L
 | .ret,s=>resC (resA P s rv) fun v=>lendA (idK L) s.ver v = some r ∧ lendOk (idK L) s (idK L) L
 | _,_=>False
theorem npostL_ret {P : Program} {rv : ResultVar} {L : List (Nat × RowC)} {r : AV} {s : AS} : npostL P rv L r .ret s = resC (resA P s rv) fun v=>lendA (idK L) s.ver v = some r ∧ lendOk (idK L) s (idK L) L:=rfl
theorem npostL_normal {P : Program} {rv : ResultVar} {L : List (Nat × RowC)} {r : AV} {s : AS} : npostL P rv L r .normal s = resC (resA P s rv) fun v=>lendA (idK L) s.ver v = some r ∧ lendOk (idK L) s (idK L) L:=rfl
theorem idK_pin : ∀ {L : List (Nat × RowC)} {k : Nat},(hasKey L k = true → pinOf (idK L) k = some k) ∧ (hasKey L k = false → pinOf (idK L) k = none)
 | [],k=>by simp [hasKey,idK,pinOf]
 | (j, c) :: L, k => by
   obtain ⟨h1,h2⟩:=idK_pin (L:=L) (k:=k)
   simp only [hasKey,List.any_cons,Bool.or_eq_true,beq_iff_eq,Bool.or_eq_false_iff,beq_eq_false_iff_ne] at h1 h2 ⊢
   simp only [idK,List.map_cons,pinOf]
   constructor
   · intro h
     by_cases e : k = j
     · rw [if_pos e,e]
     · rw [if_neg e]
       rcases h with h | h
       · exact absurd h.symm e
       · exact h1 h
   · rintro ⟨h,h'⟩
     rw [if_neg (fun e=>h e.symm)]
     exact h2 h'
theorem ncalls_st {P : Program} {f : FuncId} {fn : Func} {c : Code} {n : Nat} {args : List RV} (L : List (Nat × RowC)) (r : AV) (rv : ResultVar) (hf : P.funcs[f]? = some fn) (hb : fn.body = some c) (hc : callable P f = true) (hn : fn.ntmps = n) (hres : fn.results.toList = [rv]) (hargs : args.length ≤ n)
 (hap : apart (idK L) = true) (hsm : (L.all fun x=>decide (x.1 < 1000)) = true) (h : ∀ C : Ctx,C.rd = none ∧ C.X = XS.none → awp P C c (npostL P rv L r) (st n (argL 0 args) (fun _=>0) [])) : NCalls P f args L r:=by
 refine ⟨hc,fun w R vs hR hV=>?_⟩
 have hlen:=RV.relV_length hV
 simp only [Array.length_toList] at hlen
 let C : Ctx:={ w0:=w,R0:=R,bor:=fun _=>False,pin:=fun _=>none }
 let p : Plan:={ R:=R,β:=fun _=>none,γ:=fun _=>1 }
 have hs : SR C p (st n (argL 0 args) (fun _=>0) []) { tmps:=vs ++ Array.replicate (fn.ntmps - vs.size) undef,defers:=[] } w:={
  base:=⟨rfl,rfl,rfl,Nat.le_refl _,fun _ _ _ _=>rfl⟩
  r0:=fun _ h=>h
  rn:=fun _ h=>.inl h
  rb:=hR
  tm:=fun t=>by
   show (look (argL 0 args) t).rel _ _ _ _
   by_cases hmem : ∃ x,(t,x) ∈ argL 0 args
   · cases e : args[t]? with
     | none =>
       obtain ⟨x,hx⟩:=hmem
       obtain ⟨i,y,h1,h2⟩:=argL_mem _ hx
       simp only [Nat.zero_add,Prod.mk.injEq] at h1
       rw [← h1.1,e] at h2; cases h2
     | some x =>
       obtain ⟨u,hu,hx⟩:=RV.relV_get hV e
       have : (vs ++ Array.replicate (fn.ntmps - vs.size) undef).getD t undef = u:=by
        have ht : t < vs.size:=by have:=(List.getElem?_eq_some_iff.1 hu).1; simpa using this
        rw [Array.getD_eq_getD_getElem?,Array.getElem?_append_left ht]
        simp only [Array.getElem?_toList] at hu
        rw [hu]; rfl
       have e2:=argL_look (k:=0) e
       rw [Nat.zero_add] at e2
       rw [this,e2]
       simpa only [AV.rel] using hx
   · rw [look_none hmem]
     exact AV.rel_un _ _ _ _
  sz:=by simp only [Array.size_append,Array.size_replicate,st]; omega
  ex:=ext_start (fun _ h=>h.elim (fun h=>h.elim) (fun h=>h.elim))
  rw:=fun k=>by simp [st,lookc_nil,rowRel,p]
  bl:=fun k b h=>by simp [p] at h
  ij:=fun k k' b h=>by simp [p] at h
  cap:=fun k=>by simp [p,maxLen]
  pn:=fun k x h=>by cases h
  lk:=fun j km n l cur h _=>by cases h }
 refine callsIn_wide.1 (callsIn_of_wp_marks (n:=0) hf hb trivial (wpIn_mono (h C ⟨rfl,rfl⟩ _ w ⟨p,hs⟩) ?_))
 rintro e a' w' ⟨s',⟨p',hs'⟩,hq⟩
 have fin : ∀ (a' : Act) (w' : World) (_ : SR C p' s' a' w'),(resC (resA P s' rv) fun v=>lendA (idK L) s'.ver v = some r ∧ lendOk (idK L) s' (idK L) L) → ∃ v,(results fn a'.tmps).run P w' = .ok v w' ∧ ∃ v',∃ q : Plan,Ending.returned v = .returned v' ∧ Below w.heap.size w w' ∧ (∀ b,R b → q.R b) ∧ (∀ b,q.R b → R b ∨ w.heap.size ≤ b) ∧ (∀ b,q.R b → b < w'.heap.size) ∧
  (∀ k b,q.β k = some b → w.heap.size ≤ b ∧ b < w'.heap.size ∧ ¬ q.R b ∧ hasKey L k = true) ∧ (∀ k k' b,q.β k = some b → q.β k' = some b → k = k') ∧ (∀ k,q.γ k ≤ maxLen) ∧ (∀ k,hasKey L k = false → q.γ k = 1) ∧
  (∀ k,hasKey L k = true → rowRel w' q (fun _=>0) k (lookc L k)) ∧ r.rel w' q (fun _=>0) v':=fun a' w' hs' ⟨hp,hv,hlo⟩=>by
  obtain ⟨u,hu,hrel⟩:=run_result hs' rv hp
  have hm : (fn.results.mapM (resOp a'.tmps)).run P w' = .ok #[u] w':=by
   rw [Array.mapM_eq_mapM_toList,hres]
   simp only [Sem.run_map,List.mapM_cons,List.mapM_nil,Sem.run_bind,hu,Result.andThen_ok,Sem.run_pure]
  obtain ⟨g1,g2⟩:=lendOk_get hlo
  have hβ : ∀ k b,(lendPlan (idK L) p').β k = some b → hasKey L k = true ∧ p'.β k = some b:=fun k b hb=>by
   cases e : hasKey L k
   · simp [lendPlan,idK_pin.2 e] at hb
   · simp only [lendPlan,idK_pin.1 e] at hb; exact ⟨rfl,hb⟩
  refine ⟨u,by rw [results_eq,Sem.run_bind,hm]; simp,u,lendPlan (idK L) p',rfl,⟨hs'.base.os,hs'.base.tape,hs'.base.output,hs'.base.size,fun k hk=>hs'.base.block k hk (fun h=>h) (fun h=>h)⟩,hs'.r0,fun b hb=>?_,hs'.rb,fun k b hb=>?_,fun k k' b hb hb'=>hs'.ij k k' b (hβ k b hb).2 (hβ k' b hb').2,fun k=>?_,fun k hk=>?_,fun k hk=>?_,lend_rel hap _ _ _ hv hrel⟩
  · rcases hs'.rn b hb with h | h | h
    · exact .inl h
    · exact .inr h
    · exact h.elim
  · obtain ⟨h1,h2⟩:=hβ k b hb
    obtain ⟨g3,g4,g5⟩:=hs'.bl k b h2
    exact ⟨g5.resolve_right (fun h=>h.elim (fun h=>h.2) fun h=>h),g3,g4,h1⟩
  · cases e : hasKey L k
    · simp [lendPlan,idK_pin.2 e,maxLen]
    · simp only [lendPlan,idK_pin.1 e]; exact hs'.cap k
  · simp [lendPlan,idK_pin.2 hk]
  · exact lendC_rel hap (idK_pin.1 hk) (g1 k k (idK_pin.1 hk)) (hs'.rw k)
 cases e with
 | normal=>exact hs'.leave fun a'' w'' _ hs''=>fin a'' w'' hs'' hq
 | ret=>exact hs'.leave fun a'' w'' _ hs''=>fin a'' w'' hs'' hq
 | _=>exact hq.elim
def newVs (vs : Nat → Nat) : List (Nat × Nat) → Nat → Nat
 | []=>vs
 | (_,ck) :: l=>newVs (upd vs ck (vs ck + 1)) l
def newCs (ρ : List (Nat × Nat)) (ver : Nat → Nat) (L : List (Nat × RowC)) : List (Nat × Nat) → List (Nat × RowC) → List (Nat × RowC)
 | [],cs=>cs
 | (pk,ck) :: l,cs=>newCs ρ ver L l (insc cs ck (backC ρ ver (lookc L pk)))
theorem lendKey_none : ∀ {l : List (Nat × Nat)} {ck : Nat},(lendKey l ck).isNone = true → lendKey l ck = none:=fun h=>Option.isNone_iff_eq_none.1 h
theorem newVs_eq : ∀ {ρ : List (Nat × Nat)} {vs : Nat → Nat},apart ρ = true → newVs vs ρ = newVer ρ vs
 | [],vs,_=>by funext k; rfl
 | (pk, ck) :: l, vs, h => by
   simp only [apart,Bool.and_eq_true] at h
   funext k
   rw [newVs,newVs_eq h.2]
   unfold newVer
   simp only [lendKey]
   by_cases e : k = ck
   · subst e
     rw [if_pos rfl,lendKey_none h.1.2,upd_same]
   · rw [if_neg e,upd_other _ _ e]
theorem newCs_eq {σ : List (Nat × Nat)} {ver : Nat → Nat} {L : List (Nat × RowC)} : ∀ {ρ : List (Nat × Nat)} {cs : List (Nat × RowC)} {k : Nat},apart ρ = true →
 lookc (newCs σ ver L ρ cs) k = match lendKey ρ k with | some pk=>backC σ ver (lookc L pk) | none=>lookc cs k
 | [],cs,k,_=>rfl
 | (pk, ck) :: l, cs, k, h => by
   simp only [apart,Bool.and_eq_true] at h
   rw [newCs,newCs_eq h.2]
   simp only [lendKey]
   by_cases e : k = ck
   · subst e
     rw [if_pos rfl,lendKey_none h.1.2]
     simp [lookc_insc]
   · rw [if_neg e]
     cases lendKey l k with
     | none=>simp [lookc_insc,e]
     | some pk'=>rfl
section
variable {n : Nat} {l : List (Nat × AV)} {vs : Nat → Nat} {cs : List (Nat × RowC)}
theorem xcall_new {P : Program} {F : FuncId} {args : List RV} {L : List (Nat × RowC)} {caps : List AV} {r : AV} {d : Option Nat} {f : AV} {xs : List AV} {K : AS → Prop} (h : NCalls P F args L r) (ρ : List (Nat × Nat)) (hf : callee? f = some (F,caps))
 (hp : AV.pureL (xs ++ caps) = true) (he : snapVL (st n l vs cs).rows (xs ++ caps) = args) (ha : apart ρ = true) (hs : sameKeysN ρ L = true) (hsm : smallK ρ = true)
 (hK : K (AS.put (st n l (newVs vs ρ) (newCs ρ (newVs vs ρ) L ρ cs)) d (backA ρ (newVs vs ρ) r))) : xcall P false (st n l vs cs) d f xs K:=by
 refine .inr (.inl ⟨rfl,.inr (.inr (.inr ⟨F,caps,args,ρ,L,r,hf,hp,he ▸ leL_refl _,h,ha,hs,hsm,?_⟩))⟩)
 have e : ({ st n l vs cs with rows:=newRows ρ L (st n l vs cs).rows } : AS) = st n l (newVs vs ρ) (newCs ρ (newVs vs ρ) L ρ cs):=by
  unfold st
  simp only [AS.mk.injEq,true_and]
  funext k
  rw [newCs_eq ha,newVs_eq ha]
  unfold newRows newVer
  have hv : vers (fun k=>(⟨vs k,lookc cs k⟩ : Row)) = vs:=rfl
  rw [hv]
  cases lendKey ρ k <;> rfl
 rw [e]
 have hv : newVer ρ (st n l vs cs).ver = newVs vs ρ:=by rw [newVs_eq ha]; rfl
 rw [hv]
 exact hK
end
attribute [go_sem] npostL_ret npostL_normal newVs newCs idK
end Go.Oc

namespace Go.Oc
open Go Go.RowKit
set_option linter.unusedVariables false
section
variable {ρ : List (Nat × Nat)} {ver ver' : Nat → Nat}
mutual
theorem lendA_congr (hv : ∀ k,(lendKey ρ k).isSome = true → ver' k = ver k) : ∀ x : AV,lendA ρ ver' x = lendA ρ ver x
 | .r _=>by simp only [lendA]
 | .tu _=>by simp only [lendA]
 | .mi _ _=>by simp only [lendA]
 | .pt k _ _=>by simp only [lendA]; cases e : lendKey ρ k with | none=>rfl | some pk=>rw [hv k (by rw [e]; rfl)]
 | .pe k _ _ _ _=>by simp only [lendA]; cases e : lendKey ρ k with | none=>rfl | some pk=>rw [hv k (by rw [e]; rfl)]
 | .os k _ _ _ _=>by simp only [lendA]; cases e : lendKey ρ k with | none=>rfl | some pk=>rw [hv k (by rw [e]; rfl)]
 | .mp k _=>by simp only [lendA]; cases e : lendKey ρ k with | none=>rfl | some pk=>rw [hv k (by rw [e]; rfl)]
 | .pu k _ _=>by simp only [lendA]; cases e : lendKey ρ k with | none=>rfl | some pk=>rw [hv k (by rw [e]; rfl)]
 | .fn _ cs=>by simp only [lendA]; rw [lendL_congr hv cs]
 | .ag cs=>by simp only [lendA]; rw [lendL_congr hv cs]
theorem lendL_congr (hv : ∀ k,(lendKey ρ k).isSome = true → ver' k = ver k) : ∀ xs : List AV,lendL ρ ver' xs = lendL ρ ver xs
 | []=>by simp only [lendL]
 | x :: xs=>by simp only [lendL]; rw [lendA_congr hv x,lendL_congr hv xs]
end
theorem lendC_congr (hv : ∀ k,(lendKey ρ k).isSome = true → ver' k = ver k) (c : RowC) : lendC ρ ver' c = lendC ρ ver c:=by
 cases c <;> simp only [lendC]
 all_goals rw [lendL_congr hv]
theorem key_of_pin : ∀ {ρ : List (Nat × Nat)} {j ck : Nat},pinOf ρ j = some ck → (lendKey ρ ck).isSome = true
 | [],_,_,h=>by simp [pinOf] at h
 | (x, y) :: ρ, j, ck, h => by
   simp only [pinOf] at h
   simp only [lendKey]
   split at h
   · injection h with h; subst h; simp
   · split
     · rfl
     · exact key_of_pin h
mutual
theorem backA_congr (hv : ∀ k,(lendKey ρ k).isSome = true → ver' k = ver k) : ∀ x : AV,backA ρ ver' x = backA ρ ver x
 | .r _=>by simp only [backA]
 | .mi _ _=>by simp only [backA]
 | .pt k _ _=>by simp only [backA]; cases e : pinOf ρ k with | none=>rfl | some ck=>simp only [hv ck (key_of_pin e)]
 | .pe k _ _ _ _=>by simp only [backA]; cases e : pinOf ρ k with | none=>rfl | some ck=>simp only [hv ck (key_of_pin e)]
 | .os k _ _ _ _=>by simp only [backA]; cases e : pinOf ρ k with | none=>rfl | some ck=>simp only [hv ck (key_of_pin e)]
 | .mp k _=>by simp only [backA]; cases e : pinOf ρ k with | none=>rfl | some ck=>simp only [hv ck (key_of_pin e)]
 | .pu k _ _=>by simp only [backA]; cases e : pinOf ρ k with | none=>rfl | some ck=>simp only [hv ck (key_of_pin e)]
 | .tu cs=>by simp only [backA]; rw [backL_congr hv cs]
 | .fn _ cs=>by simp only [backA]; rw [backL_congr hv cs]
 | .ag cs=>by simp only [backA]; rw [backL_congr hv cs]
theorem backL_congr (hv : ∀ k,(lendKey ρ k).isSome = true → ver' k = ver k) : ∀ xs : List AV,backL ρ ver' xs = backL ρ ver xs
 | []=>by simp only [backL]
 | x :: xs=>by simp only [backL]; rw [backA_congr hv x,backL_congr hv xs]
end
theorem backC_congr (hv : ∀ k,(lendKey ρ k).isSome = true → ver' k = ver k) (c : RowC) : backC ρ ver' c = backC ρ ver c:=by
 cases c <;> simp only [backC]
 all_goals rw [backL_congr hv]
theorem lendOk_congr {s s' : AS} (hr : ∀ k,(lendKey ρ k).isSome = true → s'.rows k = s.rows k) : ∀ {l : List (Nat × Nat)} {L : List (Nat × RowC)},(∀ x ∈ l,(lendKey ρ x.2).isSome = true) → lendOk ρ s l L → lendOk ρ s' l L
 | [],[],_,h=>h
 | [],_ :: _,_,h=>h.elim
 | _ :: _,[],_,h=>h.elim
 | (a, b) :: l, (k, c) :: L, hl, h => by
   simp only [lendOk] at h ⊢
   obtain ⟨h1,h2,h3⟩:=h
   refine ⟨h1,?_,lendOk_congr hr (fun x hx=>hl x (by simp [hx])) h3⟩
   rw [hr b (hl (a,b) (by simp)),lendC_congr (ver:=s.ver) fun k hk=>by show (s'.rows k).ver = _; rw [hr k hk]; rfl]
   exact h2
theorem lendKey_mem : ∀ {ρ : List (Nat × Nat)} {x : Nat × Nat},x ∈ ρ → (lendKey ρ x.2).isSome = true
 | (a, b) :: ρ, x, h => by
   simp only [lendKey]
   split
   · rfl
   · rename_i hne
     rcases List.mem_cons.1 h with h | h
     · subst h; exact absurd rfl hne
     · exact lendKey_mem h
theorem mem_of_key : ∀ {ρ : List (Nat × Nat)} {k : Nat},(lendKey ρ k).isSome = true → ∃ x ∈ ρ,x.2 = k
 | [],_,h=>by simp [lendKey] at h
 | (a, b) :: ρ, k, h => by
   simp only [lendKey] at h
   split at h
   · rename_i e; exact ⟨(a,b),by simp,e.symm⟩
   · obtain ⟨x,h1,h2⟩:=mem_of_key h
     exact ⟨x,by simp [h1],h2⟩
theorem pin_mem : ∀ {ρ : List (Nat × Nat)} {j ck : Nat},pinOf ρ j = some ck → (j,ck) ∈ ρ
 | [],_,_,h=>by simp [pinOf] at h
 | (x, y) :: ρ, j, ck, h => by
   simp only [pinOf] at h
   split at h
   · rename_i e; injection h with h; subst h e; simp
   · exact List.mem_cons_of_mem _ (pin_mem h)
end
section
variable {P : Program} {s : AS}
def found (s : AS) (ρ : List (Nat × Nat)) (xs : List AV) : Prop :=
 ∀ x ∈ ρ,¬ AV.nrL x.2 (s.ver x.2) xs ∨ ∃ y ∈ ρ,∃ cs,¬ AV.nrL y.2 (s.ver y.2) xs ∧ (s.rows y.2).c = .box cs ∧ ¬ AV.nrL x.2 (s.ver x.2) cs
theorem bcall_of {f : AV} {xs : List AV} {ρ : List (Nat × Nat)} {L : List (Nat × RowC)} {args : List AV} {F : FuncId} {cs : List AV} {r : RV} (hM : MCalls P F L L args (.r r)) (hF : callee? f = some (F,cs)) (hl : lendL ρ s.ver (xs ++ cs) = some args)
 (hL : lendOk ρ s ρ L) (hap : apart ρ = true) (hsk : sameKeys ρ L = true) (hback : ∀ x ∈ ρ,backC ρ s.ver (lookc L x.1) = (s.rows x.2).c) (hre : found s ρ (f :: xs)) : BCallOk P s f xs r:=by
 refine ⟨fun k=>(lendKey ρ k).isSome = true,fun k hk=>?_,fun s' hs'=>?_⟩
 · obtain ⟨x,hx,rfl⟩:=mem_of_key hk
   rcases hre x hx with h | ⟨y,hy,cs',h1,h2,h3⟩
   · exact .inl h
   · exact .inr ⟨y.2,cs',lendKey_mem hy,h1,h2,h3⟩
 · have hv : ∀ k,(lendKey ρ k).isSome = true → s'.ver k = s.ver k:=fun k hk=>by show (s'.rows k).ver = _; rw [hs' k hk]; rfl
   have hbk : s'.backs ρ L = s':=by
    unfold AS.backs
    refine AS.ext rfl rfl ?_
    funext j
    obtain ⟨g1,g2⟩:=backRows_get (ρ:=ρ) (ver:=s'.ver) (L':=L) (l:=ρ) (rows:=s'.rows) hap j
    cases e : lendKey ρ j with
    | none=>exact g1 e
    | some pk =>
      have hj : (lendKey ρ j).isSome = true:=by rw [e]; rfl
      have hp:=pin_lend hap e
      have hx : (pk,j) ∈ ρ:=pin_mem hp
      refine (g2 pk e).trans ?_
      rw [backC_congr hv,hback _ hx,← hs' j hj]
      rfl
   intro C p a w o g as1 ts hs ho hg has hd K Q hK
   subst hg has
   refine mcall_sound hs ho (KA:=fun t=>t = s'.put o.dst (.r r)) ⟨F,cs,ρ,L,L,args,.r r,hF,by rw [lendL_congr hv]; exact hl,lendOk_congr hs' (fun x hx=>lendKey_mem hx) hL,hap,hsk,hM,?_⟩ hd ?_
   · rw [hbk]; simp only [backA]
   · rintro a' w' p' t ht _ rfl
     exact hK a' w' p' ht
theorem xcall_keep {D : Bool} {n : Nat} {l : List (Nat × AV)} {vs : Nat → Nat} {rw : List (Nat × RowC)} {f : AV} {xs : List AV} {L : List (Nat × RowC)} {args : List AV} {F : FuncId} {caps : List AV} {r : RV} {d : Option Nat} {K : AS → Prop} (hM : MCalls P F L L args (.r r)) (ρ : List (Nat × Nat)) (hF : callee? f = some (F,caps))
 (hl : lendL ρ vs (xs ++ caps) = some args) (hL : lendOk ρ (st n l vs rw) ρ L) (hap : apart ρ = true) (hsk : sameKeys ρ L = true) (hback : ∀ x ∈ ρ,backC ρ vs (lookc L x.1) = lookc rw x.2) (hre : found (st n l vs rw) ρ (f :: xs)) (hK : K ((st n l vs rw).put d (.r r))) : xcall P D (st n l vs rw) d f xs K :=
 .inl ⟨r,.inr (bcall_of hM hF hl hL hap hsk hback hre),hK⟩
end
section
variable {P : Program} {C : Ctx} {Q : Exit → AS → Prop} {s : AS} {Φ : List (RV × RV) → Prop}
theorem awp_openMR {c : Code} (k : Nat) (hc : (s.rows k).c = .mem Φ) (h : ∀ m,Φ m → awp P C c Q { s with rows:=upd s.rows k ⟨(s.rows k).ver,.mp m⟩ }) : awp P C c Q s:=fun a w ⟨p,hs⟩=>by
 have hrow:=hs.rw k
 rw [hc] at hrow
 simp only [rowRel] at hrow
 obtain ⟨m,b,hΦ,hβ,hm⟩:=hrow
 have hset:=hs.setRow (w':=w) k (.mp m) (by rw [hc]; rfl) (fun _ _ _ _ h=>by cases h) hβ rfl rfl rfl rfl (fun i _=>rfl) (fun _=>by
  simp only [rowRel];exact ⟨b,hβ,hm⟩)
 exact h m hΦ a w ⟨p,hset⟩
theorem sub_shutMR (k : Nat) {m : List (RV × RV)} (hc : (s.rows k).c = .mp m) (hΦ : Φ m) : Sub s { s with rows:=upd s.rows k ⟨(s.rows k).ver,.mem Φ⟩ }:=fun C a w ⟨p,hs⟩=>by
 have hrow:=hs.rw k
 rw [hc] at hrow
 simp only [rowRel] at hrow
 obtain ⟨b,hβ,hm⟩:=hrow
 exact ⟨p,hs.setRow (w':=w) k (.mem Φ) (by rw [hc]; rfl) (fun _ _ _ _ h=>by cases h) hβ rfl rfl rfl rfl (fun i _=>rfl) (fun _=>by
  simp only [rowRel];exact ⟨m,b,hΦ,hβ,hm⟩)⟩
variable {n : Nat} {l : List (Nat × AV)} {vs : Nat → Nat} {cs : List (Nat × RowC)}
theorem st_rowQ (k : Nat) (c : RowC) : ({ st n l vs cs with rows:=upd (st n l vs cs).rows k ⟨((st n l vs cs).rows k).ver,c⟩ } : AS) = st n l vs (insc cs k c):=by
 simp only [st,AS.mk.injEq,true_and]
 funext j
 rw [lookc_insc]
 unfold upd
 split
 · rename_i e; subst e; rfl
 · rfl
theorem awp_openM {c : Code} (k : Nat) (hc : lookc cs k = .mem Φ) (h : ∀ m,Φ m → awp P C c Q (st n l vs (insc cs k (.mp m)))) : awp P C c Q (st n l vs cs) :=
 awp_openMR k hc fun m hm=>by rw [st_rowQ]; exact h m hm
theorem sub_shutM (Φ : List (RV × RV) → Prop) (k : Nat) {m : List (RV × RV)} (hc : lookc cs k = .mp m) (hΦ : Φ m) : Sub (st n l vs cs) (st n l vs (insc cs k (.mem Φ))):=by
 have:=sub_shutMR (s:=st n l vs cs) k hc hΦ
 rwa [st_rowQ] at this
end
end Go.Oc
