/- Part 9 of the texts of this claim. -/
import Derived.Test.YtobokbhpeaakjaaVM8
import Derived.Test.YtobokbhpeaakjaaVM7
namespace Go.Oc
open Go Go.RowKit
set_option linter.unusedSimpArgs false
set_option linter.unusedVariables false
def RCalls (P : Program) (f : FuncId) (L L' : List (Nat × RowC)) (args : List AV) (r : AV) : Prop :=
 callable P f = true ∧ ∀ (w : World) (p : Plan) (vs : Array Value),p.X = XS.none ∧ p.Ψ = (fun _=>False) ∧ p.Θ = (fun _=>False) →
  (∀ b,p.R b → b < w.heap.size) → (∀ k b,p.β k = some b → b < w.heap.size ∧ ¬ p.R b) → (∀ k k' b,p.β k = some b → p.β k' = some b → k = k') → (∀ k,p.γ k ≤ maxLen) →
  (∀ k,rowRel w p (fun _=>0) k (lookc L k)) → AV.relV w p (fun _=>0) args vs.toList →
  Calls P f vs w fun e w'=>∃ v q,e = .returned v ∧ r.rel w' q (fun _=>0) v ∧ (w'.os = w.os ∧ w'.tape = w.tape ∧ w'.output = w.output ∧ w.heap.size ≤ w'.heap.size) ∧
   (∀ k,k < w.heap.size → (∀ j,p.β j ≠ some k) → w'.heap[k]? = w.heap[k]?) ∧ (∀ b,p.R b → q.R b) ∧ (∀ b,q.R b → p.R b ∨ w.heap.size ≤ b ∨ ∃ j,p.β j = some b) ∧ (∀ b,q.R b → b < w'.heap.size) ∧
   (∀ k b,q.β k = some b → b < w'.heap.size ∧ ¬ q.R b ∧ (w.heap.size ≤ b ∨ ∃ j,p.β j = some b)) ∧ (∀ k k' b,q.β k = some b → q.β k' = some b → k = k') ∧ (∀ k,q.γ k ≤ maxLen) ∧
   (∀ k,keyIn L k = true → 1000 ≤ k → q.β k = p.β k ∧ q.γ k = p.γ k) ∧ ∀ k,keyIn L k = true → rowRel w' q (fun _=>0) k (lookc L' k)
section
variable {P : Program} {C : Ctx} {p p' q : Plan} {s : AS} {a : Act} {w w' : World} {o : Oper}
mutual
def nrmA (V : Nat → Nat) : AV → AV
 | .r v=>.r v
 | .pt k n off=>if n = V k then .pt k 0 off else .r .un
 | .os k n sz off m=>if n = V k then .os k 0 sz off m else .r .un
 | .mp k n=>if n = V k then .mp k 0 else .r .un
 | .ag cs=>.ag (nrmL V cs)
 | _=>.r .un
def nrmL (V : Nat → Nat) : List AV → List AV
 | []=>[]
 | x :: xs=>nrmA V x :: nrmL V xs
end
def nrmC (V : Nat → Nat) : RowC → RowC
 | .box cs=>.box (nrmL V cs)
 | .arr t sz es=>.arr t sz es
 | .mp m=>.mp m
 | _=>.dead
mutual
theorem backR_rel {ρ : List (Nat × Nat)} (hq : ∀ pk ck,pinOf ρ pk = some ck → p'.β ck = q.β pk ∧ p'.γ ck = q.γ pk) (hqR : p'.R = q.R) {ver : Nat → Nat} : ∀ (x : AV) (v : Value),x.rel w q (fun _=>0) v → (backA ρ ver x).rel w p' ver v
 | .r x,v,hv=>by simp only [AV.rel] at hv; simp only [backA,AV.rel]; rw [hqR]; exact hv
 | .pt k n off, v, hv => by
   simp only [AV.rel] at hv
   simp only [backA]
   split
   · rename_i ck e
     simp only [AV.rel]
     refine ⟨Nat.le_refl _,fun _=>?_⟩
     have:=hv.2 (Nat.le_zero.1 hv.1)
     rwa [← (hq _ _ e).1] at this
   · exact AV.rel_un _ _ _ _
 | .pe k n sz idx off, v, hv => by
   simp only [AV.rel] at hv
   simp only [backA]
   split
   · rename_i ck e
     simp only [AV.rel]
     refine ⟨Nat.le_refl _,fun _=>?_⟩
     have:=hv.2 (Nat.le_zero.1 hv.1)
     rwa [← (hq _ _ e).1] at this
   · exact AV.rel_un _ _ _ _
 | .os k n sz off m, v, hv => by
   simp only [AV.rel] at hv
   simp only [backA]
   split
   · rename_i ck e
     simp only [AV.rel]
     refine ⟨Nat.le_refl _,fun _=>?_⟩
     have:=hv.2 (Nat.le_zero.1 hv.1)
     rwa [← (hq _ _ e).1,← (hq _ _ e).2] at this
   · exact AV.rel_un _ _ _ _
 | .mp k n, v, hv => by
   simp only [AV.rel] at hv
   simp only [backA]
   split
   · rename_i ck e
     simp only [AV.rel]
     refine ⟨Nat.le_refl _,fun _=>?_⟩
     have:=hv.2 (Nat.le_zero.1 hv.1)
     rwa [← (hq _ _ e).1] at this
   · exact AV.rel_un _ _ _ _
 | .fn f cs, v, hv => by
   simp only [AV.rel] at hv
   simp only [backA,AV.rel]
   obtain ⟨vs,e,hV⟩:=hv
   exact ⟨vs,e,backR_relV hq hqR cs _ hV⟩
 | .ag cs, v, hv => by
   simp only [AV.rel] at hv
   simp only [backA,AV.rel]
   obtain ⟨vs,e,h1,hV⟩:=hv
   exact ⟨vs,e,h1,backR_relV hq hqR cs _ hV⟩
 | .tu cs, v, hv => by
   simp only [AV.rel] at hv
   simp only [backA,AV.rel]
   obtain ⟨vs,e,hV⟩:=hv
   exact ⟨vs,e,backR_relV hq hqR cs _ hV⟩
 | .mi _ _,_,_=>by simp only [backA]; exact AV.rel_un _ _ _ _
 | .pu k n u, v, hv => by
   simp only [AV.rel] at hv
   simp only [backA]
   split
   · rename_i ck e
     simp only [AV.rel]
     refine ⟨hv.1,Nat.le_refl _,fun _=>?_⟩
     have:=hv.2.2 (Nat.le_zero.1 hv.2.1)
     rwa [← (hq _ _ e).1] at this
   · exact AV.rel_un _ _ _ _
theorem backR_relV {ρ : List (Nat × Nat)} (hq : ∀ pk ck,pinOf ρ pk = some ck → p'.β ck = q.β pk ∧ p'.γ ck = q.γ pk) (hqR : p'.R = q.R) {ver : Nat → Nat} : ∀ (xs : List AV) (vs : List Value),AV.relV w q (fun _=>0) xs vs → AV.relV w p' ver (backL ρ ver xs) vs
 | [],_,hV=>by simp only [AV.relV] at hV; simp only [backL,AV.relV]; exact hV
 | x :: xs, _, hV => by
   simp only [AV.relV] at hV
   obtain ⟨u,us,e,h1,h2⟩:=hV
   simp only [backL,AV.relV];exact ⟨u,us,e,backR_rel hq hqR x u h1,backR_relV hq hqR xs us h2⟩
end
theorem backRC_rel {ρ : List (Nat × Nat)} (hq : ∀ pk ck,pinOf ρ pk = some ck → p'.β ck = q.β pk ∧ p'.γ ck = q.γ pk) (hqR : p'.R = q.R) {ver : Nat → Nat} {pk ck : Nat} (hpk : pinOf ρ pk = some ck) {c : RowC} (hok : okN c = true) (hr : rowRel w q (fun _=>0) pk c) : rowRel w p' ver ck (backC ρ ver c):=by
 obtain ⟨hβ,hγ⟩:=hq _ _ hpk
 cases c with
 | box cs =>
   simp only [rowRel] at hr
   simp only [backC,rowRel]
   obtain ⟨b,cells,t,h1,h2,h3,h4⟩:=hr
   exact ⟨b,cells,t,hβ.trans h1,h2,backR_relV hq hqR cs _ h3,h4⟩
 | arr t sz es =>
   simp only [rowRel] at hr
   simp only [backC,rowRel]
   rw [← hβ,← hγ,← hqR] at hr
   exact hr
 | mp m =>
   simp only [rowRel] at hr
   simp only [backC,rowRel]
   rw [← hβ,← hqR] at hr
   exact hr
 | mem Φ =>
   simp only [rowRel] at hr
   simp only [backC,rowRel]
   rw [← hβ,← hqR] at hr
   exact hr
 | ara t sz cs =>
   simp only [rowRel] at hr
   simp only [backC,rowRel]
   rw [← hβ,← hγ] at hr
   obtain ⟨b,cells,h1,h2,h3,l,rest,h4,h5,h6⟩:=hr
   exact ⟨b,cells,h1,h2,h3,l,rest,h4,backR_relV hq hqR cs _ h5,h6⟩
 | _=>simp [okN,okC] at hok
mutual
theorem nrm_rel {V : Nat → Nat} : ∀ (x : AV) (v : Value),x.rel w p V v → (nrmA V x).rel w p (fun _=>0) v
 | .r x,v,hv=>by simp only [AV.rel] at hv; simp only [nrmA,AV.rel]; exact hv
 | .pt k n off, v, hv => by
   simp only [AV.rel] at hv
   simp only [nrmA]
   split
   · rename_i e
     simp only [AV.rel];exact ⟨Nat.le_refl _,fun _=>hv.2 e⟩
   · exact AV.rel_un _ _ _ _
 | .pe ..,v,hv=>by simp only [nrmA]; exact AV.rel_un _ _ _ _
 | .os k n sz off m, v, hv => by
   simp only [AV.rel] at hv
   simp only [nrmA]
   split
   · rename_i e
     simp only [AV.rel];exact ⟨Nat.le_refl _,fun _=>hv.2 e⟩
   · exact AV.rel_un _ _ _ _
 | .mp k n, v, hv => by
   simp only [AV.rel] at hv
   simp only [nrmA]
   split
   · rename_i e
     simp only [AV.rel];exact ⟨Nat.le_refl _,fun _=>hv.2 e⟩
   · exact AV.rel_un _ _ _ _
 | .fn ..,v,hv=>by simp only [nrmA]; exact AV.rel_un _ _ _ _
 | .ag cs, v, hv => by
   simp only [AV.rel] at hv
   simp only [nrmA,AV.rel]
   obtain ⟨vs,e,h1,hV⟩:=hv
   exact ⟨vs,e,h1,nrm_relV cs _ hV⟩
 | .tu ..,v,hv=>by simp only [nrmA]; exact AV.rel_un _ _ _ _
 | .mi ..,v,hv=>by simp only [nrmA]; exact AV.rel_un _ _ _ _
 | .pu ..,v,hv=>by simp only [nrmA]; exact AV.rel_un _ _ _ _
theorem nrm_relV {V : Nat → Nat} : ∀ (xs : List AV) (vs : List Value),AV.relV w p V xs vs → AV.relV w p (fun _=>0) (nrmL V xs) vs
 | [],_,hV=>by simp only [AV.relV] at hV; simp only [nrmL,AV.relV]; exact hV
 | x :: xs, _, hV => by
   simp only [AV.relV] at hV
   obtain ⟨u,us,e,h1,h2⟩:=hV
   simp only [nrmL,AV.relV];exact ⟨u,us,e,nrm_rel x u h1,nrm_relV xs us h2⟩
end
def okR : RowC → Bool
 | .box _=>true
 | .arr ..=>true
 | .mp _=>true
 | _=>false
theorem nrmC_rel {V : Nat → Nat} {k : Nat} {c : RowC} (hok : okR c = true) (hr : rowRel w p V k c) : rowRel w p (fun _=>0) k (nrmC V c):=by
 cases c with
 | box cs =>
   simp only [rowRel] at hr
   simp only [nrmC,rowRel]
   obtain ⟨b,cells,t,h1,h2,h3,h4⟩:=hr
   exact ⟨b,cells,t,h1,h2,nrm_relV cs _ h3,h4⟩
 | arr t sz es=>simp only [rowRel] at hr; simp only [nrmC,rowRel]; exact hr
 | mp m=>simp only [rowRel] at hr; simp only [nrmC,rowRel]; exact hr
 | _=>simp [okR] at hok
def rfin (V : Nat → Nat) (rows : Nat → Row) : List (Nat × RowC) → List (Nat × RowC) → Prop
 | [],[]=>True
 | (k,_) :: L,(k',c') :: L'=>k = k' ∧ okR (rows k).c = true ∧ nrmC V (rows k).c = c' ∧ rfin V rows L L'
 | _,_=>False
theorem rfin_get {V : Nat → Nat} {rows : Nat → Row} : ∀ {L L' : List (Nat × RowC)},rfin V rows L L' → ∀ k,keyIn L k = true → okR (rows k).c = true ∧ lookc L' k = nrmC V (rows k).c
 | [],[],_,k,h=>by simp [keyIn] at h
 | [],_ :: _,h,_,_=>by simp [rfin] at h
 | _ :: _,[],h,_,_=>by simp [rfin] at h
 | (k, c) :: L, (k', c') :: L', h, j, hj => by
   simp only [rfin] at h
   obtain ⟨rfl,h1,h2,h3⟩:=h
   simp only [keyIn] at hj
   simp only [lookc_cons]
   by_cases e : j = k
   · subst e; simp only [if_true]; exact ⟨h1,h2.symm⟩
   · simp only [e,if_false] at hj ⊢; exact rfin_get h3 j hj
def resR (P : Program) (s : AS) : List ResultVar → List AV → Prop
 | [],rs=>rs = []
 | v :: vs,rs=>(resA P s v).pre ∧ ∃ rs',rs = nrmA s.ver (resA P s v).y.av :: rs' ∧ resR P s vs rs'
theorem run_resRL (h : SR C p s a w) : ∀ (vs : List ResultVar) (rs : List AV),resR P s vs rs → ∃ us,(vs.mapM (resOp a.tmps)).run P w = .ok us w ∧ AV.relV w p (fun _=>0) rs us
 | [],rs,hm=>by simp only [resR] at hm; subst hm; exact ⟨[],rfl,by simp [AV.relV]⟩
 | v :: vs, rs, hm => by
   obtain ⟨hp,rs',rfl,hrest⟩:=hm
   obtain ⟨u,hu,hrel⟩:=run_result h v hp
   obtain ⟨us,hus,hV⟩:=run_resRL h vs rs' hrest
   refine ⟨u :: us,?_,by simp only [AV.relV]; exact ⟨u,us,rfl,nrm_rel _ _ hrel,hV⟩⟩
   simp only [List.mapM_cons,Sem.run_bind,hu,Result.andThen_ok,hus,Sem.run_pure]
theorem run_resR (h : SR C p s a w) {fn : Func} {rs : List AV} (hm : resR P s fn.results.toList rs) : ∃ v,(results fn a.tmps).run P w = .ok v w ∧ (resMV rs).rel w p (fun _=>0) v:=by
 obtain ⟨us,hus,hV⟩:=run_resRL h _ _ hm
 have hm : (fn.results.mapM (resOp a.tmps)).run P w = .ok us.toArray w:=by
  rw [Array.mapM_eq_mapM_toList]
  simp only [Sem.run_map,hus,Result.andThen_ok]
 have hl:=AV.relV_length hV
 refine ⟨if h : us.toArray.size = 1 then us.toArray[0] else .tuple us.toArray,?_,?_⟩
 · rw [results_eq,Sem.run_bind,hm]
   simp only [Result.andThen_ok,Sem.run_pure]
 · match rs,us,hl,hV with
   | [r], [u], _, hV =>
     simp only [AV.relV] at hV
     obtain ⟨u',us',e,h1,_⟩:=hV
     injection e with e1 e2
     subst e1
     simpa [resMV] using h1
   | [], us, hl, hV =>
     have : us = []:=List.eq_nil_of_length_eq_zero (by simpa using hl)
     subst this
     simp only [resMV,AV.rel];exact ⟨#[],rfl,hV⟩
   | r1 :: r2 :: rs, us, hl, hV =>
     have : ¬ us.toArray.size = 1:=by simp at hl ⊢; omega
     rw [dif_neg this]
     simp only [resMV,AV.rel];exact ⟨us.toArray,rfl,hV⟩
def rpostL (P : Program) (res : List ResultVar) (rs : List AV) (L L' : List (Nat × RowC)) : Exit → AS → Prop
 | .normal,s=>resR P s res rs ∧ rfin s.ver s.rows L L'
 | .ret,s=>resR P s res rs ∧ rfin s.ver s.rows L L'
 | _,_=>False
theorem rpostL_normal {res : List ResultVar} {rs : List AV} {L L' : List (Nat × RowC)} {n : Nat} {l : List (Nat × AV)} {vs : Nat → Nat} {cs : List (Nat × RowC)} : rpostL P res rs L L' .normal (st n l vs cs) = (resR P (st n l vs cs) res rs ∧ rfin vs (fun k=>⟨vs k,lookc cs k⟩) L L'):=rfl
theorem rpostL_ret {res : List ResultVar} {rs : List AV} {L L' : List (Nat × RowC)} {n : Nat} {l : List (Nat × AV)} {vs : Nat → Nat} {cs : List (Nat × RowC)} : rpostL P res rs L L' .ret (st n l vs cs) = (resR P (st n l vs cs) res rs ∧ rfin vs (fun k=>⟨vs k,lookc cs k⟩) L L'):=rfl
theorem resR_nil {P : Program} {s : AS} {rs : List AV} : resR P s [] rs = (rs = []):=rfl
theorem resR_cons {P : Program} {v : ResultVar} {vs : List ResultVar} {n : Nat} {l : List (Nat × AV)} {ws : Nat → Nat} {cs : List (Nat × RowC)} {rs : List AV} : resR P (st n l ws cs) (v :: vs) rs = ((resA P (st n l ws cs) v).pre ∧ ∃ rs',rs = nrmA ws (resA P (st n l ws cs) v).y.av :: rs' ∧ resR P (st n l ws cs) vs rs'):=rfl
def lendOkR (ρ : List (Nat × Nat)) (s : AS) : List (Nat × Nat) → List (Nat × RowC) → Prop
 | [],[]=>True
 | (pk,ck) :: l,(k,c) :: L=>k = pk ∧ (lendC ρ s.ver (s.rows ck).c = some c ∨ ((s.rows ck).c = .dead ∧ c = .dead)) ∧ lendOkR ρ s l L
 | _,_=>False
theorem lendOkR_get {ρ : List (Nat × Nat)} : ∀ {l : List (Nat × Nat)} {L : List (Nat × RowC)},lendOkR ρ s l L → (∀ pk ck,pinOf l pk = some ck → lendC ρ s.ver (s.rows ck).c = some (lookc L pk) ∨ ((s.rows ck).c = .dead ∧ lookc L pk = .dead)) ∧ ∀ pk,pinOf l pk = none → lookc L pk = .dead
 | [],[],_=>⟨fun _ _ h=>by simp [pinOf] at h,fun _ _=>rfl⟩
 | [],_ :: _,h=>by simp [lendOkR] at h
 | _ :: _,[],h=>by simp [lendOkR] at h
 | (a, b) :: l, (k, c) :: L, h => by
   simp only [lendOkR] at h
   obtain ⟨rfl,h1,h2⟩:=h
   obtain ⟨g1,g2⟩:=lendOkR_get h2
   refine ⟨fun pk ck hp=>?_,fun pk hp=>?_⟩
   · simp only [pinOf] at hp
     simp only [lookc_cons]
     split at hp
     · rename_i e
       injection hp with hp; subst hp
       simpa [e] using h1
     · rename_i e
       simp only [e,if_false];exact g1 pk ck hp
   · simp only [pinOf] at hp
     simp only [lookc_cons]
     split at hp
     · cases hp
     · rename_i e
       simp only [e,if_false];exact g2 pk hp
attribute [go_sem] rpostL_normal rpostL_ret resR_nil resR_cons resMV lendOkR rfin okR nrmC nrmL nrmA
def deadC : RowC → Bool
 | .dead=>true
 | _=>false
def lowL : List (Nat × RowC) → Bool
 | []=>true
 | (k,c) :: L=>!(k == 999) && (okR c || deadC c) && !keyIn L k && lowL L
theorem lowL_get {L : List (Nat × RowC)} (h : lowL L = true) {k : Nat} (hk : keyIn L k = true) : (!(k == 999)) = true ∧ (okR (lookc L k) || deadC (lookc L k)) = true:=by
 induction L with
 | nil=>simp [keyIn] at hk
 | cons x L ih =>
   obtain ⟨j,c⟩:=x
   simp only [lowL,Bool.and_eq_true] at h
   simp only [keyIn] at hk
   simp only [lookc_cons]
   split at hk
   · rename_i e; subst e; simp only [if_true]; exact ⟨h.1.1.1,h.1.1.2⟩
   · rename_i e; simp only [e,if_false]; exact ih h.2 hk
theorem rcalls_st {f : FuncId} {fn : Func} {c : Code} {n : Nat} {args rs : List AV} {r : AV} (L L' : List (Nat × RowC)) (res : List ResultVar) (hf : P.funcs[f]? = some fn) (hb : fn.body = some c) (hc : callable P f = true) (hn : fn.ntmps = n) (hres : fn.results.toList = res)
 (hargs : args.length ≤ n) (hr : resMV rs = r) (hL : lowL L = true) (h : ∀ C : Ctx,C.rd = none ∧ C.X = XS.none → awp P C c (rpostL P res rs L L') (st n (argA 0 args) (fun _=>0) L)) : RCalls P f L L' args r:=by
 refine ⟨hc,fun w p vs hpl hR hβ hij hγ hrows hV=>?_⟩
 have hlen:=AV.relV_length hV
 simp only [Array.length_toList] at hlen
 let C : Ctx:={ w0:=w,R0:=p.R,bor:=fun b=>∃ k,1000 ≤ k ∧ p.β k = some b,pin:=fun k=>if keyIn L k = true ∧ 1000 ≤ k then some (p.β k,p.γ k) else none,own:=fun b=>∃ k,k < 1000 ∧ p.β k = some b }
 have hs : SR C p (st n (argA 0 args) (fun _=>0) L) { tmps:=vs ++ Array.replicate (fn.ntmps - vs.size) undef,defers:=[] } w:={
  base:=⟨rfl,rfl,rfl,Nat.le_refl _,fun _ _ _ _=>rfl⟩
  r0:=fun _ h=>h
  rn:=fun _ h=>.inl h
  rb:=hR
  tm:=fun t=>by
   show (look (argA 0 args) t).rel _ _ _ _
   rw [argA_look,if_pos (Nat.zero_le _),Nat.sub_zero]
   cases e : args[t]? with
   | none=>exact AV.rel_un _ _ _ _
   | some x =>
     obtain ⟨u,hu,hx⟩:=AV.relV_get hV e
     have : (vs ++ Array.replicate (fn.ntmps - vs.size) undef).getD t undef = u:=by
      have ht : t < vs.size:=by have:=(List.getElem?_eq_some_iff.1 hu).1; simpa using this
      rw [Array.getD_eq_getD_getElem?,Array.getElem?_append_left ht]
      simp only [Array.getElem?_toList] at hu
      rw [hu]; rfl
     rw [this]
     exact hx
  sz:=by simp only [Array.size_append,Array.size_replicate,st]; omega
  ex:=ext_start (fun b h=>h.elim (fun ⟨k,_,hk⟩=>(hβ k b hk).1) (fun ⟨k,_,hk⟩=>(hβ k b hk).1)) hpl.1 rfl hpl.2.1 hpl.2.2
  rw:=hrows
  bl:=fun k b h=>⟨(hβ k b h).1,(hβ k b h).2,.inr (by
   by_cases hk : k < 1000
   · exact .inr ⟨k,hk,h⟩
   · exact .inl ⟨by omega,k,by omega,h⟩)⟩
  ij:=hij
  cap:=hγ
  pn:=fun k x hx=>by
   have hx' : (if keyIn L k = true ∧ 1000 ≤ k then some (p.β k,p.γ k) else none) = some x:=hx
   split at hx'
   · rename_i hk
     injection hx' with hx'
     subst hx'
     exact ⟨rfl,rfl,rfl,hk.2⟩
   · cases hx'
  lk:=fun j km n l cur hj _=>by
   have hj' : lookc L j = .mi km n l cur:=hj
   cases hk : keyIn L j with
   | true=>have:=(lowL_get hL hk).2; rw [hj'] at this; simp [okR,deadC] at this
   | false=>rw [lookc_not hk] at hj'; cases hj' }
 refine callsIn_wide.1 (callsIn_of_wp_marks (n:=0) hf hb trivial (wpIn_mono (h C ⟨rfl,rfl⟩ _ w ⟨p,hs⟩) ?_))
 rintro e a' w' ⟨s',⟨p',hs'⟩,hq⟩
 have fin : ∀ (a' : Act) (w' : World) (_ : SR C p' s' a' w'),resR P s' fn.results.toList rs ∧ rfin s'.ver s'.rows L L' → ∃ v,(results fn a'.tmps).run P w' = .ok v w' ∧ ∃ v' q,Ending.returned v = .returned v' ∧ r.rel w' q (fun _=>0) v' ∧ (w'.os = w.os ∧ w'.tape = w.tape ∧ w'.output = w.output ∧ w.heap.size ≤ w'.heap.size) ∧
  (∀ k,k < w.heap.size → (∀ j,p.β j ≠ some k) → w'.heap[k]? = w.heap[k]?) ∧ (∀ b,p.R b → q.R b) ∧ (∀ b,q.R b → p.R b ∨ w.heap.size ≤ b ∨ ∃ j,p.β j = some b) ∧ (∀ b,q.R b → b < w'.heap.size) ∧
  (∀ k b,q.β k = some b → b < w'.heap.size ∧ ¬ q.R b ∧ (w.heap.size ≤ b ∨ ∃ j,p.β j = some b)) ∧ (∀ k k' b,q.β k = some b → q.β k' = some b → k = k') ∧ (∀ k,q.γ k ≤ maxLen) ∧
  (∀ k,keyIn L k = true → 1000 ≤ k → q.β k = p.β k ∧ q.γ k = p.γ k) ∧ ∀ k,keyIn L k = true → rowRel w' q (fun _=>0) k (lookc L' k):=fun a' w' hs' ⟨hrs,hm⟩=>by
  obtain ⟨v,hrun,hrel⟩:=run_resR hs' hrs
  rw [hr] at hrel
  refine ⟨v,hrun,v,p',rfl,hrel,⟨hs'.base.os,hs'.base.tape,hs'.base.output,hs'.base.size⟩,fun k hk hn=>hs'.base.block k hk (fun ⟨j,_,hj⟩=>hn j hj) (fun ⟨j,_,hj⟩=>hn j hj),fun b hb=>hs'.r0 b hb,fun b hb=>(hs'.rn b hb).imp id (fun h=>h.imp id fun ⟨j,_,hj⟩=>⟨j,hj⟩),hs'.rb,fun k b hb=>?_,hs'.ij,hs'.cap,fun k hk h10=>?_,fun k hk=>?_⟩
  · obtain ⟨g1,g2,g3⟩:=hs'.bl k b hb
    refine ⟨g1,g2,?_⟩
    rcases g3 with g | ⟨_,g⟩ | g
    · exact .inl g
    · obtain ⟨j,_,hj⟩:=g
      exact .inr ⟨j,hj⟩
    · obtain ⟨j,_,hj⟩:=g
      exact .inr ⟨j,hj⟩
  · obtain ⟨h1,h2,_⟩:=hs'.pn k (p.β k,p.γ k) (by show (if keyIn L k = true ∧ 1000 ≤ k then some (p.β k,p.γ k) else none) = _; rw [if_pos ⟨hk,h10⟩])
    exact ⟨h1,h2⟩
  · obtain ⟨g1,g2⟩:=rfin_get hm k hk
    rw [g2]
    exact nrmC_rel g1 (hs'.rw k)
 subst hres
 cases e with
 | normal=>exact hs'.leave fun a'' w'' _ hs''=>fin a'' w'' hs'' hq
 | ret=>exact hs'.leave fun a'' w'' _ hs''=>fin a'' w'' hs'' hq
 | _=>exact hq.elim
def regRows (ρ : List (Nat × Nat)) (nv : Nat → Nat) (L' : List (Nat × RowC)) (rows : Nat → Row) : Nat → Row:=fun j=>match lendKey ρ j with | some pk=>⟨nv j,backC ρ nv (lookc L' pk)⟩ | none=>rows j
def bumpV (ρ : List (Nat × Nat)) (ver : Nat → Nat) : Nat → Nat:=fun j=>match lendKey ρ j with | some pk=>if pk < 1000 then ver j + 1 else ver j | none=>ver j
def lowKeys : List (Nat × Nat) → Bool
 | []=>true
 | (_,ck) :: ρ=>decide (ck < 999) && lowKeys ρ
theorem lowKeys_get : ∀ {ρ : List (Nat × Nat)} {j pk : Nat},lowKeys ρ = true → lendKey ρ j = some pk → j < 999
 | [],_,_,_,h=>by simp [lendKey] at h
 | (a, b) :: ρ, j, pk, hl, h => by
   simp only [lowKeys,Bool.and_eq_true,decide_eq_true_eq] at hl
   simp only [lendKey] at h
   split at h
   · rename_i e; subst e; exact hl.1
   · exact lowKeys_get hl.2 h
theorem keyIn_of_lend : ∀ {l : List (Nat × Nat)} {L : List (Nat × RowC)} {ρ : List (Nat × Nat)},lendOkR ρ s l L → ∀ {pk ck : Nat},pinOf l pk = some ck → keyIn L pk = true
 | [],[],_,_,pk,ck,h=>by simp [pinOf] at h
 | [],_ :: _,_,h,_,_,_=>by simp [lendOkR] at h
 | _ :: _,[],_,h,_,_,_=>by simp [lendOkR] at h
 | (a, b) :: l, (k, c) :: L, ρ, h, pk, ck, hp => by
   simp only [lendOkR] at h
   obtain ⟨rfl,_,h2⟩:=h
   simp only [pinOf] at hp
   simp only [keyIn]
   split at hp
   · rename_i e; simp [e]
   · rename_i e; simp only [e,if_false]; exact keyIn_of_lend h2 hp
theorem gop_rcall {K : AS → Prop} {f : Operand} {args : Array Operand} {ts : Array TypeId} {F : FuncId} {cs az : List AV} {r : AV} {L L' : List (Nat × RowC)} (hR : RCalls P F L L' az r) (ρ : List (Nat × Nat)) (ho : o.op = .call ⟨.value f,args,ts⟩)
 (hF : callee? (s.ev f) = some (F,cs)) (hl : lendL ρ s.ver (args.toList.map s.ev ++ cs) = some az) (hlo : lendOkR ρ s ρ L) (hap : apart ρ = true) (hsk : sameKeys ρ L' = true) (hlow : lowKeys ρ = true)
 (hK : K (AS.put { s with rows:=regRows ρ (bumpV ρ s.ver) L' s.rows } o.dst (backA ρ (bumpV ρ s.ver) r))) : gop P o K s:=by
 intro C p a w h hd hnd KW Q hKW
 refine wpIn_of_wp hnd ?_
 have hokc:=sameKeys_ok hsk
 obtain ⟨hcal,hcalls⟩:=hR
 have hargs:=relV_ev h args.toList
 obtain ⟨vs,hfv,hcs⟩:=callee_eval h hF
 have hall:=AV.relV_append hargs hcs
 have hlist : (args.map a.eval ++ vs).toList = args.toList.map a.eval ++ vs.toList:=by simp
 rw [← hlist] at hall
 have hrun : (execOp a.eval o).run P w = .ok (.enter F (args.map a.eval ++ vs)) w:=by
  simp only [execOp,ho,Sem.run_bind,resolve,hfv,Deferred.ofValue,Sem.run_pure,Result.andThen_ok,invoke]
  simpa using run_callFunc hcal (args.map a.eval ++ vs) w
 unfold Oper.wp
 rw [hrun,Oper.upon_enter]
 obtain ⟨hg1,hg2⟩:=lendOkR_get hlo
 have hβl : ∀ k b,(lendPlan ρ p).β k = some b → ∃ ck,pinOf ρ k = some ck ∧ p.β ck = some b:=fun k b hb=>by
  simp only [lendPlan] at hb
  split at hb
  · rename_i ck e; exact ⟨ck,e,hb⟩
  · cases hb
 refine (hcalls w (lendPlan ρ p) _ ⟨rfl,rfl,rfl⟩ h.rb (fun k b hb=>?_) (fun k k' b hb hb'=>?_) (fun k=>?_) (fun k=>?_) (lend_relV hap _ _ _ hl hall)).mono ?_
 · obtain ⟨ck,_,hb⟩:=hβl k b hb
   exact ⟨(h.bl ck b hb).1,(h.bl ck b hb).2.1⟩
 · obtain ⟨ck,e1,hb⟩:=hβl k b hb
   obtain ⟨ck',e2,hb'⟩:=hβl k' b hb'
   have:=h.ij ck ck' b hb hb'
   subst this
   exact pinOf_inj hap e1 e2
 · simp only [lendPlan]
   split
   · exact h.cap _
   · simp [maxLen]
 · cases hp : pinOf ρ k with
   | none =>
     rw [hg2 k hp]
     simp only [rowRel,lendPlan,hp];exact ⟨trivial,trivial⟩
   | some ck =>
     rcases hg1 k ck hp with hg | ⟨hg,hg'⟩
     · exact lendC_rel hap hp hg (h.rw ck)
     · have hr:=h.rw ck
       rw [hg] at hr
       rw [hg']
       simp only [rowRel] at hr ⊢
       obtain ⟨k1,k2⟩:=lendPlan_pin (p:=p) hp
       exact ⟨k1.trans hr.1,k2.trans hr.2⟩
 rintro e w' ⟨v,q,rfl,hrel,⟨g1,g2,g3,g4⟩,hblk,hR1,hR2,hR3,hqb,hqi,hqc,hqk,hrows⟩
 have hlent : ∀ {ck pk : Nat},lendKey ρ ck = some pk → pinOf ρ pk = some ck:=fun e=>pin_lend hap e
 have hstay : ∀ b,b < w.heap.size → (∀ ck,(lendKey ρ ck).isSome = true → p.β ck ≠ some b) → w'.heap[b]? = w.heap[b]?:=fun b hb hn=>hblk b hb (fun j hj=>by
  obtain ⟨ck,e1,hb'⟩:=hβl j b hj
  exact hn ck (by rw [lendKey_of_pin hap e1]; rfl) hb')
 have hstayR : ∀ b,p.R b → w'.heap[b]? = w.heap[b]?:=fun b hb=>hstay b (h.rb b hb) (fun ck _ hc=>(h.bl ck b hc).2.1 hb)
 have hlb : ∀ b,(∃ j,(lendPlan ρ p).β j = some b) → ∃ ck,(lendKey ρ ck).isSome = true ∧ p.β ck = some b:=fun b ⟨j,hj⟩=>by
  obtain ⟨ck,e1,hb'⟩:=hβl j b hj
  exact ⟨ck,by rw [lendKey_of_pin hap e1]; rfl,hb'⟩
 have hlo9 : ∀ ck,(lendKey ρ ck).isSome = true → ck < 999:=fun ck hck=>by
  obtain ⟨pk,hpk⟩:=Option.isSome_iff_exists.1 hck
  exact lowKeys_get hlow hpk
 let nv:=bumpV ρ s.ver
 let p2 : Plan:={ p with R:=q.R,β:=fun j=>match lendKey ρ j with | some pk=>q.β pk | none=>p.β j,γ:=fun j=>match lendKey ρ j with | some pk=>q.γ pk | none=>p.γ j }
 have hp2s : ∀ {j pk : Nat},lendKey ρ j = some pk → p2.β j = q.β pk ∧ p2.γ j = q.γ pk:=fun {j pk} e=>by simp only [p2,e]; exact ⟨trivial,trivial⟩
 have hp2n : ∀ {j : Nat},lendKey ρ j = none → p2.β j = p.β j ∧ p2.γ j = p.γ j:=fun {j} e=>by simp only [p2,e]; exact ⟨trivial,trivial⟩
 have hq : ∀ pk ck,pinOf ρ pk = some ck → p2.β ck = q.β pk ∧ p2.γ ck = q.γ pk:=fun pk ck e=>hp2s (lendKey_of_pin hap e)
 have hnvs : ∀ {j pk : Nat},lendKey ρ j = some pk → nv j = if pk < 1000 then s.ver j + 1 else s.ver j:=fun {j pk} e=>by simp [nv,bumpV,e]
 have hkeep : ∀ {j pk : Nat},lendKey ρ j = some pk → 1000 ≤ pk → p2.β j = p.β j ∧ p2.γ j = p.γ j:=fun {j pk} e h10=>by
  obtain ⟨k1,k2⟩:=hqk pk (keyIn_of_lend hlo (hlent e)) h10
  obtain ⟨k3,k4⟩:=lendPlan_pin (p:=p) (hlent e)
  exact ⟨(hp2s e).1.trans (k1.trans k3),(hp2s e).2.trans (k2.trans k4)⟩
 have hnvn : ∀ {j : Nat},lendKey ρ j = none → nv j = s.ver j:=fun {j} e=>by simp [nv,bumpV,e]
 have hver : ∀ j,(regRows ρ nv L' s.rows j).ver = nv j:=fun j=>by
  unfold regRows
  cases hk : lendKey ρ j with
  | none=>exact (hnvn hk).symm
  | some pk=>rfl
 have hle : ∀ j,s.ver j ≤ nv j:=fun j=>by
  cases hk : lendKey ρ j with
  | none=>rw [hnvn hk]; exact Nat.le_refl _
  | some pk=>rw [hnvs hk]; split <;> omega
 have hverf : AS.ver { s with rows:=regRows ρ nv L' s.rows } = nv:=funext hver
 have hk : Kept w w' p p2 s.ver nv :=
  ⟨hR1,fun ad hr=>World.cell?_of_block (hstayR _ hr),hle,fun j hj=>by
   cases hk : lendKey ρ j with
   | none=>exact hp2n hk
   | some pk =>
     rw [hnvs hk] at hj
     split at hj
     · omega
     · exact hkeep hk (by omega)⟩
 have hnmp : ∀ j pk,lendKey ρ j = some pk → (s.rows j).c.isMpi = false ∧ (s.rows j).c.isMi = false:=fun j pk hj=>by
  rcases hg1 pk j (hlent hj) with hc | ⟨hc,_⟩
  · unfold lendC at hc
    split at hc
    · rename_i e; rw [e]; exact ⟨rfl,rfl⟩
    · rename_i e; rw [e]; exact ⟨rfl,rfl⟩
    · rename_i e; rw [e]; exact ⟨rfl,rfl⟩
    · rename_i e; rw [e]; exact ⟨rfl,rfl⟩
    · rename_i e; rw [e]; exact ⟨rfl,rfl⟩
    · cases hc
  · rw [hc]; exact ⟨rfl,rfl⟩
 have hold : ∀ b,(∃ j,(lendPlan ρ p).β j = some b) → b < w.heap.size ∧ ¬ p.R b ∧ (C.w0.heap.size ≤ b ∨ C.own b):=fun b hb=>by
  obtain ⟨ck,h1,h2⟩:=hlb b hb
  obtain ⟨k1,k2,k3⟩:=h.bl ck b h2
  refine ⟨k1,k2,?_⟩
  rcases k3 with k | ⟨k,_⟩ | k
  · exact .inl k
  · have:=hlo9 ck h1; omega
  · exact .inr k
 have hβ2 : ∀ j b,p2.β j = some b → (∃ k',p.β k' = some b) ∨ w.heap.size ≤ b:=fun j b hb=>by
  cases hk : lendKey ρ j with
  | none=>rw [(hp2n hk).1] at hb; exact .inl ⟨j,hb⟩
  | some pk =>
    rw [(hp2s hk).1] at hb
    rcases (hqb pk b hb).2.2 with k | k
    · exact .inr k
    · obtain ⟨ck,_,h2⟩:=hlb b k; exact .inl ⟨ck,h2⟩
 have hR4 : ∀ b,q.R b → p.R b ∨ (∃ k,p.β k = some b) ∨ w.heap.size ≤ b:=fun b hb=>by
  rcases hR2 b hb with k | k | k
  · exact .inl k
  · exact .inr (.inr k)
  · obtain ⟨ck,_,h2⟩:=hlb b k; exact .inr (.inl ⟨ck,h2⟩)
 have hSR : SR C p2 { s with rows:=regRows ρ nv L' s.rows } a w':={
  base:=⟨g1.trans h.base.os,g2.trans h.base.tape,g3.trans h.base.output,Nat.le_trans h.base.size g4,fun b hb hn ho=>by
   refine (hstay b (Nat.lt_of_lt_of_le hb h.base.size) fun ck _ hc=>?_).trans (h.base.block b hb hn ho)
   rcases (h.bl ck b hc).2.2 with h1 | h1 | h1
   · omega
   · exact hn h1.2
   · exact ho h1⟩
  r0:=fun b hb=>hR1 b (h.r0 b hb)
  rn:=fun b hb=>by
   rcases hR2 b hb with k | k | k
   · exact h.rn b k
   · exact .inr (.inl (Nat.le_trans h.base.size k))
   · exact .inr (hold b k).2.2
  rb:=hR3
  tm:=fun t=>by rw [hverf]; exact AV.rel_mono hk _ _ (h.tm t)
  sz:=h.sz
  ex:=h.ex.mono rfl rfl rfl g4 hβ2 hR4 fun b hl hn=>hstay b hl fun ck _=>hn ck
  rw:=fun j=>by
   show rowRel _ _ _ j (regRows ρ nv L' s.rows j).c
   rw [hverf]
   cases hj : lendKey ρ j with
   | none =>
     have e : regRows ρ nv L' s.rows j = s.rows j:=by unfold regRows; rw [hj]
     rw [e]
     refine rowRel_mono hk (.inr <| h.ex.kept rfl rfl rfl g1 g2 g3 g4 fun b hl hn=>hstay b hl fun ck _=>hn ck) (hp2n hj).1 (hp2n hj).2 (fun b hb=>hstay b (h.bl j b hb).1 fun ck hc hb'=>?_) _ (fun km n l cur hcc hn b hb=>hstay b (h.bl km b hb).1 fun ck hc hb'=>?_) (h.rw j)
     · have:=h.ij j ck b hb hb'
       subst this
       rw [hj] at hc; cases hc
     · have e3:=h.ij km ck b hb hb'
       subst e3
       obtain ⟨pk,hpk⟩:=Option.isSome_iff_exists.1 hc
       have hr:=h.rw j
       rw [hcc] at hr
       simp only [rowRel] at hr
       obtain ⟨_,_,h5,_⟩:=hr
       rw [hnvs hpk] at hn
       split at hn
       · omega
       · have h1:=h.lk j km n l cur hcc hn
         rw [(hnmp km pk hpk).1] at h1; cases h1
   | some pk =>
     have e : regRows ρ nv L' s.rows j = ⟨nv j,backC ρ nv (lookc L' pk)⟩:=by unfold regRows; rw [hj]
     rw [e]
     exact backRC_rel hq rfl (hlent hj) (okN_of (hokc pk (by rw [hlent hj]; rfl))) (hrows pk (keyIn_of_lend hlo (hlent hj)))
  bl:=fun j b hb=>by
   cases hj : lendKey ρ j with
   | none =>
     rw [(hp2n hj).1] at hb
     refine ⟨Nat.lt_of_lt_of_le (h.bl j b hb).1 g4,fun hr=>?_,(h.bl j b hb).2.2⟩
     rcases hR2 b hr with k | k | k
     · exact (h.bl j b hb).2.1 k
     · have:=(h.bl j b hb).1; omega
     · obtain ⟨ck,h1,h2⟩:=hlb b k
       have:=h.ij j ck b hb h2
       subst this
       rw [hj] at h1; cases h1
   | some pk =>
     rw [(hp2s hj).1] at hb
     obtain ⟨k1,k2,k3⟩:=hqb pk b hb
     refine ⟨k1,k2,?_⟩
     rcases k3 with k | k
     · exact .inl (Nat.le_trans h.base.size k)
     · exact (hold b k).2.2.imp id .inr
  ij:=fun j j' b hb hb'=>by
   have mix : ∀ i i',lendKey ρ i = none → ∀ pk,lendKey ρ i' = some pk → p.β i = some b → q.β pk = some b → False:=fun i i' e pk e' k k'=>by
    rcases (hqb pk b k').2.2 with g | g
    · have:=(h.bl i b k).1; omega
    · obtain ⟨ck,h1,h2⟩:=hlb b g
      have:=h.ij i ck b k h2
      subst this
      rw [e] at h1; cases h1
   cases hj : lendKey ρ j with
   | none =>
     rw [(hp2n hj).1] at hb
     cases hj' : lendKey ρ j' with
     | none=>rw [(hp2n hj').1] at hb'; exact h.ij j j' b hb hb'
     | some pk=>rw [(hp2s hj').1] at hb'; exact (mix j j' hj pk hj' hb hb').elim
   | some pk =>
     rw [(hp2s hj).1] at hb
     cases hj' : lendKey ρ j' with
     | none=>rw [(hp2n hj').1] at hb'; exact (mix j' j hj' pk hj hb' hb).elim
     | some pk' =>
       rw [(hp2s hj').1] at hb'
       have:=hqi pk pk' b hb hb'
       subst this
       have h1:=hlent hj
       rw [hlent hj'] at h1
       injection h1 with h1
       exact h1.symm
  cap:=fun j=>by
   cases hj : lendKey ρ j with
   | none=>rw [(hp2n hj).2]; exact h.cap j
   | some pk=>rw [(hp2s hj).2]; exact hqc pk
  pn:=fun j x hx=>by
   obtain ⟨h1,h2,h3,h4⟩:=h.pn j x hx
   have hj : lendKey ρ j = none:=by
    cases hj : lendKey ρ j with
    | none=>rfl
    | some pk=>have:=lowKeys_get hlow hj; omega
   exact ⟨(hp2n hj).1.trans h1,(hp2n hj).2.trans h2,(hver j).trans ((hnvn hj).trans h3),h4⟩
  lk:=fun j km n l cur hj hn=>by
   show (regRows ρ nv L' s.rows km).c.isMpi = true
   have hj' : (regRows ρ nv L' s.rows j).c = .mi km n l cur:=hj
   have hn' : n = nv km:=hn.trans (hver km)
   cases hjk : lendKey ρ j with
   | none =>
     have e : regRows ρ nv L' s.rows j = s.rows j:=by unfold regRows; rw [hjk]
     rw [e] at hj'
     have hr:=h.rw j
     rw [hj'] at hr
     simp only [rowRel] at hr
     obtain ⟨_,_,h5,_⟩:=hr
     cases hkk : lendKey ρ km with
     | none =>
       have e2 : regRows ρ nv L' s.rows km = s.rows km:=by unfold regRows; rw [hkk]
       rw [e2]
       exact h.lk j km n l cur hj' (hn'.trans (hnvn hkk))
     | some pk =>
       rw [hnvs hkk] at hn'
       split at hn'
       · omega
       · have h1:=h.lk j km n l cur hj' hn'
         rw [(hnmp km pk hkk).1] at h1; cases h1
   | some pk =>
     have e : regRows ρ nv L' s.rows j = ⟨nv j,backC ρ nv (lookc L' pk)⟩:=by unfold regRows; rw [hjk]
     rw [e] at hj'
     have : ∀ c : RowC,backC ρ nv c ≠ .mi km n l cur:=fun c=>by cases c <;> simp [backC]
     exact (this _ hj').elim }
 have hput:=hSR.put' (d:=o.dst) (av:=backA ρ nv r) (v:=v) (by rw [hverf]; exact backR_rel hq rfl r v hrel) hd
 exact hKW _ _ _ _ hput (app_n' _ _ _) hK
theorem gop_eqnil {K : AS → Prop} {x : Operand} {t t' : TypeId} (ho : o.op = .binOp .eql t x (.const (.slice none 0 0)) t') {e esz eb : Nat} {ez : List RV} {ssz : Nat} {sagg : Bool} {sz0 : List RV}
 (e1 : tyq P t = some ⟨.slice e esz eb ez,ssz,sagg,sz0⟩) {sz : Nat} {es : List (List RV)} (hx : s.ev x = .r (.sl sz es)) (h0 : es ≠ []) (hK : K (s.put o.dst (.r (.bo false)))) : gop P o K s:=by
 intro C p a w h hd hnd KW Q hKW
 obtain ⟨hu,_⟩:=tyq_slice e1
 have hxv:=h.ev x
 rw [hx] at hxv
 simp only [AV.rel,RV.rel] at hxv
 obtain ⟨A,c,hxv,_,_,hA⟩:=hxv
 obtain ⟨ad,rfl,_⟩:=hA h0
 have hq : ∀ d : Nat,(Op.equalIn (d + 1) t (.slice (some ad) es.length c) (.slice none 0 0)).run P w = .ok false w:=fun d=>by
  simp only [Op.equalIn,Sem.run_bind,run_underlying hu,Result.andThen_ok,Sem.run_pure]
 have hr : (execOp a.eval o).run P w = .ok (.value (.bool false)) w:=by
  have hq' : (Op.equal t (.slice (some ad) es.length c) (.slice none 0 0)).run P w = .ok false w:=hq 9999
  have hc : a.eval (.const (.slice none 0 0)) = .slice none 0 0:=rfl
  have hg : (eqGuard .eql t x (.const (.slice none 0 0)) (.slice (some ad) es.length c) (.slice none 0 0)).run P w = .ok () w:=by
   unfold eqGuard
   split <;> simp
  simp [execOp,ho,hxv,hc,hg,Go.binOp,hq']
 refine wpIn_of_wp hnd ?_
 unfold Oper.wp
 rw [hr]
 have hput:=h.put' (d:=o.dst) (av:=.r (.bo false)) (v:=.bool false) (by simp only [AV.rel,RV.rel]) hd
 exact hKW _ _ p _ hput (by cases o.dst <;> rfl) hK
theorem gop_eqnilO {K : AS → Prop} {x : Operand} {t t' : TypeId} (ho : o.op = .binOp .eql t x (.const (.slice none 0 0)) t') {e esz eb : Nat} {ez : List RV} {ssz : Nat} {sagg : Bool} {sz0 : List RV}
 (e1 : tyq P t = some ⟨.slice e esz eb ez,ssz,sagg,sz0⟩) {k sz off m : Nat} (hx : s.ev x = .os k (s.ver k) sz off m) (h0 : 0 < m) (hK : K (s.put o.dst (.r (.bo false)))) : gop P o K s:=by
 intro C p a w h hd hnd KW Q hKW
 obtain ⟨hu,_⟩:=tyq_slice e1
 obtain ⟨ad,c,hxv⟩ : ∃ ad c,a.eval x = .slice (some ad) m c:=by
  rcases ev_os h hx rfl with ⟨_,_,_,rfl,A,hv⟩ | ⟨b,A,hβ,hv,hle2,hA⟩
  · omega
  · obtain rfl:=hA (.inl h0)
    exact ⟨_,_,hv⟩
 have hq : ∀ d : Nat,(Op.equalIn (d + 1) t (.slice (some ad) m c) (.slice none 0 0)).run P w = .ok false w:=fun d=>by
  simp only [Op.equalIn,Sem.run_bind,run_underlying hu,Result.andThen_ok,Sem.run_pure]
 have hr : (execOp a.eval o).run P w = .ok (.value (.bool false)) w:=by
  have hq' : (Op.equal t (.slice (some ad) m c) (.slice none 0 0)).run P w = .ok false w:=hq 9999
  have hc : a.eval (.const (.slice none 0 0)) = .slice none 0 0:=rfl
  have hg : (eqGuard .eql t x (.const (.slice none 0 0)) (.slice (some ad) m c) (.slice none 0 0)).run P w = .ok () w:=by
   unfold eqGuard
   split <;> simp
  simp [execOp,ho,hxv,hc,hg,Go.binOp,hq']
 refine wpIn_of_wp hnd ?_
 unfold Oper.wp
 rw [hr]
 have hput:=h.put' (d:=o.dst) (av:=.r (.bo false)) (v:=.bool false) (by simp only [AV.rel,RV.rel]) hd
 exact hKW _ _ p _ hput (by cases o.dst <;> rfl) hK
theorem gop_clear {K : AS → Prop} {x : Operand} {t : TypeId} (ho : o.op = .call ⟨.builtin .clear,#[x],#[t]⟩) {e esz eb : Nat} {ez : List RV} {ssz : Nat} {sagg : Bool} {sz0 : List RV}
 (e1 : tyq P t = some ⟨.slice e esz eb ez,ssz,sagg,sz0⟩) {k n off m : Nat} {es : List (List RV)} (e3 : s.ev x = .os k n esz off m) (e5 : s.rows k = ⟨n,.arr e esz es⟩) (h0 : 0 < m) (hfit : off + m ≤ es.length)
 (hK : K (AS.put { s with rows:=upd s.rows k ⟨n,.arr e esz (es.take off ++ (List.replicate m ez ++ es.drop (off + m)))⟩ } o.dst (.r .un))) : gop P o K s:=by
 intro C p a w h hd hnd KW Q hKW
 refine wpIn_of_wp hnd ?_
 have hn2 : n = (s.rows k).ver:=by rw [e5]
 obtain ⟨hu,hok,hco,hby,zv,hzv,hez⟩:=tyq_slice e1
 obtain ⟨i,z,hi,hzero,hcells,hz1,hzl⟩:=zeroOf_spec hzv
 rw [hco] at hzl
 have hezl : ez.length = esz:=by rw [hez,List.length_map,hzl]
 rcases ev_os h e3 hn2 with ⟨_,_,_,rfl,A,hv⟩ | ⟨b,A,hβ,hv,hle2,hA⟩
 · omega
 · obtain rfl:=hA (.inl h0)
   have hfl : ∀ m : Nat,((List.replicate m zv).flatten).length = m * esz:=fun m=>by
    induction m with
    | zero=>simp
    | succ m ih=>rw [List.replicate_succ,List.flatten_cons,List.length_append,ih,hzl,Nat.succ_mul]; omega
   have hone : ∀ u ∈ (List.replicate m zv).flatten,u.oneCell' = true:=fun u hu=>by
    obtain ⟨l,hl,hul⟩:=List.mem_flatten.1 hu
    rw [List.eq_of_mem_replicate hl] at hul
    exact hz1 u hul
   have hrelV : ∀ m : Nat,RV.relV w p.R (List.replicate m ez).flatten (List.replicate m zv).flatten:=fun m=>by
    induction m with
    | zero=>simp [RV.relV]
    | succ m ih=>rw [List.replicate_succ,List.replicate_succ,List.flatten_cons,List.flatten_cons]; exact RV.relV_append (by rw [hez]; exact RV.relV_ofV1 w p.R zv) ih
   obtain ⟨cells,hh,hf,hset⟩:=set_row (m:=off) (ns:=List.replicate m ez) (vs:=(List.replicate m zv).flatten) h (by rw [e5]) hβ (by rw [List.length_replicate]; omega) (by rw [List.length_replicate,hfl]) (fun x hx=>by rw [List.eq_of_mem_replicate hx,hezl]) (hrelV m) hone
   rw [List.length_replicate] at hset
   have hst:=run_storeCells_at P b (off * esz) e (List.replicate m zv).flatten 0 cells w hh (by simpa using hf) hone
   have hzlist : (Builtin.zeroCells z.cells m).toList = (List.replicate m zv).flatten:=by
    show (madeCells z.cells (m * z.cells.size)).toList = _
    rw [madeCells_list,hcells]
   have hrun : (Builtin.clear_ #[t] o.type #[.slice (some ⟨b,off * esz,none⟩) m (p.γ k - off)]).run P w = .ok (.tuple #[]) (w.setRow b (cells.toList.take (off * esz) ++ (List.replicate m zv).flatten ++ cells.toList.drop (off * esz + (List.replicate m zv).flatten.length)).toArray):=by
    clear hset hf hone
    generalize (List.replicate m zv).flatten = V at *
    obtain ⟨q,rfl⟩ : ∃ q,m = q + 1:=⟨m - 1,by omega⟩
    have hz0 : (zeroValue e).run P w = .ok z w:=by simp [zeroValue,typeInfo,hi,hzero]
    simp only [Nat.add_zero] at hst ⊢
    simp [Builtin.clear_,run_underlying hu,hz0,hzlist,hst]
   have hr2 : (execOp a.eval o).run P w = .ok (.value (.tuple #[])) (w.setRow b (cells.toList.take (off * esz) ++ (List.replicate m zv).flatten ++ cells.toList.drop (off * esz + (List.replicate m zv).flatten.length)).toArray) :=
    run_builtin_of ho (by simp only [builtin,Sem.run_bind,List.map_toArray,List.map_cons,List.map_nil,hv,hrun,Result.andThen_ok,Sem.run_pure])
   unfold Oper.wp
   rw [hr2]
   have hn3 : (s.rows k).ver = n:=hn2.symm
   rw [hn3] at hset
   have hput:=hset.put' (d:=o.dst) (av:=.r .un) (v:=.tuple #[]) (AV.rel_un _ _ _ _) hd
   exact hKW _ _ p _ hput (app_n' _ _ _) hK
end
section
variable {P : Program} {C : Ctx} {n : Nat} {l : List (Nat × AV)} {vs : Nat → Nat} {cs : List (Nat × RowC)}
def bumpL : List (Nat × Nat) → (Nat → Nat) → Nat → Nat
 | [],vs=>vs
 | (pk,ck) :: ρ,vs=>if pk < 1000 then upd (bumpL ρ vs) ck (vs ck + 1) else upd (bumpL ρ vs) ck (vs ck)
def regCs (nv : Nat → Nat) (ρ : List (Nat × Nat)) (L' : List (Nat × RowC)) : List (Nat × Nat) → List (Nat × RowC) → List (Nat × RowC)
 | [],cs=>cs
 | (pk,ck) :: q,cs=>insc (regCs nv ρ L' q cs) ck (backC ρ nv (lookc L' pk))
theorem bump_eq (vs : Nat → Nat) : ∀ ρ : List (Nat × Nat),bumpL ρ vs = bumpV ρ vs
 | []=>by funext j; rfl
 | (a, b) :: ρ => by
   funext j
   simp only [bumpL,bump_eq vs ρ,bumpV,lendKey]
   by_cases e : j = b
   · subst e
     by_cases h : a < 1000
     · simp [upd,h]
     · simp [upd,h]
   · by_cases h : a < 1000
     · simp only [h,if_true,upd,e,if_false]; rfl
     · simp only [h,if_false,upd,e]; rfl
theorem reg_st {ρ : List (Nat × Nat)} {L' : List (Nat × RowC)} : ({ st n l vs cs with rows:=regRows ρ (bumpV ρ (st n l vs cs).ver) L' (st n l vs cs).rows } : AS) = st n l (bumpL ρ vs) (regCs (bumpL ρ vs) ρ L' ρ cs):=by
 have hv : (st n l vs cs).ver = vs:=rfl
 rw [hv,← bump_eq]
 have : ∀ q : List (Nat × Nat),(fun j=>match lendKey q j with | some pk=>(⟨bumpL ρ vs j,backC ρ (bumpL ρ vs) (lookc L' pk)⟩ : Row) | none=>⟨bumpL ρ vs j,lookc cs j⟩) = fun j=>⟨bumpL ρ vs j,lookc (regCs (bumpL ρ vs) ρ L' q cs) j⟩:=by
  intro q
  induction q with
  | nil=>rfl
  | cons x q ih =>
    obtain ⟨pk,ck⟩:=x
    funext j
    have ihj:=congrFun ih j
    simp only [lendKey,regCs,lookc_insc]
    by_cases e : j = ck
    · subst e; simp
    · simp only [e,if_false]; exact ihj
 simp only [st,AS.mk.injEq,true_and]
 refine Eq.trans ?_ (this ρ)
 funext j
 unfold regRows
 cases hk : lendKey ρ j with
 | none =>
   have : bumpL ρ vs j = vs j:=by rw [bump_eq]; simp [bumpV,hk]
   simp only [this]
 | some pk=>rfl
theorem gop_rcallS {o : Oper} {K : AS → Prop} {f : Operand} {args : Array Operand} {ts : Array TypeId} {F : FuncId} {cs' az : List AV} {r : AV} {L L' : List (Nat × RowC)} (hR : RCalls P F L L' az r) (ρ : List (Nat × Nat)) (ho : o.op = .call ⟨.value f,args,ts⟩)
 (hF : callee? ((st n l vs cs).ev f) = some (F,cs')) (hl : lendL ρ vs (args.toList.map (st n l vs cs).ev ++ cs') = some az) (hlo : lendOkR ρ (st n l vs cs) ρ L) (hap : apart ρ = true) (hsk : sameKeys ρ L' = true) (hlow : lowKeys ρ = true)
 (hK : K (AS.put (st n l (bumpL ρ vs) (regCs (bumpL ρ vs) ρ L' ρ cs)) o.dst (backA ρ (bumpL ρ vs) r))) : gop P o K (st n l vs cs):=gop_rcall hR ρ ho hF hl hlo hap hsk hlow (by rw [reg_st,← show bumpL ρ vs = bumpV ρ (st n l vs cs).ver from bump_eq vs ρ]; exact hK)
theorem gop_clearS {o : Oper} {x : Operand} {t : TypeId} {K : AS → Prop} (ho : o.op = .call ⟨.builtin .clear,#[x],#[t]⟩) {e esz eb : Nat} {ez : List RV} {ssz : Nat} {sagg : Bool} {sz0 : List RV}
 (e1 : tyq P t = some ⟨.slice e esz eb ez,ssz,sagg,sz0⟩) {k v off m : Nat} {es : List (List RV)} (hv : v = vs k) (e3 : (st n l vs cs).ev x = .os k v esz off m) (e5 : lookc cs k = .arr e esz es) (h0 : 0 < m) (hfit : off + m ≤ es.length)
 (hK : K (AS.put (st n l vs (insc cs k (.arr e esz (es.take off ++ (List.replicate m ez ++ es.drop (off + m)))))) o.dst (.r .un))) : gop P o K (st n l vs cs):=by
 subst hv
 refine gop_clear ho e1 e3 (by show (⟨vs k,lookc cs k⟩ : Row) = _; rw [e5]) h0 hfit ?_
 have : ({ st n l vs cs with rows:=upd (st n l vs cs).rows k ⟨vs k,.arr e esz (es.take off ++ (List.replicate m ez ++ es.drop (off + m)))⟩ } : AS) = st n l vs (insc cs k (.arr e esz (es.take off ++ (List.replicate m ez ++ es.drop (off + m))))):=by
  have:=row_st (n:=n) (l:=l) (vs:=vs) (cs:=cs) (k:=k) (m:=vs k) (c:=.arr e esz (es.take off ++ (List.replicate m ez ++ es.drop (off + m))))
  rw [Go.Oc.upd_self] at this
  exact this
 rw [this]
 exact hK
attribute [go_sem] bumpL regCs
end
end Go.Oc

namespace Go.Proofs.Ytobokbhpeaakjaa
open Go Go.Oc
set_option linter.unusedSimpArgs false
set_option linter.unusedVariables false
set_option maxRecDepth 8000
set_option maxHeartbeats 4000000
def modV (a n : Int) : Int:=Int.tmod (Int.tmod a n + n) n
theorem modulo_ok (a n : Int) (ha : -100 ≤ a ∧ a ≤ 100) (hn : 1 ≤ n ∧ n ≤ 9) : ACalls Try.prog 100 [i64 a,i64 n] (i64 (modV a n)):=by
 have h1:=Int.tmod_lt_of_pos a (show 0 < n by omega)
 have h2 : -n < Int.tmod a n:=by
  have:=Int.tmod_lt_of_pos (-a) (show 0 < n by omega)
  rw [Int.neg_tmod] at this
  omega
 have h3:=Int.tmod_lt_of_pos (Int.tmod a n + n) (show 0 < n by omega)
 have h4:=Int.tmod_nonneg n (show 0 ≤ Int.tmod a n + n by omega)
 refine acalls_st (rs:=[i64 (modV a n)]) [.tmp 4] Try.func100 rfl (by kernel_rfl) Try.ntmps100 rfl (by simp) rfl fun C vs=>?_
 repeat refine zq ?_
 refine zb fun K hK=>?_;simp only [go_sem];(try simp (disch:=omega) only [zI]);repeat first | intro _ | refine ⟨by omega,?_⟩
 refine hK _ ?_;clear hK K;refine zw (zk [0,1]) ?_;simp only [go_sem]
 repeat refine zq ?_
 refine zb fun K hK=>?_;simp only [go_sem];(try simp (disch:=omega) only [zI])
 refine ⟨by omega,by omega,?_⟩
 refine hK _ ?_;refine ze ?_;simp only [go_sem]
 rfl
def newM (h a : Int) : Mt:=⟨h,a,false,0,0⟩
def pairV (a b : Int) (first : Bool) : Mt:=if first then newM a b else newM b a
theorem pair_ok (a b : Int) (first : Bool) (ms : List Mt) (hl : ms.length ≤ 100) :
 RCalls Try.prog 99 [(1000,.box [.os 16 0 5 0 ms.length]),(16,.arr 70 5 (ms.map mtR))] [(1000,.box [.os 16 0 5 0 (ms.length + 1)]),(16,.arr 70 5 ((ms ++ [pairV a b first]).map mtR))] [.r (i64 a),.r (i64 b),.r (.bo first),.pt 1000 0 0] (.tu []):=by
 refine rcalls_st (n:=17) (rs:=[]) _ _ [] Try.func99 rfl (by kernel_rfl) Try.ntmps99 rfl (by simp) rfl rfl fun C hC=>?_
 repeat refine zq ?_
 refine zb fun K hK=>?_;simp only [go_sem];(try simp (disch:=omega) only [zI]);repeat first | intro _ | refine ⟨by omega,?_⟩
 refine hK _ ?_;clear hK K;refine zw (zk [0,1,3,8]) ?_;simp only [go_sem]
 repeat refine zq ?_
 refine awp_joinV (n:=17) (fun (_ : Unit) vs=>[(0,.r (i64 (pairV a b first).h)),(1,.r (i64 (pairV a b first).a)),(3,.pt 1000 (vs 1000) 0)])
  (fun _ vs=>[(1000,.box [.os 16 (vs 16) 5 0 ms.length]),(16,.arr 70 5 (ms.map mtR))]) (fun _=>True) (fun _ h=>h) ?_ ?_
 · repeat refine zq ?_
   refine zc rfl (fun hc=>?_) (fun hc=>?_) <;> (try simp only [go_sem] at hc)
   · have hf : first = false:=by simpa using hc
     subst hf
     repeat refine zq ?_
     refine zb fun K hK=>?_;simp only [go_sem];(try simp (disch:=omega) only [zI]);repeat first | intro _ | refine ⟨by omega,?_⟩
     refine hK _ ?_;clear hK K
     refine ⟨(),trivial,zj [] ?_ ?_⟩
     · try simp only [go_sem]
       exact ⟨rfl,rfl⟩
     · try simp only [go_sem]
   · have hf : first = true:=by simpa using hc
     subst hf
     refine zx ?_
     try simp only [go_sem]
     refine ⟨(),zj [] ?_ ?_⟩
     · try simp only [go_sem]
       exact ⟨rfl,rfl⟩
     · try simp only [go_sem]
 intro _ vs _
 have hpf : (pairV a b first).p = false ∧ (pairV a b first).f = 0 ∧ (pairV a b first).g = 0:=by unfold pairV newM; split <;> exact ⟨rfl,rfl,rfl⟩
 have hmr : (ms ++ [pairV a b first]).map mtR = ms.map mtR ++ [[i64 (pairV a b first).h,i64 (pairV a b first).a,.bo false,i64 0,i64 0]]:=by
  rw [List.map_append,List.map_cons,List.map_nil]
  unfold mtR
  rw [hpf.1,hpf.2.1,hpf.2.2]
 repeat refine zq ?_
 refine zb fun K hK=>?_;simp only [go_sem,List.length_map];(try simp (disch:=omega) only [zI]);repeat first | intro _ | refine ⟨by omega,?_⟩
 refine hK _ ?_;clear hK K
 try simp only [go_sem]
 rw [hmr]
def nightF (n k i : Nat) : Mt:=pairV (modV ((k : Int) + i + 1) ((n : Int) - 1)) (modV ((k : Int) - i - 1) ((n : Int) - 1)) (i % 2 == 0)
def nightP (n k i : Nat) : List Mt:=pairV k ((n : Int) - 1) (k % 2 == 0) :: (List.range i).map (nightF n k)
def nightV (n k : Nat) : List Mt:=nightP n k (n / 2 - 1)
theorem nightP_len (n k i : Nat) : (nightP n k i).length = i + 1:=by simp [nightP]
theorem nightP_succ (n k i : Nat) : nightP n k (i + 1) = nightP n k i ++ [nightF n k i]:=by simp [nightP,List.range_succ]
theorem even_b (k : Nat) : (Int.tmod (k : Int) 2 == 0) = (k % 2 == 0):=by
 have h : Int.tmod (k : Int) 2 = ((k % 2 : Nat) : Int):=rfl
 rw [h]
 by_cases e : k % 2 = 0
 · rw [e]; rfl
 · have e1 : k % 2 = 1:=by omega
   rw [e1]; rfl
theorem night_ok (n k : Nat) (hn : 2 ≤ n ∧ n ≤ 10) (he : n % 2 = 0) (hk : k < n - 1) : OCalls Try.prog 75 [i64 (n : Int),i64 (k : Int)] 70 5 ((nightV n k).map mtR) (nightV n k).length:=by
 have hlen : (nightV n k).length = n / 2 - 1 + 1:=nightP_len n k _
 have hq : Int.tdiv (n : Int) 2 = ((n / 2 : Nat) : Int):=rfl
 have hq1 : ((n / 2 : Nat) : Int) - 1 = ((n / 2 - 1 : Nat) : Int):=by omega
 refine ocalls_st (n:=43) (.cell 4 36) Try.func75 rfl (by kernel_rfl) Try.ntmps75 rfl (by simp) (fun e he=>by obtain ⟨x,_,rfl⟩:=List.mem_map.1 he; rfl) fun C vs=>?_
 repeat refine zq ?_
 refine zb fun K hK=>?_;simp only [go_sem];(try simp (disch:=omega) only [zI]);repeat first | intro _ | refine ⟨by omega,?_⟩
 refine hK _ ?_;clear hK K;refine zw (sub_ownB 4 0 16 70 5 (by omega) (by omega) rfl rfl) ?_;refine zw (zk [0,1,4]) ?_;simp only [go_sem]
 repeat refine zq ?_
 refine zb fun K hK=>?_;simp only [go_sem];(try simp (disch:=omega) only [zI]);repeat first | intro _ | refine ⟨by omega,?_⟩
 refine hK _ ?_;clear hK K;refine zw (zk [0,1,4,5]) ?_;simp only [go_sem]
 repeat refine zq ?_
 refine awp_long ?_
 refine sops_take 7 (by kernel_rfl) fun K hK=>?_
 simp only [go_sem,List.take_succ_cons,List.take_zero,List.drop_succ_cons,List.drop_zero,List.append_eq,List.cons_append,List.nil_append];(try simp (disch:=omega) only [zI]);repeat first | intro _ | refine ⟨by omega,?_⟩
 refine hK _ rfl ?_
 clear hK K
 refine sops_sub (zk [0,1,4,5,8,9,11,14]) ?_
 simp only [go_sem];rw [even_b]
 have hp0:=pair_ok (k : Int) ((n : Int) - 1) (k % 2 == 0) [] (by simp)
 refine sops_gop rfl (by intro t h; injection h with h; subst h; show 15 < 43; decide) (by intro c h; cases h) (gop_rcallS hp0 [(1000,4),(16,16)] rfl rfl (by simp only [go_sem]) (by simp only [go_sem]) rfl rfl rfl ?_)
 try simp only [go_sem]
 refine sops_end (by kernel_rfl) fun K hK=>?_
 simp only [go_sem,List.drop_succ_cons,List.drop_zero,List.append_eq,List.cons_append,List.nil_append];(try simp (disch:=omega) only [zI]);repeat first | intro _ | refine ⟨by omega,?_⟩
 refine hK _ ?_;clear hK K;refine zw (zk [0,1,4,5]) ?_;simp only [go_sem]
 repeat refine zq ?_
 refine zb fun K hK=>?_;simp only [go_sem,hq];(try simp (disch:=omega) only [zI]);repeat first | intro _ | refine ⟨by omega,?_⟩
 refine hK _ ?_;clear hK K;rw [hq1]
 refine zw (zk [0,1,4,5,18,19]) ?_;simp only [go_sem]
 repeat refine zq ?_
 refine zd ?_
 refine awp_uptoV (n:=43) (n / 2 - 1) (fun i vs=>[(0,.r (i64 (n : Int))),(1,.r (i64 (k : Int))),(4,.pt 4 (vs 4) 0),(5,.fn 99 [.pt 4 (vs 4) 0]),(18,.r (i64 ((n / 2 - 1 : Nat) : Int))),(19,.r (i64 (i : Int)))])
  (fun i vs=>[(4,.box [.os 16 (vs 16) 5 0 (i + 1)]),(16,.arr 70 5 ((nightP n k i).map mtR))]) (fun _=>True) 0 (zj [] ?_ ?_) (Nat.zero_le _) trivial ?_
 · try simp only [go_sem]
 · try simp only [go_sem]
   rfl
 · intro i vs hi _
   have hei : (Int.tmod (i : Int) 2 == 0) = (i % 2 == 0):=even_b i
   have hpl:=nightP_len n k i
   repeat refine zq ?_
   refine zb fun K hK=>?_;simp only [go_sem];(try simp (disch:=omega) only [zI]);repeat first | intro _ | refine ⟨by omega,?_⟩
   refine hK _ ?_;clear hK K;refine zw (zk [0,1,4,5,18,19,20]) ?_;simp only [go_sem]
   repeat refine zq ?_
   refine zc rfl (fun hc=>?_) (fun hc=>?_) <;> (try simp only [go_sem] at hc)
   · have hil : i < n / 2 - 1:=by omega
     refine zx ?_
     try simp only [go_sem]
     repeat refine zq ?_
     refine zd ?_
     repeat refine zq ?_
     refine zb fun K hK=>?_;simp only [go_sem];(try simp (disch:=omega) only [zI]);repeat first | intro _ | refine ⟨by omega,?_⟩
     refine hK _ ?_;clear hK K;refine zw (zk [0,1,4,5,6,18,19]) ?_;simp only [go_sem]
     repeat refine zq ?_
     refine awp_long ?_
     refine sops_take 8 (by kernel_rfl) fun K hK=>?_
     simp only [go_sem,List.take_succ_cons,List.take_zero,List.drop_succ_cons,List.drop_zero,List.append_eq,List.cons_append,List.nil_append];(try simp (disch:=omega) only [zI])
     refine zh (modulo_ok ((k : Int) + i + 1) ((n : Int) - 1) (by omega) (by omega)) rfl (by simp only [go_sem,i64,ints]) (by simp only [go_sem,i64,ints]) (by first | exact .inl rfl | exact .inr rfl) ?_
     (try simp only [go_sem]);(try simp (disch:=omega) only [zI]);repeat first | intro _ | refine ⟨by omega,?_⟩
     refine hK _ rfl ?_
     clear hK K
     refine sops_sub (zk [0,1,4,5,6,18,19,22,29]) ?_
     simp only [go_sem]
     refine sops_take 7 (by kernel_rfl) fun K hK=>?_
     simp only [go_sem,List.take_succ_cons,List.take_zero,List.drop_succ_cons,List.drop_zero,List.append_eq,List.cons_append,List.nil_append];(try simp (disch:=omega) only [zI])
     refine zh (modulo_ok ((k : Int) - i - 1) ((n : Int) - 1) (by omega) (by omega)) rfl (by simp only [go_sem,i64,ints]) (by simp only [go_sem,i64,ints]) (by first | exact .inl rfl | exact .inr rfl) ?_
     (try simp only [go_sem]);(try simp (disch:=omega) only [zI]);repeat first | intro _ | refine ⟨by omega,?_⟩
     refine hK _ rfl ?_
     clear hK K
     refine sops_sub (zk [0,1,4,5,6,18,19,22,29,36]) ?_
     simp only [go_sem]
     refine sops_take 3 (by kernel_rfl) fun K hK=>?_
     simp only [go_sem,List.take_succ_cons,List.take_zero,List.drop_succ_cons,List.drop_zero,List.append_eq,List.cons_append,List.nil_append,hei];(try simp (disch:=omega) only [zI]);repeat first | intro _ | refine ⟨by omega,?_⟩
     refine hK _ rfl ?_
     clear hK K
     refine sops_sub (zk [0,1,4,5,18,19,22,29,36,39]) ?_
     simp only [go_sem]
     have hp0:=pair_ok (modV ((k : Int) + i + 1) ((n : Int) - 1)) (modV ((k : Int) - i - 1) ((n : Int) - 1)) (i % 2 == 0) (nightP n k i) (by omega)
     have hfo : pairV (modV ((k : Int) + i + 1) ((n : Int) - 1)) (modV ((k : Int) - i - 1) ((n : Int) - 1)) (i % 2 == 0) = nightF n k i:=rfl
     rw [hpl,hfo,← nightP_succ] at hp0
     refine sops_gop rfl (by intro t h; injection h with h; subst h; show 40 < 43; decide) (by intro c h; cases h) (gop_rcallS hp0 [(1000,4),(16,16)] rfl rfl (by simp only [go_sem]) (by simp only [go_sem]) rfl rfl rfl ?_)
     try simp only [go_sem]
     refine sops_end (by kernel_rfl) fun K hK=>?_
     simp only [go_sem,List.drop_succ_cons,List.drop_zero,List.append_eq,List.cons_append,List.nil_append];(try simp (disch:=omega) only [zI]);repeat first | intro _ | refine ⟨by omega,?_⟩
     refine hK _ ?_;clear hK K;refine zw (zk [0,1,4,5,18,19]) ?_;simp only [go_sem]
     repeat refine zq ?_
     refine zb fun K hK=>?_;simp only [go_sem];(try simp (disch:=omega) only [zI]);repeat first | intro _ | refine ⟨by omega,?_⟩
     refine hK _ ?_;clear hK K
     try simp only [go_sem]
     refine ⟨by omega,zj [] ?_ ?_⟩
     · try simp only [go_sem]
     · try simp only [go_sem]
   · have hie : i = n / 2 - 1:=by omega
     subst hie
     have hnv : nightP n k (n / 2 - 1) = nightV n k:=rfl
     rw [hnv]
     refine zf ?_;simp only [go_sem]
     repeat refine zq ?_
     refine zb fun K hK=>?_;simp only [go_sem];(try simp (disch:=omega) only [zI]);repeat first | intro _ | refine ⟨by omega,?_⟩
     refine hK _ ?_;clear hK K;refine zw (zk [4]) ?_;simp only [go_sem];refine ze ?_
     try simp only [go_sem]
     refine ⟨16,vs 16,by rw [hlen],?_⟩
     simp
theorem lent_upd0 {vs : Nat → Nat} (k : Nat) (h : Lent vs) : Lent (upd vs k 0):=fun j hj=>by
 unfold upd; split
 · rfl
 · exact h j hj
theorem bye_ok (m : Mt) (n : Int) : ACalls Try.prog 76 [.ag (mtR m),.rp [i64 n]] (.bo (decide (max m.h m.a ≥ n))):=by
 refine acalls_st (rs:=[.bo (decide (max m.h m.a ≥ n))]) [.tmp 3] Try.func76 rfl (by kernel_rfl) Try.ntmps76 rfl (by simp) rfl fun C vs=>?_
 repeat refine zq ?_
 refine zb fun K hK=>?_;simp only [go_sem];(try simp (disch:=omega) only [zI]);repeat first | intro _ | refine ⟨by omega,?_⟩
 refine hK _ ?_;clear hK K;refine zw (sub_frzP 2 2 (mtR m) (by omega) rfl rfl) ?_;refine zw (zk [1,2]) ?_;simp only [go_sem]
 repeat refine zq ?_
 refine zb fun K hK=>?_;simp only [go_sem];(try simp (disch:=omega) only [zI]);repeat first | intro _ | refine ⟨by omega,?_⟩
 refine hK _ ?_;clear hK K;refine ze ?_;simp only [go_sem]
theorem indexF_facts {α : Type} (p : α → Bool) : ∀ l : List α,(indexF p l = -1 ∧ ∀ x ∈ l,p x = false) ∨ ∃ i : Nat,indexF p l = i ∧ i < l.length ∧ (∀ x ∈ l.take i,p x = false) ∧ ∃ x,l[i]? = some x ∧ p x = true
 | []=>.inl ⟨rfl,by simp⟩
 | x :: l => by
   cases hp : p x with
   | true=>exact .inr ⟨0,by simp [indexF,hp],by simp,by simp,x,rfl,hp⟩
   | false =>
     rcases indexF_facts p l with ⟨h1,h2⟩ | ⟨i,h1,h2,h3,y,h4,h5⟩
     · refine .inl ⟨?_,?_⟩
       · unfold indexF; simp [hp,h1]
       · intro y hy
         rcases List.mem_cons.1 hy with rfl | hy
         · exact hp
         · exact h2 y hy
     · refine .inr ⟨i + 1,?_,by simpa using h2,?_,y,by simpa using h4,h5⟩
       · unfold indexF
         rw [h1]
         simp only [hp,Bool.false_eq_true,if_false];rw [if_neg (by omega)]
         simp
       · intro y hy
         rw [List.take_succ_cons] at hy
         rcases List.mem_cons.1 hy with rfl | hy
         · exact hp
         · exact h3 y hy
def keepF (p : Mt → Bool) (l : List Mt) : List Mt:=l.filter fun m=>!p m
theorem keepF_le (p : Mt → Bool) (l : List Mt) : (keepF p l).length ≤ l.length:=List.length_filter_le _ _
theorem keepF_all {p : Mt → Bool} {l : List Mt} (h : ∀ x ∈ l,p x = false) : keepF p l = l:=List.filter_eq_self.2 fun x hx=>by simp [h x hx]
theorem keepF_snoc (p : Mt → Bool) (l : List Mt) (x : Mt) : keepF p (l ++ [x]) = if p x then keepF p l else keepF p l ++ [x]:=by
 unfold keepF; rw [List.filter_append]; cases h : p x <;> simp [h]
def zeroR : List RV:=[i64 0,i64 0,.bo false,i64 0,i64 0]
def swept (p : Mt → Bool) (l : List Mt) : List (List RV):=(keepF p l).map mtR ++ List.replicate (l.length - (keepF p l).length) zeroR
def mixK (p : Mt → Bool) (l : List Mt) (j : Nat) : List Mt:=keepF p (l.take j) ++ l.drop (keepF p (l.take j)).length
theorem mixK_len {p : Mt → Bool} {l : List Mt} {j : Nat} : (mixK p l j).length = l.length:=by
 have h1:=keepF_le p (l.take j)
 have h2:=List.length_take_le j l
 have h3 : (l.take j).length ≤ l.length:=by rw [List.length_take]; omega
 unfold mixK; rw [List.length_append,List.length_drop]; omega
theorem mixK_get {p : Mt → Bool} {l : List Mt} {j : Nat} (h : (keepF p (l.take j)).length ≤ j) : (mixK p l j)[j]? = l[j]?:=by
 unfold mixK
 rw [List.getElem?_append_right h,List.getElem?_drop]
 congr 1; omega
theorem mixK_skip {p : Mt → Bool} {l : List Mt} {j : Nat} {x : Mt} (hx : l[j]? = some x) (hp : p x = true) : keepF p (l.take (j + 1)) = keepF p (l.take j) ∧ mixK p l (j + 1) = mixK p l j:=by
 have e : keepF p (l.take (j + 1)) = keepF p (l.take j):=by rw [take_of_opt hx,keepF_snoc,hp]; rfl
 exact ⟨e,by unfold mixK; rw [e]⟩
theorem mixK_take {p : Mt → Bool} {l : List Mt} {j : Nat} {x : Mt} (hx : l[j]? = some x) (hp : p x = false) (h : (keepF p (l.take j)).length < l.length) :
 (keepF p (l.take (j + 1))).length = (keepF p (l.take j)).length + 1 ∧ mixK p l (j + 1) = (mixK p l j).set (keepF p (l.take j)).length x:=by
 have e : keepF p (l.take (j + 1)) = keepF p (l.take j) ++ [x]:=by rw [take_of_opt hx,keepF_snoc,hp]; rfl
 refine ⟨by rw [e]; simp,?_⟩
 unfold mixK
 rw [e,List.set_append_right _ _ (Nat.le_refl _),Nat.sub_self,List.drop_eq_getElem_cons h,List.set_cons_zero,List.length_append,List.append_assoc]
 rfl
theorem deleteFunc_ok (p : Mt → Bool) (f : Nat) (cap : RV) (l : List Mt) (hll : l.length ≤ 1000) (h : ∀ x ∈ l,ACalls Try.prog f [.ag (mtR x),cap] (.bo (p x))) :
 MCalls Try.prog 74 [(1000,.arr 70 5 (l.map mtR))] [(1000,.arr 70 5 (swept p l))] [.os 1000 0 5 0 l.length,.fn f [.r cap]] (.os 1000 0 5 0 (keepF p l).length):=by
 have hix:=indexM_ok p f [cap] l h
 refine mcalls_st (n:=42) (rs:=[.os 1000 0 5 0 (keepF p l).length]) _ _ [.tmp 4] Try.func74 rfl (by kernel_rfl) Try.ntmps74 rfl (by simp) rfl rfl fun C=>?_
 repeat refine zq ?_
 refine zb fun K hK=>?_;simp only [go_sem];(try simp (disch:=omega) only [zI]);repeat first | intro _ | refine ⟨by omega,?_⟩
 refine hK _ ?_;clear hK K;refine zw (zk [0,1]) ?_;simp only [go_sem]
 repeat refine zq ?_
 refine zb fun K hK=>?_;simp only [go_sem];(try simp (disch:=omega) only [zI])
 refine zh (hix) rfl (by simp only [go_sem,i64,ints]) (by simp only [go_sem,i64,ints]) (by first | exact .inl rfl | exact .inr rfl) ?_
 (try simp only [go_sem]);(try simp (disch:=omega) only [zI]);repeat first | intro _ | refine ⟨by omega,?_⟩
 refine hK _ ?_;clear hK K;refine zw (zk [0,1,5]) ?_;simp only [go_sem]
 repeat refine zq ?_
 refine zb fun K hK=>?_;simp only [go_sem];(try simp (disch:=omega) only [zI]);repeat first | intro _ | refine ⟨by omega,?_⟩
 refine hK _ ?_;clear hK K;refine zw (zk [0,1,5,12]) ?_;simp only [go_sem]
 rcases indexF_facts p l with ⟨hi,hall⟩ | ⟨i0,hi,hi1,hpre,x0,hx0,hp0⟩
 · rw [hi]
   repeat refine zq ?_
   refine zc rfl (fun hc=>?_) (fun hc=>?_) <;> (try simp only [go_sem] at hc)
   repeat refine zq ?_
   refine zb fun K hK=>?_;simp only [go_sem];(try simp (disch:=omega) only [zI]);repeat first | intro _ | refine ⟨by omega,?_⟩
   refine hK _ ?_;clear hK K;refine zw (zk [4]) ?_;simp only [go_sem];refine ze ?_;simp only [go_sem]
   unfold swept
   rw [keepF_all hall,Nat.sub_self]
   simp
 · rw [hi]
   have hb : ((i0 : Int) == -1) = false:=by simp
   rw [hb]
   repeat refine zq ?_
   refine zc rfl (fun hc=>?_) (fun hc=>?_) <;> (try simp only [go_sem] at hc)
   refine zx ?_
   try simp only [go_sem]
   repeat refine zq ?_
   refine zb fun K hK=>?_;simp only [go_sem];(try simp (disch:=omega) only [zI]);repeat first | intro _ | refine ⟨by omega,?_⟩
   refine hK _ ?_;clear hK K;refine zw (zk [0,1,5,6]) ?_;simp only [go_sem]
   have hx1:=hi1
   have hk0 : keepF p (l.take (i0 + 1)) = l.take i0:=by rw [take_of_opt hx0,keepF_snoc,hp0,if_pos rfl,keepF_all hpre]
   have hkl : (keepF p (l.take (i0 + 1))).length = i0:=by rw [hk0,List.length_take]; omega
   have hm0 : mixK p l (i0 + 1) = l:=by unfold mixK; rw [hkl,hk0,List.take_append_drop]
   repeat refine zq ?_
   refine zd ?_
   refine awp_upto0 (n:=42) l.length (fun j vs=>[(0,.os 1000 0 5 0 l.length),(1,.fn f [.r cap]),(5,.r (i64 ((keepF p (l.take j)).length : Int))),(6,.r (i64 (j : Int)))])
    (fun j=>[(1000,.arr 70 5 ((mixK p l j).map mtR))]) (fun j=>(keepF p (l.take j)).length < j) (i0 + 1) (fit0_of [] lent_zero ?_ ?_) hi1 (by rw [hkl]; omega) ?_
   · try simp only [go_sem]
     rw [hkl]
   · simp only [go_sem,hm0]
   · intro j vs hv hj hI
     have hv0:=hv 1000 (by omega)
     have hml:=mixK_len (p:=p) (l:=l) (j:=j)
     repeat refine zq ?_
     refine zb fun K hK=>?_;simp only [go_sem,hv0];(try simp (disch:=omega) only [zI]);repeat first | intro _ | refine ⟨by omega,?_⟩
     refine hK _ ?_;clear hK K;refine zw (zk [0,1,5,6,19]) ?_;simp only [go_sem]
     repeat refine zq ?_
     refine zc rfl (fun hc=>?_) (fun hc=>?_) <;> (try simp only [go_sem] at hc)
     · have hjl : j < l.length:=by omega
       obtain ⟨x,hx⟩:=opt_of_lt hjl
       have hg:=mixK_get (p:=p) (l:=l) (j:=j) (Nat.le_of_lt hI)
       rw [hx] at hg
       refine zx ?_
       try simp only [go_sem]
       repeat refine zq ?_
       refine zd ?_
       repeat refine zq ?_
       refine zb fun K hK=>?_;simp only [go_sem,hg,hv0];(try simp (disch:=omega) only [zI]);repeat first | intro _ | refine ⟨by omega,?_⟩
       refine hK _ ?_;clear hK K;refine zw (sub_frzP 7 7 (mtR x) (by omega) rfl rfl) ?_;refine zw (zk [0,1,5,6,7]) ?_;simp only [go_sem]
       repeat refine zq ?_
       refine zb fun K hK=>?_;simp only [go_sem];(try simp (disch:=omega) only [zI])
       refine zh (h x (mem_of_opt hx)) rfl (by simp only [go_sem,i64,ints]) (by simp only [go_sem,i64,ints]) (by first | exact .inl rfl | exact .inr rfl) ?_
       (try simp only [go_sem]);(try simp (disch:=omega) only [zI]);repeat first | intro _ | refine ⟨by omega,?_⟩
       refine hK _ ?_;clear hK K;refine zw (zk [0,1,5,6,7,29]) ?_;simp only [go_sem]
       repeat refine zq ?_
       refine zc rfl (fun hc=>?_) (fun hc=>?_) <;> (try simp only [go_sem] at hc)
       · have hpx : p x = false:=by simpa using hc
         obtain ⟨e1,e2⟩:=mixK_take hx hpx (by omega)
         obtain ⟨y,hy⟩:=opt_of_lt (show (keepF p (l.take j)).length < (mixK p l j).length by omega)
         have hset : (mixK p l (j + 1)).map mtR = ((mixK p l j).map mtR).set (keepF p (l.take j)).length (mtR x):=by rw [e2,List.map_set]
         repeat refine zq ?_
         refine zb fun K hK=>?_;simp only [go_sem,hv0,hml];(try simp (disch:=omega) only [zI]);repeat first | intro _ | refine ⟨by omega,?_⟩
         refine hK _ ?_;clear hK K;refine zw (zk [0,1,5,6]) ?_;simp only [go_sem]
         repeat refine zq ?_
         refine zb fun K hK=>?_;simp only [go_sem];(try simp (disch:=omega) only [zI]);repeat first | intro _ | refine ⟨by omega,?_⟩
         refine hK _ ?_;clear hK K;refine zw (zk [0,1,5,6]) ?_;simp only [go_sem]
         repeat refine zq ?_
         refine zb fun K hK=>?_;simp only [go_sem];(try simp (disch:=omega) only [zI]);repeat first | intro _ | refine ⟨by omega,?_⟩
         refine hK _ ?_;clear hK K
         try simp only [go_sem]
         refine ⟨by omega,by rw [e1]; omega,fit0_of [] (by repeat first | exact hv | refine lent_upd0 _ ?_ | refine lent_upd (by omega) ?_) ?_ ?_⟩
         · try simp only [go_sem]
           rw [e1]
           simp
         · try simp only [go_sem]
           rw [hset,hy]
           rfl
       · have hpx : p x = true:=by simpa using hc
         obtain ⟨e1,e2⟩:=mixK_skip hx hpx
         refine zx ?_
         try simp only [go_sem]
         repeat refine zq ?_
         refine zb fun K hK=>?_;simp only [go_sem];(try simp (disch:=omega) only [zI]);repeat first | intro _ | refine ⟨by omega,?_⟩
         refine hK _ ?_;clear hK K
         try simp only [go_sem]
         refine ⟨by omega,by rw [e1]; omega,fit0_of [] (by repeat first | exact hv | refine lent_upd (by omega) ?_) ?_ ?_⟩
         · try simp only [go_sem]
           rw [e1]
         · try simp only [go_sem]
           rw [e2]
     · skip
       have hje : j = l.length:=by omega
       subst hje
       rw [List.take_length] at hI
       have hmx : mixK p l l.length = keepF p l ++ l.drop (keepF p l).length:=by unfold mixK; rw [List.take_length]
       rw [hmx,List.take_length]
       refine zf ?_;simp only [go_sem]
       repeat refine zq ?_
       refine awp_long ?_
       refine sops_take 3 (by kernel_rfl) fun K hK=>?_
       simp only [go_sem,List.take_succ_cons,List.take_zero,List.drop_succ_cons,List.drop_zero,List.append_eq,List.cons_append,List.nil_append,hv0];(try simp (disch:=omega) only [zI]);repeat first | intro _ | refine ⟨by omega,?_⟩
       refine hK _ rfl ?_
       clear hK K
       refine sops_sub (zk [0,5,38]) ?_
       simp only [go_sem]
       refine sops_gop rfl (by intro t h; cases h) (by intro c h; cases h) (gop_clearS rfl ty36 (k:=1000) (v:=0) (off:=(keepF p l).length) (m:=l.length - (keepF p l).length) (es:=(keepF p l ++ l.drop (keepF p l).length).map mtR) hv0.symm rfl rfl (by omega) (by rw [List.length_map,List.length_append,List.length_drop]; omega) ?_)
       have hsw : (List.take (keepF p l).length ((keepF p l ++ l.drop (keepF p l).length).map mtR) ++ (List.replicate (l.length - (keepF p l).length) zeroR ++ List.drop ((keepF p l).length + (l.length - (keepF p l).length)) ((keepF p l ++ l.drop (keepF p l).length).map mtR))) = swept p l:=by
        rw [← List.map_take,List.take_append_of_le_length (Nat.le_refl _),List.take_length,List.drop_of_length_le (by rw [List.length_map,List.length_append,List.length_drop]; omega),List.append_nil]
        rfl
       have hzr : zeroR = [.it .i64 0,.it .i64 0,.bo false,.it .i64 0,.it .i64 0]:=rfl
       rw [hzr] at hsw
       rw [hsw]
       have hsl : (swept p l).length = l.length:=by unfold swept; rw [List.length_append,List.length_map,List.length_replicate]; omega
       try simp only [go_sem]
       refine sops_end (by kernel_rfl) fun K hK=>?_
       simp only [go_sem,List.drop_succ_cons,List.drop_zero,List.append_eq,List.cons_append,List.nil_append];(try simp (disch:=omega) only [zI]);repeat first | intro _ | refine ⟨by omega,?_⟩
       refine hK _ ?_;clear hK K;refine zw (zk [0,5]) ?_;simp only [go_sem]
       repeat refine zq ?_
       refine zb fun K hK=>?_;simp only [go_sem,hv0,hsl];(try simp (disch:=omega) only [zI]);repeat first | intro _ | refine ⟨by omega,?_⟩
       refine hK _ ?_;clear hK K;refine zw (zk [4]) ?_;simp only [go_sem];refine ze ?_;simp only [go_sem]
       done
abbrev nightsR (ls : List (List Mt)) : RV:=.sl 1 (ls.map fun l=>[mtsR l])
theorem cloneL_ok (l : List Mt) (hl : l.length ≤ 1000) (h0 : l ≠ []) : OCalls Try.prog 78 [mtsR l] 70 5 (l.map mtR) l.length:=by
 have hpos:=List.length_pos_iff.2 h0
 have hne : l.map mtR ≠ []:=by simpa using h0
 refine ocalls_st (n:=8) (.tmp 2) Try.func78 rfl (by kernel_rfl) Try.ntmps78 rfl (by simp) (fun e he=>by obtain ⟨x,_,rfl⟩:=List.mem_map.1 he; rfl) fun C vs=>?_
 repeat refine zq ?_
 refine zb fun K hK=>?_;simp only [go_sem];(try simp (disch:=omega) only [zI]);repeat first | intro _ | refine ⟨by omega,?_⟩
 refine hK _ ?_;clear hK K;refine zw (zk [0,2]) ?_;simp only [go_sem]
 repeat refine zq ?_
 refine awp_long ?_
 refine sops_take 1 (by kernel_rfl) fun K hK=>?_
 simp only [go_sem,List.take_succ_cons,List.take_zero,List.drop_succ_cons,List.drop_zero,List.append_eq,List.cons_append,List.nil_append];(try simp (disch:=omega) only [zI]);repeat first | intro _ | refine ⟨by omega,?_⟩
 refine hK _ rfl ?_
 clear hK K
 refine sops_sub (zk [0,2,3]) ?_
 simp only [go_sem]
 refine sops_gop rfl (by intro t h; injection h with h; subst h; show 4 < 8; decide) (by intro c h; cases h) (gop_eqnil rfl ty36 (es:=l.map mtR) rfl hne ?_)
 try simp only [go_sem]
 refine sops_end (by kernel_rfl) fun K hK=>?_
 simp only [go_sem,List.drop_succ_cons,List.drop_zero,List.append_eq,List.cons_append,List.nil_append];(try simp (disch:=omega) only [zI]);repeat first | intro _ | refine ⟨by omega,?_⟩
 refine hK _ ?_;clear hK K;refine zw (zk [0,2,4]) ?_;simp only [go_sem]
 repeat refine zq ?_
 refine zc rfl (fun hc=>?_) (fun hc=>?_) <;> (try simp only [go_sem] at hc)
 refine zx ?_
 try simp only [go_sem]
 repeat refine zq ?_
 refine zb fun K hK=>?_;simp only [go_sem];(try simp (disch:=omega) only [zI]);repeat first | intro _ | refine ⟨by omega,?_⟩
 refine hK _ ?_;clear hK K;refine zw (zk [2]) ?_;simp only [go_sem];refine ze ?_
 try simp only [go_sem]
 refine ⟨7,vs 7 + 1,rfl,?_⟩
 simp
theorem cloneN_ok (es : List (List RV)) (hl : es.length ≤ 1000) (h0 : 0 < es.length) : RCalls Try.prog 77 [(1000,.arr 36 1 es),(7,.dead)] [(1000,.arr 36 1 es),(7,.arr 36 1 es)] [.os 1000 0 1 0 es.length] (.os 7 0 1 0 es.length):=by
 refine rcalls_st (n:=8) (rs:=[.os 7 0 1 0 es.length]) _ _ [.tmp 2] Try.func77 rfl (by kernel_rfl) Try.ntmps77 rfl (by simp) rfl rfl fun C hC=>?_
 repeat refine zq ?_
 refine zb fun K hK=>?_;simp only [go_sem];(try simp (disch:=omega) only [zI]);repeat first | intro _ | refine ⟨by omega,?_⟩
 refine hK _ ?_;clear hK K;refine zw (zk [0,2]) ?_;simp only [go_sem]
 repeat refine zq ?_
 refine awp_long ?_
 refine sops_take 1 (by kernel_rfl) fun K hK=>?_
 simp only [go_sem,List.take_succ_cons,List.take_zero,List.drop_succ_cons,List.drop_zero,List.append_eq,List.cons_append,List.nil_append];(try simp (disch:=omega) only [zI]);repeat first | intro _ | refine ⟨by omega,?_⟩
 refine hK _ rfl ?_
 clear hK K
 refine sops_sub (zk [0,2,3]) ?_
 simp only [go_sem]
 refine sops_gop rfl (by intro t h; injection h with h; subst h; show 4 < 8; decide) (by intro c h; cases h) (gop_eqnilO rfl ty91 (k:=1000) (m:=es.length) (sz:=1) (off:=0) rfl h0 ?_)
 try simp only [go_sem]
 refine sops_end (by kernel_rfl) fun K hK=>?_
 simp only [go_sem,List.drop_succ_cons,List.drop_zero,List.append_eq,List.cons_append,List.nil_append];(try simp (disch:=omega) only [zI]);repeat first | intro _ | refine ⟨by omega,?_⟩
 refine hK _ ?_;clear hK K;refine zw (zk [0,2,4]) ?_;simp only [go_sem]
 repeat refine zq ?_
 refine zc rfl (fun hc=>?_) (fun hc=>?_) <;> (try simp only [go_sem] at hc)
 refine zx ?_
 try simp only [go_sem]
 repeat refine zq ?_
 refine zb fun K hK=>?_;simp only [go_sem];(try simp (disch:=omega) only [zI]);repeat first | intro _ | refine ⟨by omega,?_⟩
 refine hK _ ?_;clear hK K;refine ze ?_
 try simp only [go_sem]
 rw [Nat.min_self,List.take_length]
 refine ⟨⟨trivial,[],?_,rfl⟩,rfl⟩
 simp [nrmA,upd,Res.val]
def swM (m : Mt) : Mt:=⟨m.a,m.h,m.p,m.f,m.g⟩
def backV (l : List Mt) : List Mt:=l.map swM
def swL (l : List Mt) (k : Nat) : List Mt:=(l.take k).map swM ++ l.drop k
theorem swL_len (l : List Mt) (k : Nat) : (swL l k).length = l.length:=by unfold swL; rw [List.length_append,List.length_map,List.length_take,List.length_drop]; omega
theorem swL_get {l : List Mt} {k : Nat} {m : Mt} (h : l[k]? = some m) : (swL l k)[k]? = some m:=by
 have:=(List.getElem?_eq_some_iff.1 h).1
 unfold swL
 rw [List.getElem?_append_right (by rw [List.length_map,List.length_take]; omega),List.getElem?_drop,List.length_map,List.length_take,← h]
 congr 1; omega
theorem swL_set {l : List Mt} {k : Nat} {m : Mt} (h : l[k]? = some m) : (swL l k).set k (swM m) = swL l (k + 1):=by
 have hk:=(List.getElem?_eq_some_iff.1 h).1
 have e1 : ((l.take k).map swM).length = k:=by rw [List.length_map,List.length_take]; omega
 unfold swL
 rw [take_of_opt h,drop_of_opt h,List.map_append,List.append_assoc,List.set_append_right _ _ (by omega),e1,Nat.sub_self,List.set_cons_zero]
 rfl
theorem swL_full (l : List Mt) : swL l l.length = backV l:=by unfold swL; rw [List.take_length,List.drop_length,List.append_nil]; rfl
def byeB (teams : Nat) (m : Mt) : Bool:=decide (max m.h m.a ≥ (teams : Int))
def evenN (teams : Nat) : Nat:=teams + teams % 2
def oneV (teams k : Nat) : List Mt:=keepF (byeB teams) (nightV (evenN teams) k)
def halfV (teams : Nat) : List (List Mt):=(List.range (evenN teams - 1)).map (oneV teams)
def roundsV (teams : Nat) (twice : Bool) : List (List Mt):=if twice then halfV teams ++ (halfV teams).map backV else halfV teams
theorem oneV_ne : ∀ teams k : Nat,2 ≤ teams → teams ≤ 10 → k < evenN teams - 1 → (oneV teams k) ≠ []:=by
 have h : ∀ teams ∈ [2,3,4,5,6,7,8,9,10],∀ k ∈ List.range (evenN teams - 1),0 < (oneV teams k).length:=by decide +kernel
 intro teams k h1 h2 h3 e
 have:=h teams (by simp only [List.mem_cons,List.not_mem_nil,or_false]; omega) k (by simpa using h3)
 rw [e] at this
 simp at this
theorem nightV_len (n k : Nat) : (nightV n k).length = n / 2 - 1 + 1:=nightP_len n k _
theorem oneV_le (teams k : Nat) (h : teams ≤ 10) : (oneV teams k).length ≤ 5:=by
 have h1:=keepF_le (byeB teams) (nightV (evenN teams) k)
 have h2:=nightV_len (evenN teams) k
 unfold oneV
 have : evenN teams ≤ 11:=by unfold evenN; omega
 omega
theorem halfV_len (teams : Nat) : (halfV teams).length = evenN teams - 1:=by simp [halfV]
theorem Rounds_once (teams : Nat) (twice : Bool) (h : 2 ≤ teams ∧ teams ≤ 10) : ACalls Try.prog 43 [i64 (teams : Int),.bo twice] (.tu [nightsR (roundsV teams twice),i64 0]):=by
 have hwi : withinL 2 10 [(teams : Int)] = true:=withinL_one.2 (by omega)
 have hn : evenN teams % 2 = 0 ∧ 2 ≤ evenN teams ∧ evenN teams ≤ 10:=by unfold evenN; omega
 have htm : Int.tmod (teams : Int) 2 = ((teams % 2 : Nat) : Int):=rfl
 have hev : (teams : Int) + ((teams % 2 : Nat) : Int) = (evenN teams : Int):=by unfold evenN; omega
 have hn1 : (evenN teams : Int) - 1 = ((evenN teams - 1 : Nat) : Int):=by omega
 refine acalls_st (rs:=[nightsR (roundsV teams twice),i64 0]) [.tmp 4,.tmp 5] Try.func43 rfl (by kernel_rfl) Try.ntmps43 rfl (by simp) rfl fun C vs=>?_
 repeat refine zq ?_
 refine zb fun K hK=>?_;simp only [go_sem];(try simp (disch:=omega) only [zI]);repeat first | intro _ | refine ⟨by omega,?_⟩
 refine hK _ ?_;clear hK K;refine zw (sub_frzP 2 2 [i64 (teams : Int)] (by omega) rfl rfl) ?_;refine zw (zk [1,2,4]) ?_;simp only [go_sem]
 repeat refine zq ?_
 refine zb fun K hK=>?_;simp only [go_sem];(try simp (disch:=omega) only [zI])
 refine zh (within_ok 2 10 [(teams : Int)]) rfl (by simp only [go_sem,i64,ints]) (by simp only [go_sem,i64,ints]) (by first | exact .inl rfl | exact .inr rfl) ?_
 (try simp only [go_sem]);(try simp (disch:=omega) only [zI]);repeat first | intro _ | refine ⟨by omega,?_⟩
 refine hK _ ?_;clear hK K;rw [hwi]
 refine zw (zk [1,2,4,16]) ?_;simp only [go_sem]
 repeat refine zq ?_
 refine zc rfl (fun hc=>?_) (fun hc=>?_) <;> (try simp only [go_sem] at hc)
 refine zx ?_
 try simp only [go_sem]
 repeat refine zq ?_
 refine zb fun K hK=>?_;simp only [go_sem,htm];(try simp (disch:=omega) only [zI]);repeat first | intro _ | refine ⟨by omega,?_⟩
 refine hK _ ?_;clear hK K;rw [hev]
 refine zw (zk [1,2,4,6]) ?_;simp only [go_sem]
 repeat refine zq ?_
 refine zb fun K hK=>?_;simp only [go_sem];(try simp (disch:=omega) only [zI]);repeat first | intro _ | refine ⟨by omega,?_⟩
 refine hK _ ?_;clear hK K;rw [hn1]
 refine zw (sub_own 4 33 36 1 (by omega) rfl) ?_;refine zw (zk [1,2,4,6,22,23]) ?_;simp only [go_sem]
 repeat refine zq ?_
 refine zd ?_
 refine awp_uptoV (n:=73) (evenN teams - 1) (fun i vs=>[(1,.r (.bo twice)),(2,.r (.rp [i64 (teams : Int)])),(4,.os 33 (vs 33) 1 0 i),(6,.r (i64 (evenN teams : Int))),(22,.r (i64 ((evenN teams - 1 : Nat) : Int))),(23,.r (i64 (i : Int)))])
  (fun i vs=>[(33,.arr 36 1 (((List.range i).map (oneV teams)).map fun l=>[mtsR l]))]) (fun _=>True) 0 (zj [] ?_ ?_) (Nat.zero_le _) trivial ?_
 · try simp only [go_sem]
 · try simp only [go_sem]
   rfl
 · intro i vs hi _
   repeat refine zq ?_
   refine zb fun K hK=>?_;simp only [go_sem];(try simp (disch:=omega) only [zI]);repeat first | intro _ | refine ⟨by omega,?_⟩
   refine hK _ ?_;clear hK K;refine zw (zk [1,2,4,6,22,23,24]) ?_;simp only [go_sem]
   repeat refine zq ?_
   refine zc rfl (fun hc=>?_) (fun hc=>?_) <;> (try simp only [go_sem] at hc)
   · have hil : i < evenN teams - 1:=by omega
     have hnl:=nightV_len (evenN teams) i
     have hni:=night_ok (evenN teams) i ⟨hn.2.1,hn.2.2⟩ hn.1 hil
     have hde:=deleteFunc_ok (byeB teams) 76 (.rp [i64 (teams : Int)]) (nightV (evenN teams) i) (by omega) (fun x _=>bye_ok x teams)
     refine zx ?_
     try simp only [go_sem]
     repeat refine zq ?_
     refine zd ?_
     repeat refine zq ?_
     refine zb fun K hK=>?_;simp only [go_sem];(try simp (disch:=omega) only [zI]);repeat first | intro _ | refine ⟨by omega,?_⟩
     refine hK _ ?_;clear hK K;refine zw (zk [1,2,4,6,7,22,23]) ?_;simp only [go_sem]
     repeat refine zq ?_
     refine awp_long ?_
     refine sops_take 4 (by kernel_rfl) fun K hK=>?_
     simp only [go_sem,List.take_succ_cons,List.take_zero,List.drop_succ_cons,List.drop_zero,List.append_eq,List.cons_append,List.nil_append];(try simp (disch:=omega) only [zI])
     refine xcall_own (hni) rfl (by simp only [go_sem,i64,ints]) (by simp only [go_sem,i64,ints]) (by decide) (by intro h; first | (cases h; done) | rfl) ?_
     (try simp only [go_sem]);(try simp (disch:=omega) only [zI]);repeat first | intro _ | refine ⟨by omega,?_⟩
     refine hK _ rfl ?_
     clear hK K
     refine sops_sub (zk [1,2,4,6,22,23,26,29]) ?_
     simp only [go_sem]
     refine sops_take 2 (by kernel_rfl) fun K hK=>?_
     simp only [go_sem,List.take_succ_cons,List.take_zero,List.drop_succ_cons,List.drop_zero,List.append_eq,List.cons_append,List.nil_append];(try simp (disch:=omega) only [zI])
     refine xcall_mut (hde) [(1000,29)] rfl (by simp only [go_sem,i64,ints]) (by simp only [go_sem,i64,ints]) (by rfl) (by rfl) ?_
     (try simp only [go_sem]);(try simp (disch:=omega) only [zI]);repeat first | intro _ | refine ⟨by omega,?_⟩
     refine hK _ rfl ?_
     clear hK K
     have hkp : keepF (byeB teams) (nightV (evenN teams) i) = oneV teams i:=rfl
     have hsw : List.take (oneV teams i).length (swept (byeB teams) (nightV (evenN teams) i)) = (oneV teams i).map mtR:=by
      unfold swept; rw [hkp,List.take_left' (by simp)]
     rw [hkp]
     refine sops_sub (sub_frz 31 29 (by omega) rfl rfl (by unfold swept; rw [hkp,List.length_append,List.length_map]; omega)) ?_
     rw [List.drop_zero,hsw]
     refine sops_sub (zk [1,2,4,6,22,23,26,31]) ?_
     simp only [go_sem]
     refine sops_end (by kernel_rfl) fun K hK=>?_
     simp only [go_sem,List.drop_succ_cons,List.drop_zero,List.append_eq,List.cons_append,List.nil_append,List.length_range];(try simp (disch:=omega) only [zI]);repeat first | intro _ | refine ⟨by omega,?_⟩
     refine hK _ ?_;clear hK K;refine zw (zk [1,2,4,6,22,23]) ?_;simp only [go_sem]
     repeat refine zq ?_
     refine zb fun K hK=>?_;simp only [go_sem];(try simp (disch:=omega) only [zI]);repeat first | intro _ | refine ⟨by omega,?_⟩
     refine hK _ ?_;clear hK K
     try simp only [go_sem]
     refine ⟨by omega,zj [] ?_ ?_⟩
     · try simp only [go_sem]
     · try simp only [go_sem]
       rw [List.map_append,List.map_append]
       rfl
   · have hie : i = evenN teams - 1:=by omega
     subst hie
     have hhv : (List.range (evenN teams - 1)).map (oneV teams) = halfV teams:=rfl
     have hhl:=halfV_len teams
     rw [hhv]
     have hmem : ∀ l ∈ halfV teams,l ≠ [] ∧ l.length ≤ 5:=fun l hl=>by
      obtain ⟨k,hk,rfl⟩:=List.mem_map.1 hl
      exact ⟨oneV_ne teams k h.1 h.2 (List.mem_range.1 hk),oneV_le teams k h.2⟩
     have hrv : roundsV teams twice = if twice then halfV teams ++ (halfV teams).map backV else halfV teams:=rfl
     rw [hrv]
     generalize halfV teams = H at *
     rw [← hhl]
     refine zf ?_;simp only [go_sem]
     repeat refine zq ?_
     refine zb fun K hK=>?_;simp only [go_sem];(try simp (disch:=omega) only [zI]);repeat first | intro _ | refine ⟨by omega,?_⟩
     refine hK _ ?_;clear hK K;refine zw (zk [4,36]) ?_;simp only [go_sem]
     cases twice with
     | false =>
       repeat refine zq ?_
       refine zc rfl (fun hc=>?_) (fun hc=>?_) <;> (try simp only [go_sem] at hc)
       repeat refine zq ?_
       refine zb fun K hK=>?_;simp only [go_sem];(try simp (disch:=omega) only [zI]);repeat first | intro _ | refine ⟨by omega,?_⟩
       refine hK _ ?_;clear hK K;refine zw (sub_frz 4 33 (by omega) rfl rfl (by simp)) ?_;refine zw (zk [4,5]) ?_;simp only [go_sem];refine ze ?_;simp only [go_sem]
       done
     | true =>
       have hne : H ≠ []:=by intro e; rw [e] at hhl; simp only [List.length_nil] at hhl; omega
       have hcl:=cloneN_ok (H.map fun l=>[mtsR l]) (by rw [List.length_map]; omega) (by rw [List.length_map]; omega)
       rw [List.length_map] at hcl
       repeat refine zq ?_
       refine zc rfl (fun hc=>?_) (fun hc=>?_) <;> (try simp only [go_sem] at hc)
       refine zx ?_
       try simp only [go_sem]
       repeat refine zq ?_
       refine awp_long ?_
       refine sops_take 1 (by kernel_rfl) fun K hK=>?_
       simp only [go_sem,List.take_succ_cons,List.take_zero,List.drop_succ_cons,List.drop_zero,List.append_eq,List.cons_append,List.nil_append];(try simp (disch:=omega) only [zI]);repeat first | intro _ | refine ⟨by omega,?_⟩
       refine hK _ rfl ?_
       clear hK K
       refine sops_sub (zk [4,38]) ?_
       simp only [go_sem]
       refine sops_gop rfl (by intro t h; injection h with h; subst h; show 39 < 73; decide) (by intro c h; cases h) (gop_rcallS hcl [(1000,33),(7,39)] rfl rfl (by simp only [go_sem]) (by simp only [go_sem]) rfl rfl rfl ?_)
       try simp only [go_sem]
       refine sops_sub (sub_frz 39 39 (by omega) rfl rfl (by simp)) ?_
       have htkH : List.take H.length (List.drop 0 (H.map fun l=>[mtsR l])) = H.map fun l=>[mtsR l]:=by rw [List.drop_zero]; exact List.take_of_length_le (by simp)
       rw [htkH]
       refine sops_sub (zk [4,39]) ?_
       simp only [go_sem]
       refine sops_end (by kernel_rfl) fun K hK=>?_
       simp only [go_sem,List.drop_succ_cons,List.drop_zero,List.append_eq,List.cons_append,List.nil_append];(try simp (disch:=omega) only [zI]);repeat first | intro _ | refine ⟨by omega,?_⟩
       refine hK _ ?_;clear hK K;refine zw (zk [4,39,40,41]) ?_;simp only [go_sem]
       repeat refine zq ?_
       refine zd ?_
       refine awp_uptoV (n:=73) H.length (fun i vs=>[(4,.os 33 (vs 33) 1 0 (H.length + i)),(39,.r (nightsR H)),(40,.r (i64 (H.length : Int))),(41,.r (i64 (i : Int)))])
        (fun i vs=>[(33,.arr 36 1 ((H ++ (H.take i).map backV).map fun l=>[mtsR l]))]) (fun _=>True) 0 (zj [] ?_ ?_) (Nat.zero_le _) trivial ?_
       · try simp only [go_sem]
       · try simp only [go_sem]
       · intro i vs hi _
         repeat refine zq ?_
         refine zb fun K hK=>?_;simp only [go_sem];(try simp (disch:=omega) only [zI]);repeat first | intro _ | refine ⟨by omega,?_⟩
         refine hK _ ?_;clear hK K;refine zw (zk [4,39,40,41,42]) ?_;simp only [go_sem]
         repeat refine zq ?_
         refine zc rfl (fun hc=>?_) (fun hc=>?_) <;> (try simp only [go_sem] at hc)
         · have hil : i < H.length:=by omega
           obtain ⟨l,hl⟩:=opt_of_lt hil
           obtain ⟨hl0,hl5⟩:=hmem l (mem_of_opt hl)
           refine zx ?_
           try simp only [go_sem]
           repeat refine zq ?_
           refine zd ?_
           repeat refine zq ?_
           refine zb fun K hK=>?_;simp only [go_sem,hl];(try simp (disch:=omega) only [zI]);repeat first | intro _ | refine ⟨by omega,?_⟩
           refine hK _ ?_;clear hK K;refine zw (zk [4,9,39,40,41]) ?_;simp only [go_sem]
           repeat refine zq ?_
           refine zb fun K hK=>?_;simp only [go_sem];(try simp (disch:=omega) only [zI])
           refine xcall_own (cloneL_ok l (by omega) hl0) rfl (by simp only [go_sem,i64,ints]) (by simp only [go_sem,i64,ints]) (by decide) (by intro h; first | (cases h; done) | rfl) ?_
           (try simp only [go_sem]);(try simp (disch:=omega) only [zI]);repeat first | intro _ | refine ⟨by omega,?_⟩
           refine hK _ ?_;clear hK K;refine zw (zk [4,10,39,40,41]) ?_;simp only [go_sem]
           repeat refine zq ?_
           refine zb fun K hK=>?_;simp only [go_sem];(try simp (disch:=omega) only [zI]);repeat first | intro _ | refine ⟨by omega,?_⟩
           refine hK _ ?_;clear hK K;refine zw (zk [4,10,39,40,41,47,48,49]) ?_;simp only [go_sem]
           repeat refine zq ?_
           refine zd ?_
           refine awp_uptoV (n:=73) l.length (fun k vs=>[(4,.os 33 (vs 33) 1 0 (H.length + i)),(10,.os 46 (vs 46) 5 0 l.length),(39,.r (nightsR H)),(40,.r (i64 (H.length : Int))),(41,.r (i64 (i : Int))),(47,.os 46 (vs 46) 5 0 l.length),(48,.r (i64 (l.length : Int))),(49,.r (i64 (k : Int)))])
            (fun k vs=>[(33,.arr 36 1 ((H ++ (H.take i).map backV).map fun l=>[mtsR l])),(46,.arr 70 5 ((swL l k).map mtR))]) (fun _=>True) 0 (zj [] ?_ ?_) (Nat.zero_le _) trivial ?_
           · try simp only [go_sem]
           · try simp only [go_sem]
             rfl
           · intro k vs hk _
             have hswl:=swL_len l k
             repeat refine zq ?_
             refine zb fun K hK=>?_;simp only [go_sem];(try simp (disch:=omega) only [zI]);repeat first | intro _ | refine ⟨by omega,?_⟩
             refine hK _ ?_;clear hK K;refine zw (zk [4,10,39,40,41,47,48,49,50]) ?_;simp only [go_sem]
             repeat refine zq ?_
             refine zc rfl (fun hc=>?_) (fun hc=>?_) <;> (try simp only [go_sem] at hc)
             · have hkl : k < l.length:=by omega
               obtain ⟨m,hm⟩:=opt_of_lt hkl
               have hsm:=swL_get hm
               refine zx ?_
               try simp only [go_sem]
               repeat refine zq ?_
               refine zd ?_
               repeat refine zq ?_
               refine zb fun K hK=>?_;simp only [go_sem,hsm];(try simp (disch:=omega) only [zI]);repeat first | intro _ | refine ⟨by omega,?_⟩
               refine hK _ ?_;clear hK K;refine zw (sub_frzP 12 12 (mtR m) (by omega) rfl rfl) ?_;refine zw (zk [4,10,11,12,39,40,41,47,48,49]) ?_;simp only [go_sem]
               have hgd : ∀ X,(((swL l k).map mtR).set k X).getD k [] = X:=fun X=>by rw [List.getD_eq_getElem?_getD,List.getElem?_set_self (by rw [List.length_map]; omega)]; rfl
               have hgo : ∀ X,(((swL l k).map mtR).set k X)[k]? = some X:=fun X=>List.getElem?_set_self (by rw [List.length_map]; omega)
               repeat refine zq ?_
               refine awp_dreg2 [(10,some 46),(11,none),(12,none)] follows (by decide +kernel) (by kernel_rfl) (by simp only [keysOk,List.mem_cons,List.not_mem_nil,forall_eq_or_imp,Oc.keyOf,go_sem]; simp) fun K hK=>?_
               simp only [go_sem,hswl,hsm,hgd,hgo,List.length_set];(try simp (disch:=omega) only [zI]);repeat first | intro _ | refine ⟨by omega,?_⟩
               refine hK _ ?_;clear hK K
               have hss : (((swL l k).map mtR).set k [i64 m.a,i64 m.a,.bo m.p,i64 m.f,i64 m.g]).set k [i64 m.a,i64 m.h,.bo m.p,i64 m.f,i64 m.g] = (swL l (k + 1)).map mtR:=by
                rw [List.set_set,← swL_set hm,List.map_set]; rfl
               rw [hss]
               refine zw (zk [4,10,39,40,41,47,48,49]) ?_;simp only [go_sem]
               repeat refine zq ?_
               refine zb fun K hK=>?_;simp only [go_sem];(try simp (disch:=omega) only [zI]);repeat first | intro _ | refine ⟨by omega,?_⟩
               refine hK _ ?_;clear hK K
               try simp only [go_sem]
               refine ⟨by omega,zj [] ?_ ?_⟩
               · try simp only [go_sem]
               · try simp only [go_sem]
             · have hkl : k = l.length:=by omega
               subst hkl
               rw [swL_full]
               refine zf ?_;simp only [go_sem];refine zw (sub_frz 10 46 (by omega) rfl rfl (by simp [backV])) ?_
               have htb : List.take l.length (List.drop 0 ((backV l).map mtR)) = (backV l).map mtR:=by rw [List.drop_zero]; exact List.take_of_length_le (by simp [backV])
               rw [htb]
               refine zw (zk [4,10,39,40,41]) ?_;simp only [go_sem]
               have hlA : (H ++ (H.take i).map backV).length = H.length + i:=by rw [List.length_append,List.length_map,List.length_take]; omega
               have htn : (H ++ (H.take (i + 1)).map backV).map (fun l=>[mtsR l]) = (H ++ (H.take i).map backV).map (fun l=>[mtsR l]) ++ [[.sl 5 ((backV l).map mtR)]]:=by
                rw [take_of_opt hl,List.map_append (f:=backV),← List.append_assoc,List.map_append]; rfl
               repeat refine zq ?_
               refine zb fun K hK=>?_;simp only [go_sem,hlA];(try simp (disch:=omega) only [zI]);repeat first | intro _ | refine ⟨by omega,?_⟩
               refine hK _ ?_;clear hK K;refine zw (zk [4,39,40,41]) ?_;simp only [go_sem]
               repeat refine zq ?_
               refine zb fun K hK=>?_;simp only [go_sem];(try simp (disch:=omega) only [zI]);repeat first | intro _ | refine ⟨by omega,?_⟩
               refine hK _ ?_;clear hK K
               try simp only [go_sem]
               refine ⟨by omega,zj [] ?_ ?_⟩
               · try simp only [go_sem]
                 rfl
               · try simp only [go_sem]
                 rw [htn]
         · have hie : i = H.length:=by omega
           subst hie
           rw [List.take_length]
           refine zf ?_;simp only [go_sem]
           repeat refine zq ?_
           refine zb fun K hK=>?_;simp only [go_sem];(try simp (disch:=omega) only [zI]);repeat first | intro _ | refine ⟨by omega,?_⟩
           refine hK _ ?_;clear hK K;refine zw (sub_frz 4 33 (by omega) rfl rfl (by simp)) ?_;refine zw (zk [4,5]) ?_;simp only [go_sem];refine ze ?_;simp only [go_sem];exact List.take_of_length_le (by simp)
theorem indexE_ok (v : Int) (l : List Int) : ACalls Try.prog 87 [ints l,i64 v] (i64 (indexF (fun x=>v == x) l)):=by
 obtain ⟨p,hp⟩ : ∃ p,p = fun x : Int=>v == x:=⟨_,rfl⟩
 have hpx : ∀ x,(v == x) = p x:=fun x=>by rw [hp]
 rw [← hp]
 refine acalls_st (rs:=[i64 (indexF p l)]) [.tmp 4] Try.func87 rfl (by kernel_rfl) Try.ntmps87 rfl (by simp) rfl fun C vs=>?_
 repeat refine zq ?_
 refine zb fun K hK=>?_;simp only [go_sem];(try simp (disch:=omega) only [zI]);repeat first | intro _ | refine ⟨by omega,?_⟩
 refine hK _ ?_;clear hK K
 repeat refine zq ?_
 refine zb fun K hK=>?_;simp only [go_sem];(try simp (disch:=omega) only [zI])
 intro hl
 repeat first | intro _ | refine ⟨by omega,?_⟩
 refine hK _ ?_;clear hK K
 repeat refine zq ?_
 refine zd ?_
 refine awp_upto (n:=19) l.length (fun i vs=>[(0,.r (ints l)),(1,.r (i64 v)),(7,.r (i64 l.length)),(8,.r (i64 i))]) (fun _=>[])
  (fun i=>indexF p l = if indexF p (l.drop i) < 0 then -1 else i + indexF p (l.drop i)) 0 (fit_of [] ?_ rfl) (Nat.zero_le _) ?_ ?_
 · try simp only [go_sem]
 · simp only [List.drop_zero]
   have:=indexF_ge p l
   split
   · omega
   · simp
 · intro i vs hi hI
   repeat refine zq ?_
   refine zb fun K hK=>?_;simp only [go_sem];(try simp (disch:=omega) only [zI]);repeat first | intro _ | refine ⟨by omega,?_⟩
   refine hK _ ?_;clear hK K
   repeat refine zq ?_
   refine zc rfl (fun hc=>?_) (fun hc=>?_) <;> (try simp only [go_sem] at hc)
   · obtain ⟨x,hx⟩:=opt_of_lt hc
     rw [drop_of_opt hx] at hI
     refine zx ?_
     repeat refine zq ?_
     refine zd ?_
     repeat refine zq ?_
     refine zb fun K hK=>?_;simp only [go_sem];(try simp (disch:=omega) only [zI]);repeat first | intro _ | refine ⟨by omega,?_⟩
     refine hK _ ?_;clear hK K
     repeat refine zq ?_
     refine zb fun K hK=>?_;simp only [go_sem,hx,hc,hpx];(try simp (disch:=omega) only [zI]);repeat first | intro _ | refine ⟨by omega,?_⟩
     refine hK _ ?_;clear hK K
     repeat refine zq ?_
     refine zc rfl (fun hc=>?_) (fun hc=>?_) <;> (try simp only [go_sem] at hc)
     · repeat refine zq ?_
       refine zb fun K hK=>?_;simp only [go_sem];(try simp (disch:=omega) only [zI]);repeat first | intro _ | refine ⟨by omega,?_⟩
       refine hK _ ?_;clear hK K;refine ze ?_;simp only [go_sem]
       simp [hI,indexF,hc]
     · refine zx ?_
       try simp only [go_sem]
       repeat refine zq ?_
       refine zb fun K hK=>?_;simp only [go_sem];(try simp (disch:=omega) only [zI]);repeat first | intro _ | refine ⟨by omega,?_⟩
       refine hK _ ?_;clear hK K
       try simp only [go_sem]
       refine ⟨‹_›,?_,fit_of [] ?_ rfl⟩
       · rw [hI]
         simp only [indexF,hc,Bool.false_eq_true,if_false]
         have:=indexF_ge p (l.drop (i + 1))
         (repeat' split) <;> omega
       · try simp only [go_sem]
   · refine zf ?_;simp only [go_sem]
     repeat refine zq ?_
     refine zb fun K hK=>?_;simp only [go_sem];(try simp (disch:=omega) only [zI]);repeat first | intro _ | refine ⟨by omega,?_⟩
     refine hK _ ?_;clear hK K;refine ze ?_;simp only [go_sem]
     have : l.drop i = []:=List.drop_eq_nil_of_le (by omega)
     simp [hI,this,indexF]
theorem containsE_ok (v : Int) (l : List Int) : ACalls Try.prog 53 [ints l,i64 v] (.bo (l.contains v)):=by
 have hx : decide (indexF (fun x=>v == x) l ≥ 0) = l.contains v:=by
  rw [indexF_any]
  induction l with
  | nil=>rfl
  | cons x l ih=>rw [List.any_cons,List.contains_cons,ih]
 refine acalls_st (rs:=[.bo (l.contains v)]) [.tmp 4] Try.func53 rfl (by kernel_rfl) Try.ntmps53 rfl (by simp) rfl fun C vs=>?_
 repeat refine zq ?_
 refine zb fun K hK=>?_;simp only [go_sem];(try simp (disch:=omega) only [zI]);repeat first | intro _ | refine ⟨by omega,?_⟩
 refine hK _ ?_;clear hK K
 repeat refine zq ?_
 refine zb fun K hK=>?_;simp only [go_sem];(try simp (disch:=omega) only [zI])
 refine zh (indexE_ok v l) rfl (by simp only [go_sem,i64,ints]) (by simp only [go_sem,i64,ints]) (by first | exact .inl rfl | exact .inr rfl) ?_
 (try simp only [go_sem]);(try simp (disch:=omega) only [zI]);repeat first | intro _ | refine ⟨by omega,?_⟩
 refine hK _ ?_;clear hK K;refine ze ?_;simp only [go_sem];exact hx
def minFrom (a : Int) (l : List Int) : Int:=l.foldl min a
theorem min_ok (a : Int) (l : List Int) (hl : l.length ≤ 1000) : ACalls Try.prog 54 [ints (a :: l)] (i64 (minFrom a l)):=by
 have hd : decide (((l.length : Int) + 1) < 1) = false:=by simp; omega
 refine acalls_st (rs:=[i64 (minFrom a l)]) [.tmp 2] Try.func54 rfl (by kernel_rfl) Try.ntmps54 rfl (by simp) rfl fun C vs=>?_
 repeat refine zq ?_
 refine zb fun K hK=>?_;simp only [go_sem];(try simp (disch:=omega) only [zI]);repeat first | intro _ | refine ⟨by omega,?_⟩
 refine hK _ ?_;clear hK K
 repeat refine zq ?_
 refine zb fun K hK=>?_;simp only [go_sem,List.length_cons,hd];(try simp (disch:=omega) only [zI]);repeat first | intro _ | refine ⟨by omega,?_⟩
 refine hK _ ?_;clear hK K;refine zw (zk [0,7]) ?_;simp only [go_sem]
 repeat refine zq ?_
 refine zc rfl (fun hc=>?_) (fun hc=>?_) <;> (try simp only [go_sem] at hc)
 refine zx ?_
 try simp only [go_sem]
 repeat refine zq ?_
 refine zb fun K hK=>?_;simp only [go_sem];(try simp (disch:=omega) only [zI]);repeat first | intro _ | refine ⟨by omega,?_⟩
 refine hK _ ?_;clear hK K;refine zw (zk [0,3]) ?_;simp only [go_sem]
 repeat refine zq ?_
 refine zb fun K hK=>?_;simp only [go_sem];(try simp (disch:=omega) only [zI]);repeat first | intro _ | refine ⟨by omega,?_⟩
 refine hK _ ?_;clear hK K;refine zw (zk [0,3,4]) ?_;simp only [go_sem]
 repeat refine zq ?_
 refine zd ?_
 refine awp_upto (n:=25) l.length (fun i vs=>[(0,.r (ints (a :: l))),(3,.r (i64 (minFrom a (l.take i)))),(4,.r (i64 ((i + 1 : Nat) : Int)))]) (fun _=>[])
  (fun i=>True) 0 (fit_of [] ?_ rfl) (Nat.zero_le _) trivial ?_
 · try simp only [go_sem]
   try rfl
 · intro i vs hi hI
   repeat refine zq ?_
   refine zb fun K hK=>?_;simp only [go_sem,List.length_cons];(try simp (disch:=omega) only [zI]);repeat first | intro _ | refine ⟨by omega,?_⟩
   refine hK _ ?_;clear hK K;refine zw (zk [0,3,4,15]) ?_;simp only [go_sem]
   repeat refine zq ?_
   refine zc rfl (fun hc=>?_) (fun hc=>?_) <;> (try simp only [go_sem] at hc)
   · have hil : i < l.length:=by omega
     obtain ⟨x,hx⟩:=opt_of_lt hil
     have hx1 : (a :: l)[i + 1]? = some x:=by simpa using hx
     have hl1 : i + 1 < (a :: l).length:=by simp; omega
     have hmf : minFrom a (l.take (i + 1)) = min (minFrom a (l.take i)) x:=by unfold minFrom; rw [take_of_opt hx,List.foldl_append]; rfl
     refine zx ?_
     try simp only [go_sem]
     repeat refine zq ?_
     refine zd ?_
     repeat refine zq ?_
     refine zb fun K hK=>?_;simp only [go_sem,hx1,hx];(try simp (disch:=omega) only [zI]);repeat first | intro _ | refine ⟨by omega,?_⟩
     refine hK _ ?_;clear hK K;refine zw (zk [0,3,4]) ?_;simp only [go_sem]
     repeat refine zq ?_
     refine zb fun K hK=>?_;simp only [go_sem];(try simp (disch:=omega) only [zI]);repeat first | intro _ | refine ⟨by omega,?_⟩
     refine hK _ ?_;clear hK K
     try simp only [go_sem]
     refine ⟨by omega,fit_of [] ?_ rfl⟩
     try simp only [go_sem]
     rw [hmf]
     try rfl
   · have hil : i = l.length:=by omega
     subst hil
     rw [List.take_length]
     refine zf ?_;simp only [go_sem]
     repeat refine zq ?_
     refine zb fun K hK=>?_;simp only [go_sem];(try simp (disch:=omega) only [zI]);repeat first | intro _ | refine ⟨by omega,?_⟩
     refine hK _ ?_;clear hK K;refine ze ?_;simp only [go_sem]
abbrev boolsR (l : List Bool) : RV:=.sl 1 (l.map fun b=>[.bo b])
abbrev prR (p : Int × Int) : List RV:=[i64 p.1,i64 p.2]
abbrev BrT:=List (Int × Int) × List Int × List Bool
def prV (now : List Int) (i : Nat) : Int × Int:=(now.getD i 0,now.getD (now.length - 1 - i) 0)
def brS (now : List Int) (s : BrT) (i : Nat) : BrT:=match s.2.2 with
 | []=>(s.1 ++ [prV now i],s.2.1,[])
 | w :: ws=>(s.1 ++ [prV now i],s.2.1 ++ [bif w then (prV now i).1 else (prV now i).2],ws)
def brR (now : List Int) (pairs : List (Int × Int)) (wins : List Bool) (i : Nat) : BrT:=(List.range i).foldl (brS now) (pairs,[],wins)
theorem brR_succ (now : List Int) (pairs : List (Int × Int)) (wins : List Bool) (i : Nat) : brR now pairs wins (i + 1) = brS now (brR now pairs wins i) i:=by simp [brR,List.range_succ]
def brV : Nat → List Int → List (Int × Int) → List Bool → List (Int × Int) × Int
 | 0,now,pairs,_=>(pairs,now.getD 0 0)
 | k + 1, now, pairs, wins =>
   if (brR now pairs wins (now.length / 2)).2.1.length < now.length / 2 then ((brR now pairs wins (now.length / 2)).1,-1)
   else brV k (brR now pairs wins (now.length / 2)).2.1 (brR now pairs wins (now.length / 2)).1 (brR now pairs wins (now.length / 2)).2.2
def seenL (l : List Int) : List Int:=l.foldl insK []
theorem seenL_snoc (l : List Int) (x : Int) : seenL (l ++ [x]) = insK (seenL l) x:=by simp [seenL]
theorem seenL_le (l : List Int) : (seenL l).length ≤ l.length:=by
 induction l using snoc_ind with
 | h0=>simp [seenL]
 | h1 l a ih =>
   rw [seenL_snoc]; unfold insK
   split
   · simp; omega
   · simp; omega
def minV (l : List Int) : Int:=match l with | []=>0 | a :: l=>minFrom a l
def brErr (teams : List Int) (wins : List Bool) : Int :=
 if ¬ ([2,4,8] : List Int).contains teams.length then 4 else if minV teams < 0 then 2 else if (seenL teams).length < teams.length then 6 else if teams.length ≤ wins.length then 5 else 0
def brLog (n : Nat) : Nat:=if n = 2 then 1 else if n = 4 then 2 else 3
def bracketV (teams : List Int) (wins : List Bool) : List (Int × Int) × Int:=brV (brLog teams.length) teams [] wins
theorem brR_len (now : List Int) (pairs : List (Int × Int)) (wins : List Bool) : ∀ i,(brR now pairs wins i).1.length = pairs.length + i ∧ (brR now pairs wins i).2.1.length ≤ i ∧ (brR now pairs wins i).2.2.length ≤ wins.length
 | 0=>by simp [brR]
 | i + 1 => by
   obtain ⟨h1,h2,h3⟩:=brR_len now pairs wins i
   rw [brR_succ]
   unfold brS
   split
   · refine ⟨by simp only [List.length_append,List.length_cons,List.length_nil]; omega,by simp only; omega,by simp⟩
   · rename_i w ws e
     rw [e] at h3
     simp only [List.length_cons] at h3
     refine ⟨by simp only [List.length_append,List.length_cons,List.length_nil]; omega,by simp only [List.length_append,List.length_cons,List.length_nil]; omega,by simp only; omega⟩
theorem Bracket_ok (teams : List Int) (wins : List Bool) (ht : teams.length ≤ 100) (hw : wins.length ≤ 100) :
 ACalls Try.prog 16 [ints teams,boolsR wins] (.tu [if brErr teams wins = 0 then .sl 2 ((bracketV teams wins).1.map prR) else .ns,i64 (if brErr teams wins = 0 then (bracketV teams wins).2 else 0),i64 (brErr teams wins)]):=by
 have hce:=containsE_ok (teams.length : Int) [2,4,8]
 have hsl:=seenL_le teams
 refine acalls_stR (rs:=[if brErr teams wins = 0 then .sl 2 ((bracketV teams wins).1.map prR) else .ns,i64 (if brErr teams wins = 0 then (bracketV teams wins).2 else 0),i64 (brErr teams wins)]) [.tmp 4,.tmp 5,.tmp 6] Try.func16 rfl (by kernel_rfl) Try.ntmps16 rfl (by simp) rfl fun C hC vs=>?_
 repeat refine zq ?_
 refine zb fun K hK=>?_;simp only [go_sem];(try simp (disch:=omega) only [zI]);repeat first | intro _ | refine ⟨by omega,?_⟩
 refine hK _ ?_;clear hK K;refine zw (zk [0,1,4]) ?_;simp only [go_sem]
 repeat refine zq ?_
 refine zb fun K hK=>?_;simp only [go_sem];(try simp (disch:=omega) only [zI]);repeat first | intro _ | refine ⟨by omega,?_⟩
 refine hK _ ?_;clear hK K;refine zw (zk [0,1,4,7]) ?_;simp only [go_sem]
 repeat refine zq ?_
 refine zb fun K hK=>?_;simp only [go_sem];(try simp (disch:=omega) only [zI]);repeat first | intro _ | refine ⟨by omega,?_⟩
 refine hK _ ?_;clear hK K;refine zw (zk [0,1,4,7,15,16,17]) ?_;simp only [go_sem]
 repeat refine zq ?_
 refine zd ?_
 refine awp_uptoV (n:=106) teams.length (fun i vs=>[(0,.r (ints teams)),(1,.r (boolsR wins)),(4,.r .ns),(7,.mp 14 (vs 14)),(15,.r (ints teams)),(16,.r (i64 (teams.length : Int))),(17,.r (i64 (i : Int)))])
  (fun i vs=>[(14,.mp ((seenL (teams.take i)).map encB))]) (fun _=>True) 0 (zj [] ?_ ?_) (Nat.zero_le _) trivial ?_
 · try simp only [go_sem]
 · try simp only [go_sem]
   try rfl
 · intro i vs hi _
   repeat refine zq ?_
   refine zb fun K hK=>?_;simp only [go_sem];(try simp (disch:=omega) only [zI]);repeat first | intro _ | refine ⟨by omega,?_⟩
   refine hK _ ?_;clear hK K;refine zw (zk [0,1,4,7,15,16,17,18]) ?_;simp only [go_sem]
   repeat refine zq ?_
   refine zc rfl (fun hc=>?_) (fun hc=>?_) <;> (try simp only [go_sem] at hc)
   · have hil : i < teams.length:=by omega
     obtain ⟨w,hx⟩:=opt_of_lt hil
     have hcs : seenL (teams.take (i + 1)) = insK (seenL (teams.take i)) w:=by rw [take_of_opt hx,seenL_snoc]
     refine zx ?_
     try simp only [go_sem]
     repeat refine zq ?_
     refine zd ?_
     repeat refine zq ?_
     refine zb fun K hK=>?_;simp only [go_sem,hx];(try simp (disch:=omega) only [zI]);repeat first | intro _ | refine ⟨by omega,?_⟩
     refine hK _ ?_;clear hK K;refine zw (zk [0,1,4,7,9,15,16,17]) ?_;simp only [go_sem]
     repeat refine zq ?_
     refine awp_joinV (n:=106) (fun (_ : Unit) vs=>[(0,.r (ints teams)),(1,.r (boolsR wins)),(4,.r .ns),(7,.mp 14 (vs 14)),(15,.r (ints teams)),(16,.r (i64 (teams.length : Int))),(17,.r (i64 (i : Int)))])
      (fun _ vs=>[(14,.mp ((seenL (teams.take (i + 1))).map encB))]) (fun _=>True) (fun _ h=>h) ?_ ?_
     · by_cases hm : w ∈ seenL (teams.take i)
       · obtain ⟨j,hj,hjw⟩:=findB_old 0 hm
         rw [Nat.zero_add] at hj
         have hset : (List.map encB (seenL (teams.take i))).set j (i64 w,RV.bo true) = List.map encB (seenL (teams.take i)):=by
          refine List.ext_getElem? fun q=>?_
          by_cases e : q = j
          · subst e
            have hl:=(List.getElem?_eq_some_iff.1 hjw).1
            rw [List.getElem?_set_self (by simpa using hl),List.getElem?_map,hjw]; rfl
          · rw [List.getElem?_set_ne (fun e'=>e e'.symm)]
         have hins : seenL (teams.take (i + 1)) = seenL (teams.take i):=by rw [hcs]; unfold insK; rw [if_pos hm]
         rw [hins]
         repeat refine zq ?_
         refine zb fun K hK=>?_;simp only [go_sem,hj,Option.map_some];(try simp (disch:=omega) only [zI]);repeat first | intro _ | refine ⟨by omega,?_⟩
         refine hK _ ?_;clear hK K
         refine ⟨(),trivial,zj [] ?_ ?_⟩
         · try simp only [go_sem]
         · try simp only [go_sem]
           rw [hset]
       · have hj:=findB_new 0 hm
         have hins : seenL (teams.take (i + 1)) = seenL (teams.take i) ++ [w]:=by rw [hcs]; unfold insK; rw [if_neg hm]
         rw [hins]
         repeat refine zq ?_
         refine zb fun K hK=>?_;simp only [go_sem,hj];(try simp (disch:=omega) only [zI]);repeat first | intro _ | refine ⟨by omega,?_⟩
         refine hK _ ?_;clear hK K
         refine ⟨(),trivial,zj [] ?_ ?_⟩
         · try simp only [go_sem]
         · try simp only [go_sem]
           rw [List.map_append]
           rfl
     intro _ vs _
     repeat refine zq ?_
     refine zb fun K hK=>?_;simp only [go_sem];(try simp (disch:=omega) only [zI]);repeat first | intro _ | refine ⟨by omega,?_⟩
     refine hK _ ?_;clear hK K
     try simp only [go_sem]
     refine ⟨by omega,zj [] ?_ ?_⟩
     · try simp only [go_sem]
     · try simp only [go_sem]
   · have hil : i = teams.length:=by omega
     subst hil
     rw [List.take_length]
     refine zf ?_;simp only [go_sem]
     repeat refine zq ?_
     refine zd ?_
     repeat refine zq ?_
     refine zb fun K hK=>?_;simp only [go_sem];(try simp (disch:=omega) only [zI]);repeat first | intro _ | refine ⟨by omega,?_⟩
     refine zh (hce) rfl (by simp only [go_sem,i64,ints]) (by simp only [go_sem,i64,ints]) (by first | exact .inl rfl | exact .inr rfl) ?_
     (try simp only [go_sem]);(try simp (disch:=omega) only [zI]);repeat first | intro _ | refine ⟨by omega,?_⟩
     refine hK _ ?_;clear hK K;refine zw (zk [0,1,4,7,24]) ?_;simp only [go_sem]
     repeat refine zq ?_
     refine zc rfl (fun hc=>?_) (fun hc=>?_) <;> (try simp only [go_sem] at hc)
     · have hc' : ¬ ([2,4,8] : List Int).contains teams.length:=by simpa using hc
       have he : brErr teams wins = 4:=by unfold brErr; rw [if_pos hc']
       rw [he,if_neg (by decide),if_neg (by decide)]
       repeat refine zq ?_
       refine zb fun K hK=>?_;simp only [go_sem];(try simp (disch:=omega) only [zI]);repeat first | intro _ | refine ⟨by omega,?_⟩
       refine hK _ ?_;clear hK K;refine zw (zk [4,5,6]) ?_;simp only [go_sem];refine ze ?_;simp only [go_sem]
     have hc1 : ([2,4,8] : List Int).contains teams.length = true:=by
      have h2 : (!([2,4,8] : List Int).contains teams.length) = false:=by simpa only [List.contains_cons,List.contains_nil,Bool.or_false] using hc
      revert h2
      cases ([2,4,8] : List Int).contains teams.length <;> simp
     have hlen : teams.length = 2 ∨ teams.length = 4 ∨ teams.length = 8:=by
      simp only [List.contains_cons,List.contains_nil,Bool.or_false,Bool.or_eq_true,beq_iff_eq] at hc1
      omega
     obtain ⟨a0,l0,hal⟩ : ∃ a l,teams = a :: l:=by
      cases teams with
      | nil=>simp at hlen
      | cons a l=>exact ⟨a,l,rfl⟩
     have hmi : ACalls Try.prog 54 [ints teams] (i64 (minV teams)):=by
      rw [hal]; exact min_ok a0 l0 (by rw [hal] at ht; simp at ht; omega)
     repeat refine zq ?_
     refine zb fun K hK=>?_;simp only [go_sem];(try simp (disch:=omega) only [zI])
     refine zh (hmi) rfl (by simp only [go_sem,i64,ints]) (by simp only [go_sem,i64,ints]) (by first | exact .inl rfl | exact .inr rfl) ?_
     (try simp only [go_sem]);(try simp (disch:=omega) only [zI]);repeat first | intro _ | refine ⟨by omega,?_⟩
     refine hK _ ?_;clear hK K;refine zw (zk [0,1,4,7,30]) ?_;simp only [go_sem]
     repeat refine zq ?_
     refine zc rfl (fun hc=>?_) (fun hc=>?_) <;> (try simp only [go_sem] at hc)
     · have hc' : minV teams < 0:=by simpa using hc
       have he : brErr teams wins = 2:=by unfold brErr; rw [if_neg (not_not_intro hc1),if_pos hc']
       rw [he,if_neg (by decide),if_neg (by decide)]
       repeat refine zq ?_
       refine zb fun K hK=>?_;simp only [go_sem];(try simp (disch:=omega) only [zI]);repeat first | intro _ | refine ⟨by omega,?_⟩
       refine hK _ ?_;clear hK K;refine zw (zk [4,5,6]) ?_;simp only [go_sem];refine ze ?_;simp only [go_sem]
     have hc2 : ¬ minV teams < 0:=by simpa using hc
     repeat refine zq ?_
     refine zb fun K hK=>?_;simp only [go_sem];(try simp (disch:=omega) only [zI]);repeat first | intro _ | refine ⟨by omega,?_⟩
     refine hK _ ?_;clear hK K;refine zw (zk [0,1,4,7,34]) ?_;simp only [go_sem]
     repeat refine zq ?_
     refine zc rfl (fun hc=>?_) (fun hc=>?_) <;> (try simp only [go_sem] at hc)
     · have hc' : (seenL teams).length < teams.length:=by simpa using hc
       have he : brErr teams wins = 6:=by unfold brErr; rw [if_neg (not_not_intro hc1),if_neg hc2,if_pos hc']
       rw [he,if_neg (by decide),if_neg (by decide)]
       repeat refine zq ?_
       refine zb fun K hK=>?_;simp only [go_sem];(try simp (disch:=omega) only [zI]);repeat first | intro _ | refine ⟨by omega,?_⟩
       refine hK _ ?_;clear hK K;refine zw (zk [4,5,6]) ?_;simp only [go_sem];refine ze ?_;simp only [go_sem]
     have hc3 : ¬ (seenL teams).length < teams.length:=by simpa using hc
     repeat refine zq ?_
     refine zb fun K hK=>?_;simp only [go_sem];(try simp (disch:=omega) only [zI]);repeat first | intro _ | refine ⟨by omega,?_⟩
     refine hK _ ?_;clear hK K;refine zw (zk [0,1,4,40]) ?_;simp only [go_sem]
     repeat refine zq ?_
     refine zc rfl (fun hc=>?_) (fun hc=>?_) <;> (try simp only [go_sem] at hc)
     · have hc' : teams.length ≤ wins.length:=by simpa using hc
       have he : brErr teams wins = 5:=by unfold brErr; rw [if_neg (not_not_intro hc1),if_neg hc2,if_neg hc3,if_pos hc']
       rw [he,if_neg (by decide),if_neg (by decide)]
       repeat refine zq ?_
       refine zb fun K hK=>?_;simp only [go_sem];(try simp (disch:=omega) only [zI]);repeat first | intro _ | refine ⟨by omega,?_⟩
       refine hK _ ?_;clear hK K;refine zw (zk [4,5,6]) ?_;simp only [go_sem];refine ze ?_;simp only [go_sem]
     have hc4 : ¬ teams.length ≤ wins.length:=by simpa using hc
     have he : brErr teams wins = 0:=by unfold brErr; rw [if_neg (not_not_intro hc1),if_neg hc2,if_neg hc3,if_neg hc4]
     rw [he,if_pos rfl,if_pos rfl]
     refine zx ?_
     try simp only [go_sem]
     repeat refine zq ?_
     refine zb fun K hK=>?_;simp only [go_sem];(try simp (disch:=omega) only [zI]);repeat first | intro _ | refine ⟨by omega,?_⟩
     refine hK _ ?_;clear hK K;refine zw (sub_own 4 72 31 2 (by omega) rfl) ?_;refine zw (zk [1,4,10]) ?_;simp only [go_sem]
     repeat refine zq ?_
     refine zd ?_
     have hst : teams.length = 2 ^ brLog teams.length:=by unfold brLog; rcases hlen with h | h | h <;> rw [h] <;> rfl
     have hbv : bracketV teams wins = brV (brLog teams.length) teams [] wins:=rfl
     rw [hbv]
     have hl3 : brLog teams.length ≤ 3:=by unfold brLog; split <;> (try split) <;> omega
     generalize brLog teams.length = k0 at *
     refine awp_whileV (n:=106) (fun (y : Nat × List Int × List (Int × Int) × List Bool) vs=>[(1,.r (boolsR y.2.2.2)),(4,.os 72 (vs 72) 2 0 y.2.2.1.length),(10,.r (ints y.2.1))])
      (fun y vs=>[(72,.arr 31 2 (y.2.2.1.map prR))])
      (fun y=>y.2.1.length = 2 ^ y.1 ∧ y.1 ≤ 3 ∧ y.2.2.2.length ≤ 100 ∧ y.2.2.1.length + y.2.1.length ≤ 8 ∧ brV y.1 y.2.1 y.2.2.1 y.2.2.2 = brV k0 teams [] wins) (fun y=>y.1) (k0,teams,[],wins) (zj [14] ?_ ?_) ⟨hst,hl3,hw,by simp; omega,rfl⟩ ?_
     · try simp only [go_sem]
       try rfl
     · try simp only [go_sem]
       try rfl
     · rintro ⟨k,now,pairs,wi⟩ vs ⟨hk1,hk2,hk3,hk4,hk5⟩
       simp only at hk1 hk2 hk3 hk4 hk5
       rw [← hk5]
       clear hk5
       repeat refine zq ?_
       refine zb fun K hK=>?_;simp only [go_sem];(try simp (disch:=omega) only [zI]);repeat first | intro _ | refine ⟨by omega,?_⟩
       refine hK _ ?_;clear hK K;refine zw (zk [1,4,10,49]) ?_;simp only [go_sem]
       cases k with
       | zero =>
         have h1 : now.length = 1:=hk1
         obtain ⟨x,hx⟩ : ∃ x,now = [x]:=List.length_eq_one_iff.1 h1
         subst hx
         repeat refine zq ?_
         refine zc rfl (fun hc=>?_) (fun hc=>?_) <;> (try simp only [go_sem] at hc)
         refine zw (sub_frz 4 72 (by omega) rfl rfl (by simp)) ?_
         have htp : List.take pairs.length (List.drop 0 (pairs.map prR)) = pairs.map prR:=by rw [List.drop_zero]; exact List.take_of_length_le (by rw [List.length_map]; exact Nat.le_refl _)
         rw [htp]
         refine zf ?_;simp only [go_sem]
         repeat refine zq ?_
         refine awp_dreg2 [(4,none),(10,none)] follows (by decide +kernel) (by kernel_rfl) (by simp only [keysOk,List.mem_cons,List.not_mem_nil,forall_eq_or_imp,Oc.keyOf,go_sem]; simp) fun K hK=>?_
         simp only [go_sem];(try simp (disch:=omega) only [zI]);repeat first | intro _ | refine ⟨by omega,?_⟩
         refine hK _ ?_;clear hK K;refine zw (zk [4,5,6]) ?_;simp only [go_sem];refine ze ?_;simp only [go_sem];exact ⟨rfl,rfl⟩
       | succ k =>
         have hhalf : now.length / 2 = 2 ^ k:=by rw [hk1,Nat.pow_succ,Nat.mul_div_cancel _ (by omega)]
         have hpos : 0 < 2 ^ k:=Nat.pos_of_ne_zero (by simp)
         have hnow : now.length = 2 ^ k + 2 ^ k:=by rw [hk1,Nat.pow_succ]; omega
         have htd : Int.tdiv (now.length : Int) 2 = ((now.length / 2 : Nat) : Int):=rfl
         repeat refine zq ?_
         refine zc rfl (fun hc=>?_) (fun hc=>?_) <;> (try simp only [go_sem] at hc)
         · refine zx ?_
           try simp only [go_sem]
           repeat refine zq ?_
           refine zd ?_
           repeat refine zq ?_
           refine zb fun K hK=>?_;simp only [go_sem];(try simp (disch:=omega) only [zI]);repeat first | intro _ | refine ⟨by omega,?_⟩
           refine hK _ ?_;clear hK K;refine zw (sub_own 11 90 3 1 (by omega) rfl) ?_;refine zw (zk [1,4,10,11]) ?_;simp only [go_sem]
           repeat refine zq ?_
           refine zb fun K hK=>?_;simp only [go_sem,htd];(try simp (disch:=omega) only [zI]);repeat first | intro _ | refine ⟨by omega,?_⟩
           refine hK _ ?_;clear hK K;refine zw (zk [1,4,10,11,52,53]) ?_;simp only [go_sem]
           repeat refine zq ?_
           refine zd ?_
           have hbs : brV (k + 1) now pairs wi = if (brR now pairs wi (now.length / 2)).2.1.length < now.length / 2 then ((brR now pairs wi (now.length / 2)).1,-1) else brV k (brR now pairs wi (now.length / 2)).2.1 (brR now pairs wi (now.length / 2)).1 (brR now pairs wi (now.length / 2)).2.2:=rfl
           rw [hbs]
           refine awp_uptoV (n:=106) (now.length / 2) (fun i vs=>[(1,.r (boolsR (brR now pairs wi i).2.2)),(4,.os 72 (vs 72) 2 0 (brR now pairs wi i).1.length),(10,.r (ints now)),(11,.os 90 (vs 90) 1 0 (brR now pairs wi i).2.1.length),(52,.r (i64 ((now.length / 2 : Nat) : Int))),(53,.r (i64 (i : Int)))])
            (fun i vs=>[(72,.arr 31 2 ((brR now pairs wi i).1.map prR)),(90,.arr 3 1 ((brR now pairs wi i).2.1.map fun x=>[i64 x]))]) (fun _=>True) 0 (zj [] ?_ ?_) (Nat.zero_le _) trivial ?_
           · try simp only [go_sem]
             exact ⟨rfl,rfl,rfl⟩
           · try simp only [go_sem]
             rfl
           · intro i vs hi _
             obtain ⟨b1,b2,b3⟩:=brR_len now pairs wi i
             have hsu:=brR_succ now pairs wi i
             repeat refine zq ?_
             refine zb fun K hK=>?_;simp only [go_sem];(try simp (disch:=omega) only [zI]);repeat first | intro _ | refine ⟨by omega,?_⟩
             refine hK _ ?_;clear hK K;refine zw (zk [1,4,10,11,52,53,54]) ?_;simp only [go_sem]
             repeat refine zq ?_
             refine zc rfl (fun hc=>?_) (fun hc=>?_) <;> (try simp only [go_sem] at hc)
             · have hil : i < now.length / 2:=by omega
               obtain ⟨x,hx⟩:=opt_of_lt (show i < now.length by omega)
               obtain ⟨y,hy⟩:=opt_of_lt (show now.length - 1 - i < now.length by omega)
               have hpv : prV now i = (x,y):=by unfold prV; rw [List.getD_eq_getElem?_getD,hx,List.getD_eq_getElem?_getD,hy]; rfl
               generalize brR now pairs wi i = S at *
               generalize brR now pairs wi (i + 1) = S' at *
               refine zx ?_
               try simp only [go_sem]
               repeat refine zq ?_
               refine zd ?_
               repeat refine zq ?_
               refine zb fun K hK=>?_;simp only [go_sem];(try simp (disch:=omega) only [zI]);repeat first | intro _ | refine ⟨by omega,?_⟩
               refine hK _ ?_;clear hK K;refine zw (zk [1,4,10,11,12,52,53]) ?_;simp only [go_sem]
               have hcast : (now.length : Int) - 1 - (i : Int) = ((now.length - 1 - i : Nat) : Int):=by omega
               obtain ⟨S1,S2,S3⟩:=S
               simp only at b1 b2 b3 ⊢
               have hyN : ((now.length : Int) - 1 - (i : Int)).toNat = now.length - 1 - i:=by omega
               repeat refine zq ?_
               refine awp_dreg2 [(10,none),(12,none)] follows (by decide +kernel) (by kernel_rfl) (by simp only [keysOk,List.mem_cons,List.not_mem_nil,forall_eq_or_imp,Oc.keyOf,go_sem]; simp) fun K hK=>?_
               simp only [go_sem,hx];(try simp (disch:=omega) only [zI]);repeat first | intro _ | refine ⟨by omega,?_⟩
               try simp only [go_sem,hyN,hy]
               repeat first | intro _ | refine ⟨by omega,?_⟩
               refine hK _ ?_;clear hK K;refine zw (zk [1,4,10,11,13,52,53]) ?_;simp only [go_sem]
               repeat refine zq ?_
               refine zb fun K hK=>?_;simp only [go_sem,List.length_map];(try simp (disch:=omega) only [zI]);repeat first | intro _ | refine ⟨by omega,?_⟩
               refine hK _ ?_;clear hK K;refine zw (zk [1,4,10,11,13,52,53]) ?_;simp only [go_sem]
               repeat refine zq ?_
               refine zb fun K hK=>?_;simp only [go_sem];(try simp (disch:=omega) only [zI]);repeat first | intro _ | refine ⟨by omega,?_⟩
               refine hK _ ?_;clear hK K;refine zw (zk [1,4,10,11,13,52,53,75]) ?_;simp only [go_sem]
               cases S3 with
               | nil =>
                 have hS' : S' = (S1 ++ [(x,y)],S2,[]):=by rw [hsu]; simp only [brS,hpv]
                 subst hS'
                 repeat refine zq ?_
                 refine zc rfl (fun hc=>?_) (fun hc=>?_) <;> (try simp only [go_sem] at hc)
                 refine zf ?_;simp only [go_sem]
                 repeat refine zq ?_
                 refine zb fun K hK=>?_;simp only [go_sem];(try simp (disch:=omega) only [zI]);repeat first | intro _ | refine ⟨by omega,?_⟩
                 refine hK _ ?_;clear hK K
                 try simp only [go_sem]
                 refine ⟨by omega,zj [13] ?_ ?_⟩
                 · try simp only [go_sem]
                   simp
                 · try simp only [go_sem]
                   simp
               | cons w ws =>
                 have hS' : S' = (S1 ++ [(x,y)],S2 ++ [bif w then x else y],ws):=by rw [hsu]; simp only [brS,hpv]
                 subst hS'
                 repeat refine zq ?_
                 refine zc rfl (fun hc=>?_) (fun hc=>?_) <;> (try simp only [go_sem] at hc)
                 · exact absurd hc (by omega)
                 refine zx ?_
                 try simp only [go_sem]
                 repeat refine zq ?_
                 refine zb fun K hK=>?_;simp only [go_sem];(try simp (disch:=omega) only [zI]);repeat first | intro _ | refine ⟨by omega,?_⟩
                 refine hK _ ?_;clear hK K;refine zw (zk [1,4,10,11,13,52,53,79]) ?_;simp only [go_sem]
                 repeat refine zq ?_
                 refine awp_joinV (n:=106) (fun (_ : Unit) vs=>[(1,.r (boolsR (w :: ws))),(4,.os 72 (vs 72) 2 0 (S1.length + 1)),(10,.r (ints now)),(11,.os 90 (vs 90) 1 0 S2.length),(13,.pt 13 (vs 13) 0),(52,.r (i64 ((now.length / 2 : Nat) : Int))),(53,.r (i64 (i : Int)))])
                  (fun _ vs=>[(13,.box [.r (i64 (bif w then x else y)),.r (i64 (bif w then y else x))]),(72,.arr 31 2 ((S1 ++ [(x,y)]).map prR)),(90,.arr 3 1 (S2.map fun x=>[i64 x]))]) (fun _=>True) (fun _ h=>h) ?_ ?_
                 · cases w with
                   | true =>
                     repeat refine zq ?_
                     refine zc rfl (fun hc=>?_) (fun hc=>?_) <;> (try simp only [go_sem] at hc)
                     refine zx ?_
                     try simp only [go_sem]
                     refine ⟨(),zj [] ?_ ?_⟩
                     · try simp only [go_sem]
                     · try simp only [go_sem]
                       simp
                   | false =>
                     repeat refine zq ?_
                     refine zc rfl (fun hc=>?_) (fun hc=>?_) <;> (try simp only [go_sem] at hc)
                     repeat refine zq ?_
                     refine zb fun K hK=>?_;simp only [go_sem];(try simp (disch:=omega) only [zI]);repeat first | intro _ | refine ⟨by omega,?_⟩
                     refine hK _ ?_;clear hK K
                     refine ⟨(),trivial,zj [] ?_ ?_⟩
                     · try simp only [go_sem]
                     · try simp only [go_sem]
                       simp
                 intro _ vs _
                 refine zw (sub_frzP 13 13 [i64 (bif w then x else y),i64 (bif w then y else x)] (by omega) rfl rfl) ?_;refine zw (zk [1,4,10,11,13,52,53]) ?_;simp only [go_sem]
                 repeat refine zq ?_
                 refine awp_dreg2 [(1,none),(11,some 90),(13,none)] follows (by decide +kernel) (by kernel_rfl) (by simp only [keysOk,List.mem_cons,List.not_mem_nil,forall_eq_or_imp,Oc.keyOf,go_sem]; simp) fun K hK=>?_
                 simp only [go_sem,List.length_map];(try simp (disch:=omega) only [zI]);repeat first | intro _ | refine ⟨by omega,?_⟩
                 refine hK _ ?_;clear hK K;refine zw (zk [1,4,10,11,52,53]) ?_;simp only [go_sem]
                 repeat refine zq ?_
                 refine zb fun K hK=>?_;simp only [go_sem];(try simp (disch:=omega) only [zI]);repeat first | intro _ | refine ⟨by omega,?_⟩
                 refine hK _ ?_;clear hK K
                 try simp only [go_sem]
                 refine ⟨by omega,zj [] ?_ ?_⟩
                 · try simp only [go_sem]
                   simp
                 · try simp only [go_sem]
                   simp
             · have hil : i = now.length / 2:=by omega
               subst hil
               have hS2 : (brR now pairs wi (now.length / 2)).2.1.length ≤ now.length / 2:=b2
               generalize brR now pairs wi (now.length / 2) = S at *
               obtain ⟨S1,S2,S3⟩:=S
               simp only at b1 b2 b3 hS2 ⊢
               refine zf ?_;simp only [go_sem];refine zw (sub_frz 11 90 (by omega) rfl rfl (by simp)) ?_
               have htp : List.take S2.length (List.drop 0 (S2.map fun x=>[i64 x])) = S2.map fun x=>[i64 x]:=by rw [List.drop_zero]; exact List.take_of_length_le (by rw [List.length_map]; exact Nat.le_refl _)
               rw [htp]
               refine zw (zk [1,4,10,11]) ?_;simp only [go_sem]
               repeat refine zq ?_
               refine zb fun K hK=>?_;simp only [go_sem,htd,List.length_map];(try simp (disch:=omega) only [zI]);repeat first | intro _ | refine ⟨by omega,?_⟩
               refine hK _ ?_;clear hK K;refine zw (zk [1,4,10,11,99]) ?_;simp only [go_sem]
               repeat refine zq ?_
               refine zc rfl (fun hc=>?_) (fun hc=>?_) <;> (try simp only [go_sem] at hc)
               · have hc' : S2.length < now.length / 2:=by omega
                 rw [if_pos hc']
                 refine zw (sub_frz 4 72 (by omega) rfl rfl (by simp)) ?_
                 have htp : List.take S1.length (List.drop 0 (S1.map prR)) = S1.map prR:=by rw [List.drop_zero]; exact List.take_of_length_le (by rw [List.length_map]; exact Nat.le_refl _)
                 rw [htp]
                 repeat refine zq ?_
                 refine zb fun K hK=>?_;simp only [go_sem];(try simp (disch:=omega) only [zI]);repeat first | intro _ | refine ⟨by omega,?_⟩
                 refine hK _ ?_;clear hK K;refine zw (zk [4,5,6]) ?_;simp only [go_sem];refine ze ?_;simp only [go_sem]
                 done
               · have hc' : ¬ S2.length < now.length / 2:=by omega
                 rw [if_neg hc']
                 have hs2 : S2.length = 2 ^ k:=by omega
                 refine zx ?_
                 try simp only [go_sem]
                 repeat refine zq ?_
                 refine zb fun K hK=>?_;simp only [go_sem];(try simp (disch:=omega) only [zI]);repeat first | intro _ | refine ⟨by omega,?_⟩
                 refine hK _ ?_;clear hK K
                 try simp only [go_sem]
                 refine ⟨(k,S2,S1,S3),⟨hs2,by simp only; omega,by simp only; omega,by simp only; omega,rfl⟩,by simp only; omega,zj [] ?_ ?_⟩
                 · try simp only [go_sem]
                 · try simp only [go_sem]
         · exact absurd hc (by simp; omega)
def fourR : Tr:=⟨4,9,2,0,[],1,1⟩
def fourL : List Mt:=[⟨0,1,true,6,3⟩,⟨0,2,true,5,4⟩,⟨2,3,true,7,2⟩,⟨0,3,false,0,0⟩,⟨1,2,false,0,0⟩,⟨1,3,false,0,0⟩]
theorem four_wf : Wf fourR fourL:=⟨by constructor <;> simp [fourR,I64],by intro m hm; simp only [fourL,List.mem_cons,List.not_mem_nil,or_false] at hm; rcases hm with rfl | rfl | rfl | rfl | rfl | rfl <;> constructor <;> simp [I64]⟩
def kTab : List Rw:=sortW (rowsL fourR fourL)
theorem four_chk : checkV fourR fourL = (0,0):=by kernel_rfl
theorem four_err : errV fourR fourL = 0:=by kernel_rfl
theorem kTable : ACalls Try.prog 24 [trV fourR,mtsR fourL] (.tu [rwsR kTab,i64 0,i64 0]):=by
 have:=table_ok fourR fourL four_wf
 rw [four_chk,if_pos rfl] at this
 exact this
theorem kPlaces : ACalls Try.prog 37 [trV fourR,mtsR fourL] (.tu [.sl 2 ((spansL fourR fourL).map spR),i64 0]):=by
 have:=Places_ok fourR fourL four_wf
 rw [four_err,if_pos rfl] at this
 exact this
theorem four_way : wayV fourR fourL 0 1 true = (ints [2,0,0],0):=by kernel_rfl
theorem kWay : ACalls Try.prog 30 [trV fourR,mtsR fourL,i64 0,i64 1,.bo true] (.tu [ints [2,0,0],i64 0]):=by
 have:=Way_ok fourR fourL four_wf 0 1 true
 rw [four_way] at this
 exact this
theorem four_magic : magicV fourR fourL 0 1 = 2:=by kernel_rfl
theorem four_open : openV fourR fourL 0 1 = 0:=by kernel_rfl
theorem kMagic : ACalls Try.prog 31 [trV fourR,mtsR fourL,i64 0,i64 1] (.tu [i64 2,i64 0]):=by
 have:=Magic_ok fourR fourL four_wf 0 1
 rw [four_magic,four_open] at this
 exact this
theorem kRounds : ACalls Try.prog 43 [i64 4,.bo false] (.tu [nightsR (roundsV 4 false),i64 0]):=Rounds_once 4 false ⟨by omega,by omega⟩
theorem k_br : brErr [7,3,5,1] [true,false] = 0:=by kernel_rfl
theorem kBracket : ACalls Try.prog 16 [ints [7,3,5,1],boolsR [true,false]] (.tu [.sl 2 ((bracketV [7,3,5,1] [true,false]).1.map prR),i64 (bracketV [7,3,5,1] [true,false]).2,i64 0]):=by
 have:=Bracket_ok [7,3,5,1] [true,false] (by simp) (by simp)
 rw [k_br,if_pos rfl,if_pos rfl] at this
 exact this
def kOrc : Orc:=[(24,[trV fourR,mtsR fourL],.tu [rwsR kTab,i64 0,i64 0]),(37,[trV fourR,mtsR fourL],.tu [.sl 2 ((spansL fourR fourL).map spR),i64 0]),
 (30,[trV fourR,mtsR fourL,i64 0,i64 1,.bo true],.tu [ints [2,0,0],i64 0]),(31,[trV fourR,mtsR fourL,i64 0,i64 1],.tu [i64 2,i64 0]),
 (43,[i64 4,.bo false],.tu [nightsR (roundsV 4 false),i64 0]),(16,[ints [7,3,5,1],boolsR [true,false]],.tu [.sl 2 ((bracketV [7,3,5,1] [true,false]).1.map prR),i64 (bracketV [7,3,5,1] [true,false]).2,i64 0])]
theorem kOrc_ok : orcOk Try.prog kOrc:=⟨kTable,kPlaces,kWay,kMagic,kRounds,kBracket,trivial⟩
def fsK : List (FuncId × Nat):=[(57,0),(26,0),(56,0)]
theorem fsK_ok : allOk Try.prog fsK = true:=by kernel_rfl
theorem known_ok : ACalls Try.prog 20 [] (.bo true):=evalX_ok follows fsK_ok kOrc_ok (k:=200) (by kernel_rfl) (by kernel_rfl)
set_option maxHeartbeats 4000000
theorem copied_ok (l : List Mt) (hl : l.length ≤ 1000) : ACalls Try.prog 22 [mtsR l] (mtsR l):=by
 refine acalls_st (rs:=[mtsR l]) [.tmp 2] Try.func22 rfl (by kernel_rfl) Try.ntmps22 rfl (by simp) rfl fun C vs=>?_
 repeat refine zq ?_
 refine zb fun K hK=>?_;simp only [go_sem];(try simp (disch:=omega) only [zI]);repeat first | intro _ | refine ⟨by omega,?_⟩
 refine hK _ ?_;clear hK K;refine zw (zk [0,2]) ?_;simp only [go_sem]
 repeat refine zq ?_
 refine zb fun K hK=>?_;simp only [go_sem];(try simp (disch:=omega) only [zI]);repeat first | intro _ | refine ⟨by omega,?_⟩
 refine hK _ ?_;clear hK K;refine zw (sub_frz 2 5 (by omega) rfl rfl (by simp)) ?_;refine zw (zk [2]) ?_;simp only [go_sem];refine ze ?_;simp only [go_sem]
def eqM (a b : Mt) : Bool:=(a.h == b.h) && ((a.a == b.a) && ((a.p == b.p) && ((a.f == b.f) && ((a.g == b.g) && true))))
theorem eqM_iff {a b : Mt} : eqM a b = true ↔ a = b:=by
 obtain ⟨a1,a2,a3,a4,a5⟩:=a
 obtain ⟨b1,b2,b3,b4,b5⟩:=b
 simp [eqM]
instance : DecidableEq Mt:=fun a b=>decidable_of_iff (eqM a b = true) eqM_iff
def manyB (l : List Mt) : Bool:=decide (6 < (leftV l).length) && decide ((leftV l).length ≤ 10)
end Go.Proofs.Ytobokbhpeaakjaa
