/- For all nights in bytes, the given function TopNightTable returns true: nights with an odd number of games for one point each, whose sheets arrive in any order, some of them twice, are matches of as many legs, who wins the night has won the match, and the rows have as many won, and For, as all nights together. No conditions beyond those of the given statement. -/
import Derived.Test.YtlljkgiomkmjbaaVA10
import Derived.Test.YtlljkgiomkmjbaaVA8
import Derived.Test.YtlljkgiomkmjbaaVA6
import Derived.Test.YtlljkgiomkmjbaaVA4
import Derived.ChangeShapes
import Derived.WideShapes
import Derived.OpenShut
import Derived.ShutString
import Derived.ChangeOld
import Derived.Carry
import Derived.Below
import Derived.Test.YtlljkgiomkmjbaaRows
import Derived.JoinedOf
namespace Go.Oc
open Go Go.RowKit
set_option linter.unusedSimpArgs false
set_option linter.unusedVariables false
def RCalls (P : Program) (f : FuncId) (L L' : List (Nat × RowC)) (args : List AV) (r : AV) : Prop :=
 callable P f = true ∧ ∀ (w : World) (p : Plan) (vs : Array Value),p.X = XS.none ∧ p.Ψ = (fun _=>False) ∧ p.Θ = (fun _=>False) →
  (∀ b,p.R b → b < w.heap.size) → (∀ k b,p.β k = some b → b < w.heap.size ∧ ¬ p.R b) → (∀ k k' b,p.β k = some b → p.β k' = some b → k = k') → (∀ k,p.γ k ≤ maxLen) →
  (∀ k,rowRel w p (fun _=>0) k (lookc L k)) → AV.relV w p (fun _=>0) args vs.toList →
  Calls P f vs w fun e w'=>∃ v q,e = .returned v ∧ r.rel w' q (fun _=>0) v ∧ (w'.os = w.os ∧ w'.tape = w.tape ∧ w'.output = w.output ∧ w.heap.size ≤ w'.heap.size) ∧
   (∀ k,k < w.heap.size → (∀ j,p.β j ≠ some k) → w'.heap[k]? = w.heap[k]?) ∧ (∀ b,p.R b → q.R b) ∧ (∀ b,q.R b → p.R b ∨ w.heap.size ≤ b ∨ ∃ j,p.β j = some b) ∧ (∀ b,q.R b → b < w'.heap.size) ∧
   (∀ k b,q.β k = some b → b < w'.heap.size ∧ ¬ q.R b ∧ (w.heap.size ≤ b ∨ ∃ j,p.β j = some b)) ∧ (∀ k k' b,q.β k = some b → q.β k' = some b → k = k') ∧ (∀ k,q.γ k ≤ maxLen) ∧
   (∀ k,keyIn L k = true → 1000 ≤ k → q.β k = p.β k ∧ q.γ k = p.γ k) ∧ ∀ k,keyIn L k = true → rowRel w' q (fun _=>0) k (lookc L' k)
section
variable {P : Program} {C : Ctx} {p p' q : Plan} {s : AS} {a : Act} {w w' : World} {o : Oper}
mutual
def nrmA (V : Nat → Nat) : AV → AV
 | .r v=>.r v
 | .pt k n off=>if n = V k then .pt k 0 off else .r .un
 | .os k n sz off m=>if n = V k then .os k 0 sz off m else .r .un
 | .mp k n=>if n = V k then .mp k 0 else .r .un
 | .ag cs=>.ag (nrmL V cs)
 | _=>.r .un
def nrmL (V : Nat → Nat) : List AV → List AV
 | []=>[]
 | x :: xs=>nrmA V x :: nrmL V xs
end
def nrmC (V : Nat → Nat) : RowC → RowC
 | .box cs=>.box (nrmL V cs)
 | .arr t sz es=>.arr t sz es
 | .mp m=>.mp m
 | _=>.dead
mutual
theorem backR_rel {ρ : List (Nat × Nat)} (hq : ∀ pk ck,pinOf ρ pk = some ck → p'.β ck = q.β pk ∧ p'.γ ck = q.γ pk) (hqR : p'.R = q.R) {ver : Nat → Nat} : ∀ (x : AV) (v : Value),x.rel w q (fun _=>0) v → (backA ρ ver x).rel w p' ver v
 | .r x,v,hv=>by simp only [AV.rel] at hv; simp only [backA,AV.rel]; rw [hqR]; exact hv
 | .pt k n off, v, hv => by
   simp only [AV.rel] at hv
   simp only [backA]
   split
   · rename_i ck e
     simp only [AV.rel]
     refine ⟨Nat.le_refl _,fun _=>?_⟩
     have:=hv.2 (Nat.le_zero.1 hv.1)
     rwa [← (hq _ _ e).1] at this
   · exact AV.rel_un _ _ _ _
 | .pe k n sz idx off, v, hv => by
   simp only [AV.rel] at hv
   simp only [backA]
   split
   · rename_i ck e
     simp only [AV.rel]
     refine ⟨Nat.le_refl _,fun _=>?_⟩
     have:=hv.2 (Nat.le_zero.1 hv.1)
     rwa [← (hq _ _ e).1] at this
   · exact AV.rel_un _ _ _ _
 | .os k n sz off m, v, hv => by
   simp only [AV.rel] at hv
   simp only [backA]
   split
   · rename_i ck e
     simp only [AV.rel]
     refine ⟨Nat.le_refl _,fun _=>?_⟩
     have:=hv.2 (Nat.le_zero.1 hv.1)
     rwa [← (hq _ _ e).1,← (hq _ _ e).2] at this
   · exact AV.rel_un _ _ _ _
 | .mp k n, v, hv => by
   simp only [AV.rel] at hv
   simp only [backA]
   split
   · rename_i ck e
     simp only [AV.rel]
     refine ⟨Nat.le_refl _,fun _=>?_⟩
     have:=hv.2 (Nat.le_zero.1 hv.1)
     rwa [← (hq _ _ e).1] at this
   · exact AV.rel_un _ _ _ _
 | .fn f cs, v, hv => by
   simp only [AV.rel] at hv
   simp only [backA,AV.rel]
   obtain ⟨vs,e,hV⟩:=hv
   exact ⟨vs,e,backR_relV hq hqR cs _ hV⟩
 | .ag cs, v, hv => by
   simp only [AV.rel] at hv
   simp only [backA,AV.rel]
   obtain ⟨vs,e,h1,hV⟩:=hv
   exact ⟨vs,e,h1,backR_relV hq hqR cs _ hV⟩
 | .tu cs, v, hv => by
   simp only [AV.rel] at hv
   simp only [backA,AV.rel]
   obtain ⟨vs,e,hV⟩:=hv
   exact ⟨vs,e,backR_relV hq hqR cs _ hV⟩
 | .mi _ _,_,_=>by simp only [backA]; exact AV.rel_un _ _ _ _
 | .pu k n u, v, hv => by
   simp only [AV.rel] at hv
   simp only [backA]
   split
   · rename_i ck e
     simp only [AV.rel]
     refine ⟨hv.1,Nat.le_refl _,fun _=>?_⟩
     have:=hv.2.2 (Nat.le_zero.1 hv.2.1)
     rwa [← (hq _ _ e).1] at this
   · exact AV.rel_un _ _ _ _
theorem backR_relV {ρ : List (Nat × Nat)} (hq : ∀ pk ck,pinOf ρ pk = some ck → p'.β ck = q.β pk ∧ p'.γ ck = q.γ pk) (hqR : p'.R = q.R) {ver : Nat → Nat} : ∀ (xs : List AV) (vs : List Value),AV.relV w q (fun _=>0) xs vs → AV.relV w p' ver (backL ρ ver xs) vs
 | [],_,hV=>by simp only [AV.relV] at hV; simp only [backL,AV.relV]; exact hV
 | x :: xs, _, hV => by
   simp only [AV.relV] at hV
   obtain ⟨u,us,e,h1,h2⟩:=hV
   simp only [backL,AV.relV];exact ⟨u,us,e,backR_rel hq hqR x u h1,backR_relV hq hqR xs us h2⟩
end
theorem backRC_rel {ρ : List (Nat × Nat)} (hq : ∀ pk ck,pinOf ρ pk = some ck → p'.β ck = q.β pk ∧ p'.γ ck = q.γ pk) (hqR : p'.R = q.R) {ver : Nat → Nat} {pk ck : Nat} (hpk : pinOf ρ pk = some ck) {c : RowC} (hok : okN c = true) (hr : rowRel w q (fun _=>0) pk c) : rowRel w p' ver ck (backC ρ ver c):=by
 obtain ⟨hβ,hγ⟩:=hq _ _ hpk
 cases c with
 | box cs =>
   simp only [rowRel] at hr
   simp only [backC,rowRel]
   obtain ⟨b,cells,t,h1,h2,h3,h4⟩:=hr
   exact ⟨b,cells,t,hβ.trans h1,h2,backR_relV hq hqR cs _ h3,h4⟩
 | arr t sz es =>
   simp only [rowRel] at hr
   simp only [backC,rowRel]
   rw [← hβ,← hγ,← hqR] at hr
   exact hr
 | mp m =>
   simp only [rowRel] at hr
   simp only [backC,rowRel]
   rw [← hβ,← hqR] at hr
   exact hr
 | mem Φ =>
   simp only [rowRel] at hr
   simp only [backC,rowRel]
   rw [← hβ,← hqR] at hr
   exact hr
 | ara t sz cs =>
   simp only [rowRel] at hr
   simp only [backC,rowRel]
   rw [← hβ,← hγ] at hr
   obtain ⟨b,cells,h1,h2,h3,l,rest,h4,h5,h6⟩:=hr
   exact ⟨b,cells,h1,h2,h3,l,rest,h4,backR_relV hq hqR cs _ h5,h6⟩
 | _=>simp [okN,okC] at hok
mutual
theorem nrm_rel {V : Nat → Nat} : ∀ (x : AV) (v : Value),x.rel w p V v → (nrmA V x).rel w p (fun _=>0) v
 | .r x,v,hv=>by simp only [AV.rel] at hv; simp only [nrmA,AV.rel]; exact hv
 | .pt k n off, v, hv => by
   simp only [AV.rel] at hv
   simp only [nrmA]
   split
   · rename_i e
     simp only [AV.rel];exact ⟨Nat.le_refl _,fun _=>hv.2 e⟩
   · exact AV.rel_un _ _ _ _
 | .pe ..,v,hv=>by simp only [nrmA]; exact AV.rel_un _ _ _ _
 | .os k n sz off m, v, hv => by
   simp only [AV.rel] at hv
   simp only [nrmA]
   split
   · rename_i e
     simp only [AV.rel];exact ⟨Nat.le_refl _,fun _=>hv.2 e⟩
   · exact AV.rel_un _ _ _ _
 | .mp k n, v, hv => by
   simp only [AV.rel] at hv
   simp only [nrmA]
   split
   · rename_i e
     simp only [AV.rel];exact ⟨Nat.le_refl _,fun _=>hv.2 e⟩
   · exact AV.rel_un _ _ _ _
 | .fn ..,v,hv=>by simp only [nrmA]; exact AV.rel_un _ _ _ _
 | .ag cs, v, hv => by
   simp only [AV.rel] at hv
   simp only [nrmA,AV.rel]
   obtain ⟨vs,e,h1,hV⟩:=hv
   exact ⟨vs,e,h1,nrm_relV cs _ hV⟩
 | .tu ..,v,hv=>by simp only [nrmA]; exact AV.rel_un _ _ _ _
 | .mi ..,v,hv=>by simp only [nrmA]; exact AV.rel_un _ _ _ _
 | .pu ..,v,hv=>by simp only [nrmA]; exact AV.rel_un _ _ _ _
theorem nrm_relV {V : Nat → Nat} : ∀ (xs : List AV) (vs : List Value),AV.relV w p V xs vs → AV.relV w p (fun _=>0) (nrmL V xs) vs
 | [],_,hV=>by simp only [AV.relV] at hV; simp only [nrmL,AV.relV]; exact hV
 | x :: xs, _, hV => by
   simp only [AV.relV] at hV
   obtain ⟨u,us,e,h1,h2⟩:=hV
   simp only [nrmL,AV.relV];exact ⟨u,us,e,nrm_rel x u h1,nrm_relV xs us h2⟩
end
def okR : RowC → Bool
 | .box _=>true
 | .arr ..=>true
 | .mp _=>true
 | _=>false
theorem okC_of_R {c : RowC} (h : okR c = true) : okC c = true:=by cases c <;> first | rfl | simp [okR] at h
theorem nrmC_rel {V : Nat → Nat} {k : Nat} {c : RowC} (hok : okR c = true) (hr : rowRel w p V k c) : rowRel w p (fun _=>0) k (nrmC V c):=by
 cases c with
 | box cs =>
   simp only [rowRel] at hr
   simp only [nrmC,rowRel]
   obtain ⟨b,cells,t,h1,h2,h3,h4⟩:=hr
   exact ⟨b,cells,t,h1,h2,nrm_relV cs _ h3,h4⟩
 | arr t sz es=>simp only [rowRel] at hr; simp only [nrmC,rowRel]; exact hr
 | mp m=>simp only [rowRel] at hr; simp only [nrmC,rowRel]; exact hr
 | _=>simp [okR] at hok
def rfin (V : Nat → Nat) (rows : Nat → Row) : List (Nat × RowC) → List (Nat × RowC) → Prop
 | [],[]=>True
 | (k,_) :: L,(k',c') :: L'=>k = k' ∧ okR (rows k).c = true ∧ nrmC V (rows k).c = c' ∧ rfin V rows L L'
 | _,_=>False
theorem rfin_get {V : Nat → Nat} {rows : Nat → Row} : ∀ {L L' : List (Nat × RowC)},rfin V rows L L' → ∀ k,keyIn L k = true → okR (rows k).c = true ∧ lookc L' k = nrmC V (rows k).c
 | [],[],_,k,h=>by simp [keyIn] at h
 | [],_ :: _,h,_,_=>by simp [rfin] at h
 | _ :: _,[],h,_,_=>by simp [rfin] at h
 | (k, c) :: L, (k', c') :: L', h, j, hj => by
   simp only [rfin] at h
   obtain ⟨rfl,h1,h2,h3⟩:=h
   simp only [keyIn] at hj
   simp only [lookc_cons]
   by_cases e : j = k
   · subst e; simp only [if_true]; exact ⟨h1,h2.symm⟩
   · simp only [e,if_false] at hj ⊢; exact rfin_get h3 j hj
def resR (P : Program) (s : AS) : List ResultVar → List AV → Prop
 | [],rs=>rs = []
 | v :: vs,rs=>(resA P s v).pre ∧ ∃ rs',rs = nrmA s.ver (resA P s v).y.av :: rs' ∧ resR P s vs rs'
theorem run_resRL (h : SR C p s a w) : ∀ (vs : List ResultVar) (rs : List AV),resR P s vs rs → ∃ us,(vs.mapM (resOp a.tmps)).run P w = .ok us w ∧ AV.relV w p (fun _=>0) rs us
 | [],rs,hm=>by simp only [resR] at hm; subst hm; exact ⟨[],rfl,by simp [AV.relV]⟩
 | v :: vs, rs, hm => by
   obtain ⟨hp,rs',rfl,hrest⟩:=hm
   obtain ⟨u,hu,hrel⟩:=run_result h v hp
   obtain ⟨us,hus,hV⟩:=run_resRL h vs rs' hrest
   refine ⟨u :: us,?_,by simp only [AV.relV]; exact ⟨u,us,rfl,nrm_rel _ _ hrel,hV⟩⟩
   simp only [List.mapM_cons,Sem.run_bind,hu,Result.andThen_ok,hus,Sem.run_pure]
theorem run_resR (h : SR C p s a w) {fn : Func} {rs : List AV} (hm : resR P s fn.results.toList rs) : ∃ v,(results fn a.tmps).run P w = .ok v w ∧ (resMV rs).rel w p (fun _=>0) v:=by
 obtain ⟨us,hus,hV⟩:=run_resRL h _ _ hm
 have hm : (fn.results.mapM (resOp a.tmps)).run P w = .ok us.toArray w:=by
  rw [Array.mapM_eq_mapM_toList]
  simp only [Sem.run_map,hus,Result.andThen_ok]
 have hl:=AV.relV_length hV
 refine ⟨if h : us.toArray.size = 1 then us.toArray[0] else .tuple us.toArray,?_,?_⟩
 · rw [results_eq,Sem.run_bind,hm]
   simp only [Result.andThen_ok,Sem.run_pure]
 · match rs,us,hl,hV with
   | [r], [u], _, hV =>
     simp only [AV.relV] at hV
     obtain ⟨u',us',e,h1,_⟩:=hV
     injection e with e1 e2
     subst e1
     simpa [resMV] using h1
   | [], us, hl, hV =>
     have : us = []:=List.eq_nil_of_length_eq_zero (by simpa using hl)
     subst this
     simp only [resMV,AV.rel];exact ⟨#[],rfl,hV⟩
   | r1 :: r2 :: rs, us, hl, hV =>
     have : ¬ us.toArray.size = 1:=by simp at hl ⊢; omega
     rw [dif_neg this]
     simp only [resMV,AV.rel];exact ⟨us.toArray,rfl,hV⟩
def rpostL (P : Program) (res : List ResultVar) (rs : List AV) (L L' : List (Nat × RowC)) : Exit → AS → Prop
 | .normal,s=>resR P s res rs ∧ rfin s.ver s.rows L L'
 | .ret,s=>resR P s res rs ∧ rfin s.ver s.rows L L'
 | _,_=>False
theorem rpostL_normal {res : List ResultVar} {rs : List AV} {L L' : List (Nat × RowC)} {n : Nat} {l : List (Nat × AV)} {vs : Nat → Nat} {cs : List (Nat × RowC)} : rpostL P res rs L L' .normal (st n l vs cs) = (resR P (st n l vs cs) res rs ∧ rfin vs (fun k=>⟨vs k,lookc cs k⟩) L L'):=rfl
theorem rpostL_ret {res : List ResultVar} {rs : List AV} {L L' : List (Nat × RowC)} {n : Nat} {l : List (Nat × AV)} {vs : Nat → Nat} {cs : List (Nat × RowC)} : rpostL P res rs L L' .ret (st n l vs cs) = (resR P (st n l vs cs) res rs ∧ rfin vs (fun k=>⟨vs k,lookc cs k⟩) L L'):=rfl
theorem resR_nil {P : Program} {s : AS} {rs : List AV} : resR P s [] rs = (rs = []):=rfl
theorem resR_cons {P : Program} {v : ResultVar} {vs : List ResultVar} {n : Nat} {l : List (Nat × AV)} {ws : Nat → Nat} {cs : List (Nat × RowC)} {rs : List AV} : resR P (st n l ws cs) (v :: vs) rs = ((resA P (st n l ws cs) v).pre ∧ ∃ rs',rs = nrmA ws (resA P (st n l ws cs) v).y.av :: rs' ∧ resR P (st n l ws cs) vs rs'):=rfl
def lendOkR (ρ : List (Nat × Nat)) (s : AS) : List (Nat × Nat) → List (Nat × RowC) → Prop
 | [],[]=>True
 | (pk,ck) :: l,(k,c) :: L=>k = pk ∧ (lendC ρ s.ver (s.rows ck).c = some c ∨ ((s.rows ck).c = .dead ∧ c = .dead)) ∧ lendOkR ρ s l L
 | _,_=>False
theorem lendOkR_get {ρ : List (Nat × Nat)} : ∀ {l : List (Nat × Nat)} {L : List (Nat × RowC)},lendOkR ρ s l L → (∀ pk ck,pinOf l pk = some ck → lendC ρ s.ver (s.rows ck).c = some (lookc L pk) ∨ ((s.rows ck).c = .dead ∧ lookc L pk = .dead)) ∧ ∀ pk,pinOf l pk = none → lookc L pk = .dead
 | [],[],_=>⟨fun _ _ h=>by simp [pinOf] at h,fun _ _=>rfl⟩
 | [],_ :: _,h=>by simp [lendOkR] at h
 | _ :: _,[],h=>by simp [lendOkR] at h
 | (a, b) :: l, (k, c) :: L, h => by
   simp only [lendOkR] at h
   obtain ⟨rfl,h1,h2⟩:=h
   obtain ⟨g1,g2⟩:=lendOkR_get h2
   refine ⟨fun pk ck hp=>?_,fun pk hp=>?_⟩
   · simp only [pinOf] at hp
     simp only [lookc_cons]
     split at hp
     · rename_i e
       injection hp with hp; subst hp
       simpa [e] using h1
     · rename_i e
       simp only [e,if_false];exact g1 pk ck hp
   · simp only [pinOf] at hp
     simp only [lookc_cons]
     split at hp
     · cases hp
     · rename_i e
       simp only [e,if_false];exact g2 pk hp
attribute [go_sem] rpostL_normal rpostL_ret resR_nil resR_cons resMV lendOkR rfin okR nrmC nrmL nrmA
def deadC : RowC → Bool
 | .dead=>true
 | _=>false
def lowL : List (Nat × RowC) → Bool
 | []=>true
 | (k,c) :: L=>!(k == 999) && (okR c || deadC c) && !keyIn L k && lowL L
theorem lowL_get {L : List (Nat × RowC)} (h : lowL L = true) {k : Nat} (hk : keyIn L k = true) : (!(k == 999)) = true ∧ (okR (lookc L k) || deadC (lookc L k)) = true:=by
 induction L with
 | nil=>simp [keyIn] at hk
 | cons x L ih =>
   obtain ⟨j,c⟩:=x
   simp only [lowL,Bool.and_eq_true] at h
   simp only [keyIn] at hk
   simp only [lookc_cons]
   split at hk
   · rename_i e; subst e; simp only [if_true]; exact ⟨h.1.1.1,h.1.1.2⟩
   · rename_i e; simp only [e,if_false]; exact ih h.2 hk
theorem rcalls_st {f : FuncId} {fn : Func} {c : Code} {n : Nat} {args rs : List AV} {r : AV} (L L' : List (Nat × RowC)) (res : List ResultVar) (hf : P.funcs[f]? = some fn) (hb : fn.body = some c) (hc : callable P f = true) (hn : fn.ntmps = n) (hres : fn.results.toList = res)
 (hargs : args.length ≤ n) (hr : resMV rs = r) (hL : lowL L = true) (h : ∀ C : Ctx,C.rd = none ∧ C.X = XS.none → awp P C c (rpostL P res rs L L') (st n (argA 0 args) (fun _=>0) L)) : RCalls P f L L' args r:=by
 refine ⟨hc,fun w p vs hpl hR hβ hij hγ hrows hV=>?_⟩
 have hlen:=AV.relV_length hV
 simp only [Array.length_toList] at hlen
 let C : Ctx:={ w0:=w,R0:=p.R,bor:=fun b=>∃ k,1000 ≤ k ∧ p.β k = some b,pin:=fun k=>if keyIn L k = true ∧ 1000 ≤ k then some (p.β k,p.γ k) else none,own:=fun b=>∃ k,k < 1000 ∧ p.β k = some b }
 have hs : SR C p (st n (argA 0 args) (fun _=>0) L) { tmps:=vs ++ Array.replicate (fn.ntmps - vs.size) undef,defers:=[] } w:={
  base:=⟨rfl,rfl,rfl,Nat.le_refl _,fun _ _ _ _=>rfl⟩
  r0:=fun _ h=>h
  rn:=fun _ h=>.inl h
  rb:=hR
  tm:=fun t=>by
   show (look (argA 0 args) t).rel _ _ _ _
   rw [argA_look,if_pos (Nat.zero_le _),Nat.sub_zero]
   cases e : args[t]? with
   | none=>exact AV.rel_un _ _ _ _
   | some x =>
     obtain ⟨u,hu,hx⟩:=AV.relV_get hV e
     have : (vs ++ Array.replicate (fn.ntmps - vs.size) undef).getD t undef = u:=by
      have ht : t < vs.size:=by have:=(List.getElem?_eq_some_iff.1 hu).1; simpa using this
      rw [Array.getD_eq_getD_getElem?,Array.getElem?_append_left ht]
      simp only [Array.getElem?_toList] at hu
      rw [hu]; rfl
     rw [this]
     exact hx
  sz:=by simp only [Array.size_append,Array.size_replicate,st]; omega
  ex:=ext_start (fun b h=>h.elim (fun ⟨k,_,hk⟩=>(hβ k b hk).1) (fun ⟨k,_,hk⟩=>(hβ k b hk).1)) hpl.1 rfl hpl.2.1 hpl.2.2
  rw:=hrows
  bl:=fun k b h=>⟨(hβ k b h).1,(hβ k b h).2,.inr (by
   by_cases hk : k < 1000
   · exact .inr ⟨k,hk,h⟩
   · exact .inl ⟨by omega,k,by omega,h⟩)⟩
  ij:=hij
  cap:=hγ
  pn:=fun k x hx=>by
   have hx' : (if keyIn L k = true ∧ 1000 ≤ k then some (p.β k,p.γ k) else none) = some x:=hx
   split at hx'
   · rename_i hk
     injection hx' with hx'
     subst hx'
     exact ⟨rfl,rfl,rfl,hk.2⟩
   · cases hx'
  lk:=fun j km n l cur hj _=>by
   have hj' : lookc L j = .mi km n l cur:=hj
   cases hk : keyIn L j with
   | true=>have:=(lowL_get hL hk).2; rw [hj'] at this; simp [okR,deadC] at this
   | false=>rw [lookc_not hk] at hj'; cases hj' }
 refine callsIn_wide.1 (callsIn_of_wp_marks (n:=0) hf hb trivial (wpIn_mono (h C ⟨rfl,rfl⟩ _ w ⟨p,hs⟩) ?_))
 rintro e a' w' ⟨s',⟨p',hs'⟩,hq⟩
 have fin : ∀ (a' : Act) (w' : World) (_ : SR C p' s' a' w'),resR P s' fn.results.toList rs ∧ rfin s'.ver s'.rows L L' → ∃ v,(results fn a'.tmps).run P w' = .ok v w' ∧ ∃ v' q,Ending.returned v = .returned v' ∧ r.rel w' q (fun _=>0) v' ∧ (w'.os = w.os ∧ w'.tape = w.tape ∧ w'.output = w.output ∧ w.heap.size ≤ w'.heap.size) ∧
  (∀ k,k < w.heap.size → (∀ j,p.β j ≠ some k) → w'.heap[k]? = w.heap[k]?) ∧ (∀ b,p.R b → q.R b) ∧ (∀ b,q.R b → p.R b ∨ w.heap.size ≤ b ∨ ∃ j,p.β j = some b) ∧ (∀ b,q.R b → b < w'.heap.size) ∧
  (∀ k b,q.β k = some b → b < w'.heap.size ∧ ¬ q.R b ∧ (w.heap.size ≤ b ∨ ∃ j,p.β j = some b)) ∧ (∀ k k' b,q.β k = some b → q.β k' = some b → k = k') ∧ (∀ k,q.γ k ≤ maxLen) ∧
  (∀ k,keyIn L k = true → 1000 ≤ k → q.β k = p.β k ∧ q.γ k = p.γ k) ∧ ∀ k,keyIn L k = true → rowRel w' q (fun _=>0) k (lookc L' k):=fun a' w' hs' ⟨hrs,hm⟩=>by
  obtain ⟨v,hrun,hrel⟩:=run_resR hs' hrs
  rw [hr] at hrel
  refine ⟨v,hrun,v,p',rfl,hrel,⟨hs'.base.os,hs'.base.tape,hs'.base.output,hs'.base.size⟩,fun k hk hn=>hs'.base.block k hk (fun ⟨j,_,hj⟩=>hn j hj) (fun ⟨j,_,hj⟩=>hn j hj),fun b hb=>hs'.r0 b hb,fun b hb=>(hs'.rn b hb).imp id (fun h=>h.imp id fun ⟨j,_,hj⟩=>⟨j,hj⟩),hs'.rb,fun k b hb=>?_,hs'.ij,hs'.cap,fun k hk h10=>?_,fun k hk=>?_⟩
  · obtain ⟨g1,g2,g3⟩:=hs'.bl k b hb
    refine ⟨g1,g2,?_⟩
    rcases g3 with g | ⟨_,g⟩ | g
    · exact .inl g
    · obtain ⟨j,_,hj⟩:=g
      exact .inr ⟨j,hj⟩
    · obtain ⟨j,_,hj⟩:=g
      exact .inr ⟨j,hj⟩
  · obtain ⟨h1,h2,_⟩:=hs'.pn k (p.β k,p.γ k) (by show (if keyIn L k = true ∧ 1000 ≤ k then some (p.β k,p.γ k) else none) = _; rw [if_pos ⟨hk,h10⟩])
    exact ⟨h1,h2⟩
  · obtain ⟨g1,g2⟩:=rfin_get hm k hk
    rw [g2]
    exact nrmC_rel g1 (hs'.rw k)
 subst hres
 cases e with
 | normal=>exact hs'.leave fun a'' w'' _ hs''=>fin a'' w'' hs'' hq
 | ret=>exact hs'.leave fun a'' w'' _ hs''=>fin a'' w'' hs'' hq
 | _=>exact hq.elim
def regRows (ρ : List (Nat × Nat)) (nv : Nat → Nat) (L' : List (Nat × RowC)) (rows : Nat → Row) : Nat → Row:=fun j=>match lendKey ρ j with | some pk=>⟨nv j,backC ρ nv (lookc L' pk)⟩ | none=>rows j
def bumpV (ρ : List (Nat × Nat)) (ver : Nat → Nat) : Nat → Nat:=fun j=>match lendKey ρ j with | some pk=>if pk < 1000 then ver j + 1 else ver j | none=>ver j
def lowKeys : List (Nat × Nat) → Bool
 | []=>true
 | (_,ck) :: ρ=>decide (ck < 999) && lowKeys ρ
theorem lowKeys_get : ∀ {ρ : List (Nat × Nat)} {j pk : Nat},lowKeys ρ = true → lendKey ρ j = some pk → j < 999
 | [],_,_,_,h=>by simp [lendKey] at h
 | (a, b) :: ρ, j, pk, hl, h => by
   simp only [lowKeys,Bool.and_eq_true,decide_eq_true_eq] at hl
   simp only [lendKey] at h
   split at h
   · rename_i e; subst e; exact hl.1
   · exact lowKeys_get hl.2 h
theorem keyIn_of_lend : ∀ {l : List (Nat × Nat)} {L : List (Nat × RowC)} {ρ : List (Nat × Nat)},lendOkR ρ s l L → ∀ {pk ck : Nat},pinOf l pk = some ck → keyIn L pk = true
 | [],[],_,_,pk,ck,h=>by simp [pinOf] at h
 | [],_ :: _,_,h,_,_,_=>by simp [lendOkR] at h
 | _ :: _,[],_,h,_,_,_=>by simp [lendOkR] at h
 | (a, b) :: l, (k, c) :: L, ρ, h, pk, ck, hp => by
   simp only [lendOkR] at h
   obtain ⟨rfl,_,h2⟩:=h
   simp only [pinOf] at hp
   simp only [keyIn]
   split at hp
   · rename_i e; simp [e]
   · rename_i e; simp only [e,if_false]; exact keyIn_of_lend h2 hp
theorem gop_rcall {K : AS → Prop} {f : Operand} {args : Array Operand} {ts : Array TypeId} {F : FuncId} {cs az : List AV} {r : AV} {L L' : List (Nat × RowC)} (hR : RCalls P F L L' az r) (ρ : List (Nat × Nat)) (ho : o.op = .call ⟨.value f,args,ts⟩)
 (hF : callee? (s.ev f) = some (F,cs)) (hl : lendL ρ s.ver (args.toList.map s.ev ++ cs) = some az) (hlo : lendOkR ρ s ρ L) (hap : apart ρ = true) (hsk : sameKeys ρ L' = true) (hlow : lowKeys ρ = true)
 (hK : K (AS.put { s with rows:=regRows ρ (bumpV ρ s.ver) L' s.rows } o.dst (backA ρ (bumpV ρ s.ver) r))) : gop P o K s:=by
 intro C p a w h hd hnd KW Q hKW
 refine wpIn_of_wp hnd ?_
 have hokc:=sameKeys_ok hsk
 obtain ⟨hcal,hcalls⟩:=hR
 have hargs:=relV_ev h args.toList
 obtain ⟨vs,hfv,hcs⟩:=callee_eval h hF
 have hall:=AV.relV_append hargs hcs
 have hlist : (args.map a.eval ++ vs).toList = args.toList.map a.eval ++ vs.toList:=by simp
 rw [← hlist] at hall
 have hrun : (execOp a.eval o).run P w = .ok (.enter F (args.map a.eval ++ vs)) w:=by
  simp only [execOp,ho,Sem.run_bind,resolve,hfv,Deferred.ofValue,Sem.run_pure,Result.andThen_ok,invoke]
  simpa using run_callFunc hcal (args.map a.eval ++ vs) w
 unfold Oper.wp
 rw [hrun,Oper.upon_enter]
 obtain ⟨hg1,hg2⟩:=lendOkR_get hlo
 have hβl : ∀ k b,(lendPlan ρ p).β k = some b → ∃ ck,pinOf ρ k = some ck ∧ p.β ck = some b:=fun k b hb=>by
  simp only [lendPlan] at hb
  split at hb
  · rename_i ck e; exact ⟨ck,e,hb⟩
  · cases hb
 refine (hcalls w (lendPlan ρ p) _ ⟨rfl,rfl,rfl⟩ h.rb (fun k b hb=>?_) (fun k k' b hb hb'=>?_) (fun k=>?_) (fun k=>?_) (lend_relV hap _ _ _ hl hall)).mono ?_
 · obtain ⟨ck,_,hb⟩:=hβl k b hb
   exact ⟨(h.bl ck b hb).1,(h.bl ck b hb).2.1⟩
 · obtain ⟨ck,e1,hb⟩:=hβl k b hb
   obtain ⟨ck',e2,hb'⟩:=hβl k' b hb'
   have:=h.ij ck ck' b hb hb'
   subst this
   exact pinOf_inj hap e1 e2
 · simp only [lendPlan]
   split
   · exact h.cap _
   · simp [maxLen]
 · cases hp : pinOf ρ k with
   | none =>
     rw [hg2 k hp]
     simp only [rowRel,lendPlan,hp];exact ⟨trivial,trivial⟩
   | some ck =>
     rcases hg1 k ck hp with hg | ⟨hg,hg'⟩
     · exact lendC_rel hap hp hg (h.rw ck)
     · have hr:=h.rw ck
       rw [hg] at hr
       rw [hg']
       simp only [rowRel] at hr ⊢
       obtain ⟨k1,k2⟩:=lendPlan_pin (p:=p) hp
       exact ⟨k1.trans hr.1,k2.trans hr.2⟩
 rintro e w' ⟨v,q,rfl,hrel,⟨g1,g2,g3,g4⟩,hblk,hR1,hR2,hR3,hqb,hqi,hqc,hqk,hrows⟩
 have hlent : ∀ {ck pk : Nat},lendKey ρ ck = some pk → pinOf ρ pk = some ck:=fun e=>pin_lend hap e
 have hstay : ∀ b,b < w.heap.size → (∀ ck,(lendKey ρ ck).isSome = true → p.β ck ≠ some b) → w'.heap[b]? = w.heap[b]?:=fun b hb hn=>hblk b hb (fun j hj=>by
  obtain ⟨ck,e1,hb'⟩:=hβl j b hj
  exact hn ck (by rw [lendKey_of_pin hap e1]; rfl) hb')
 have hstayR : ∀ b,p.R b → w'.heap[b]? = w.heap[b]?:=fun b hb=>hstay b (h.rb b hb) (fun ck _ hc=>(h.bl ck b hc).2.1 hb)
 have hlb : ∀ b,(∃ j,(lendPlan ρ p).β j = some b) → ∃ ck,(lendKey ρ ck).isSome = true ∧ p.β ck = some b:=fun b ⟨j,hj⟩=>by
  obtain ⟨ck,e1,hb'⟩:=hβl j b hj
  exact ⟨ck,by rw [lendKey_of_pin hap e1]; rfl,hb'⟩
 have hlo9 : ∀ ck,(lendKey ρ ck).isSome = true → ck < 999:=fun ck hck=>by
  obtain ⟨pk,hpk⟩:=Option.isSome_iff_exists.1 hck
  exact lowKeys_get hlow hpk
 let nv:=bumpV ρ s.ver
 let p2 : Plan:={ p with R:=q.R,β:=fun j=>match lendKey ρ j with | some pk=>q.β pk | none=>p.β j,γ:=fun j=>match lendKey ρ j with | some pk=>q.γ pk | none=>p.γ j }
 have hp2s : ∀ {j pk : Nat},lendKey ρ j = some pk → p2.β j = q.β pk ∧ p2.γ j = q.γ pk:=fun {j pk} e=>by simp only [p2,e]; exact ⟨trivial,trivial⟩
 have hp2n : ∀ {j : Nat},lendKey ρ j = none → p2.β j = p.β j ∧ p2.γ j = p.γ j:=fun {j} e=>by simp only [p2,e]; exact ⟨trivial,trivial⟩
 have hq : ∀ pk ck,pinOf ρ pk = some ck → p2.β ck = q.β pk ∧ p2.γ ck = q.γ pk:=fun pk ck e=>hp2s (lendKey_of_pin hap e)
 have hnvs : ∀ {j pk : Nat},lendKey ρ j = some pk → nv j = if pk < 1000 then s.ver j + 1 else s.ver j:=fun {j pk} e=>by simp [nv,bumpV,e]
 have hkeep : ∀ {j pk : Nat},lendKey ρ j = some pk → 1000 ≤ pk → p2.β j = p.β j ∧ p2.γ j = p.γ j:=fun {j pk} e h10=>by
  obtain ⟨k1,k2⟩:=hqk pk (keyIn_of_lend hlo (hlent e)) h10
  obtain ⟨k3,k4⟩:=lendPlan_pin (p:=p) (hlent e)
  exact ⟨(hp2s e).1.trans (k1.trans k3),(hp2s e).2.trans (k2.trans k4)⟩
 have hnvn : ∀ {j : Nat},lendKey ρ j = none → nv j = s.ver j:=fun {j} e=>by simp [nv,bumpV,e]
 have hver : ∀ j,(regRows ρ nv L' s.rows j).ver = nv j:=fun j=>by
  unfold regRows
  cases hk : lendKey ρ j with
  | none=>exact (hnvn hk).symm
  | some pk=>rfl
 have hle : ∀ j,s.ver j ≤ nv j:=fun j=>by
  cases hk : lendKey ρ j with
  | none=>rw [hnvn hk]; exact Nat.le_refl _
  | some pk=>rw [hnvs hk]; split <;> omega
 have hverf : AS.ver { s with rows:=regRows ρ nv L' s.rows } = nv:=funext hver
 have hk : Kept w w' p p2 s.ver nv :=
  ⟨hR1,fun ad hr=>World.cell?_of_block (hstayR _ hr),hle,fun j hj=>by
   cases hk : lendKey ρ j with
   | none=>exact hp2n hk
   | some pk =>
     rw [hnvs hk] at hj
     split at hj
     · omega
     · exact hkeep hk (by omega)⟩
 have hnmp : ∀ j pk,lendKey ρ j = some pk → (s.rows j).c.isMpi = false ∧ (s.rows j).c.isMi = false:=fun j pk hj=>by
  rcases hg1 pk j (hlent hj) with hc | ⟨hc,_⟩
  · unfold lendC at hc
    split at hc
    · rename_i e; rw [e]; exact ⟨rfl,rfl⟩
    · rename_i e; rw [e]; exact ⟨rfl,rfl⟩
    · rename_i e; rw [e]; exact ⟨rfl,rfl⟩
    · rename_i e; rw [e]; exact ⟨rfl,rfl⟩
    · rename_i e; rw [e]; exact ⟨rfl,rfl⟩
    · cases hc
  · rw [hc]; exact ⟨rfl,rfl⟩
 have hold : ∀ b,(∃ j,(lendPlan ρ p).β j = some b) → b < w.heap.size ∧ ¬ p.R b ∧ (C.w0.heap.size ≤ b ∨ C.own b):=fun b hb=>by
  obtain ⟨ck,h1,h2⟩:=hlb b hb
  obtain ⟨k1,k2,k3⟩:=h.bl ck b h2
  refine ⟨k1,k2,?_⟩
  rcases k3 with k | ⟨k,_⟩ | k
  · exact .inl k
  · have:=hlo9 ck h1; omega
  · exact .inr k
 have hβ2 : ∀ j b,p2.β j = some b → (∃ k',p.β k' = some b) ∨ w.heap.size ≤ b:=fun j b hb=>by
  cases hk : lendKey ρ j with
  | none=>rw [(hp2n hk).1] at hb; exact .inl ⟨j,hb⟩
  | some pk =>
    rw [(hp2s hk).1] at hb
    rcases (hqb pk b hb).2.2 with k | k
    · exact .inr k
    · obtain ⟨ck,_,h2⟩:=hlb b k; exact .inl ⟨ck,h2⟩
 have hR4 : ∀ b,q.R b → p.R b ∨ (∃ k,p.β k = some b) ∨ w.heap.size ≤ b:=fun b hb=>by
  rcases hR2 b hb with k | k | k
  · exact .inl k
  · exact .inr (.inr k)
  · obtain ⟨ck,_,h2⟩:=hlb b k; exact .inr (.inl ⟨ck,h2⟩)
 have hSR : SR C p2 { s with rows:=regRows ρ nv L' s.rows } a w':={
  base:=⟨g1.trans h.base.os,g2.trans h.base.tape,g3.trans h.base.output,Nat.le_trans h.base.size g4,fun b hb hn ho=>by
   refine (hstay b (Nat.lt_of_lt_of_le hb h.base.size) fun ck _ hc=>?_).trans (h.base.block b hb hn ho)
   rcases (h.bl ck b hc).2.2 with h1 | h1 | h1
   · omega
   · exact hn h1.2
   · exact ho h1⟩
  r0:=fun b hb=>hR1 b (h.r0 b hb)
  rn:=fun b hb=>by
   rcases hR2 b hb with k | k | k
   · exact h.rn b k
   · exact .inr (.inl (Nat.le_trans h.base.size k))
   · exact .inr (hold b k).2.2
  rb:=hR3
  tm:=fun t=>by rw [hverf]; exact AV.rel_mono hk _ _ (h.tm t)
  sz:=h.sz
  ex:=h.ex.mono rfl rfl rfl g4 hβ2 hR4 fun b hl hn=>hstay b hl fun ck _=>hn ck
  rw:=fun j=>by
   show rowRel _ _ _ j (regRows ρ nv L' s.rows j).c
   rw [hverf]
   cases hj : lendKey ρ j with
   | none =>
     have e : regRows ρ nv L' s.rows j = s.rows j:=by unfold regRows; rw [hj]
     rw [e]
     refine rowRel_mono hk (.inr <| h.ex.kept rfl rfl rfl g1 g2 g3 g4 fun b hl hn=>hstay b hl fun ck _=>hn ck) (hp2n hj).1 (hp2n hj).2 (fun b hb=>hstay b (h.bl j b hb).1 fun ck hc hb'=>?_) _ (fun km n l cur hcc hn b hb=>hstay b (h.bl km b hb).1 fun ck hc hb'=>?_) (h.rw j)
     · have:=h.ij j ck b hb hb'
       subst this
       rw [hj] at hc; cases hc
     · have e3:=h.ij km ck b hb hb'
       subst e3
       obtain ⟨pk,hpk⟩:=Option.isSome_iff_exists.1 hc
       have hr:=h.rw j
       rw [hcc] at hr
       simp only [rowRel] at hr
       obtain ⟨_,_,h5,_⟩:=hr
       rw [hnvs hpk] at hn
       split at hn
       · omega
       · have h1:=h.lk j km n l cur hcc hn
         rw [(hnmp km pk hpk).1] at h1; cases h1
   | some pk =>
     have e : regRows ρ nv L' s.rows j = ⟨nv j,backC ρ nv (lookc L' pk)⟩:=by unfold regRows; rw [hj]
     rw [e]
     exact backRC_rel hq rfl (hlent hj) (okN_of (hokc pk (by rw [hlent hj]; rfl))) (hrows pk (keyIn_of_lend hlo (hlent hj)))
  bl:=fun j b hb=>by
   cases hj : lendKey ρ j with
   | none =>
     rw [(hp2n hj).1] at hb
     refine ⟨Nat.lt_of_lt_of_le (h.bl j b hb).1 g4,fun hr=>?_,(h.bl j b hb).2.2⟩
     rcases hR2 b hr with k | k | k
     · exact (h.bl j b hb).2.1 k
     · have:=(h.bl j b hb).1; omega
     · obtain ⟨ck,h1,h2⟩:=hlb b k
       have:=h.ij j ck b hb h2
       subst this
       rw [hj] at h1; cases h1
   | some pk =>
     rw [(hp2s hj).1] at hb
     obtain ⟨k1,k2,k3⟩:=hqb pk b hb
     refine ⟨k1,k2,?_⟩
     rcases k3 with k | k
     · exact .inl (Nat.le_trans h.base.size k)
     · exact (hold b k).2.2.imp id .inr
  ij:=fun j j' b hb hb'=>by
   have mix : ∀ i i',lendKey ρ i = none → ∀ pk,lendKey ρ i' = some pk → p.β i = some b → q.β pk = some b → False:=fun i i' e pk e' k k'=>by
    rcases (hqb pk b k').2.2 with g | g
    · have:=(h.bl i b k).1; omega
    · obtain ⟨ck,h1,h2⟩:=hlb b g
      have:=h.ij i ck b k h2
      subst this
      rw [e] at h1; cases h1
   cases hj : lendKey ρ j with
   | none =>
     rw [(hp2n hj).1] at hb
     cases hj' : lendKey ρ j' with
     | none=>rw [(hp2n hj').1] at hb'; exact h.ij j j' b hb hb'
     | some pk=>rw [(hp2s hj').1] at hb'; exact (mix j j' hj pk hj' hb hb').elim
   | some pk =>
     rw [(hp2s hj).1] at hb
     cases hj' : lendKey ρ j' with
     | none=>rw [(hp2n hj').1] at hb'; exact (mix j' j hj' pk hj hb' hb).elim
     | some pk' =>
       rw [(hp2s hj').1] at hb'
       have:=hqi pk pk' b hb hb'
       subst this
       have h1:=hlent hj
       rw [hlent hj'] at h1
       injection h1 with h1
       exact h1.symm
  cap:=fun j=>by
   cases hj : lendKey ρ j with
   | none=>rw [(hp2n hj).2]; exact h.cap j
   | some pk=>rw [(hp2s hj).2]; exact hqc pk
  pn:=fun j x hx=>by
   obtain ⟨h1,h2,h3,h4⟩:=h.pn j x hx
   have hj : lendKey ρ j = none:=by
    cases hj : lendKey ρ j with
    | none=>rfl
    | some pk=>have:=lowKeys_get hlow hj; omega
   exact ⟨(hp2n hj).1.trans h1,(hp2n hj).2.trans h2,(hver j).trans ((hnvn hj).trans h3),h4⟩
  lk:=fun j km n l cur hj hn=>by
   show (regRows ρ nv L' s.rows km).c.isMpi = true
   have hj' : (regRows ρ nv L' s.rows j).c = .mi km n l cur:=hj
   have hn' : n = nv km:=hn.trans (hver km)
   cases hjk : lendKey ρ j with
   | none =>
     have e : regRows ρ nv L' s.rows j = s.rows j:=by unfold regRows; rw [hjk]
     rw [e] at hj'
     have hr:=h.rw j
     rw [hj'] at hr
     simp only [rowRel] at hr
     obtain ⟨_,_,h5,_⟩:=hr
     cases hkk : lendKey ρ km with
     | none =>
       have e2 : regRows ρ nv L' s.rows km = s.rows km:=by unfold regRows; rw [hkk]
       rw [e2]
       exact h.lk j km n l cur hj' (hn'.trans (hnvn hkk))
     | some pk =>
       rw [hnvs hkk] at hn'
       split at hn'
       · omega
       · have h1:=h.lk j km n l cur hj' hn'
         rw [(hnmp km pk hkk).1] at h1; cases h1
   | some pk =>
     have e : regRows ρ nv L' s.rows j = ⟨nv j,backC ρ nv (lookc L' pk)⟩:=by unfold regRows; rw [hjk]
     rw [e] at hj'
     have : ∀ c : RowC,backC ρ nv c ≠ .mi km n l cur:=fun c=>by cases c <;> simp [backC]
     exact (this _ hj').elim }
 have hput:=hSR.put' (d:=o.dst) (av:=backA ρ nv r) (v:=v) (by rw [hverf]; exact backR_rel hq rfl r v hrel) hd
 exact hKW _ _ _ _ hput (app_n' _ _ _) hK
theorem gop_eqnil {K : AS → Prop} {x : Operand} {t t' : TypeId} (ho : o.op = .binOp .eql t x (.const (.slice none 0 0)) t') {e esz eb : Nat} {ez : List RV} {ssz : Nat} {sagg : Bool} {sz0 : List RV}
 (e1 : tyq P t = some ⟨.slice e esz eb ez,ssz,sagg,sz0⟩) {sz : Nat} {es : List (List RV)} (hx : s.ev x = .r (.sl sz es)) (h0 : es ≠ []) (hK : K (s.put o.dst (.r (.bo false)))) : gop P o K s:=by
 intro C p a w h hd hnd KW Q hKW
 obtain ⟨hu,_⟩:=tyq_slice e1
 have hxv:=h.ev x
 rw [hx] at hxv
 simp only [AV.rel,RV.rel] at hxv
 obtain ⟨A,c,hxv,_,_,hA⟩:=hxv
 obtain ⟨ad,rfl,_⟩:=hA h0
 have hq : ∀ d : Nat,(Op.equalIn (d + 1) t (.slice (some ad) es.length c) (.slice none 0 0)).run P w = .ok false w:=fun d=>by
  simp only [Op.equalIn,Sem.run_bind,run_underlying hu,Result.andThen_ok,Sem.run_pure]
 have hr : (execOp a.eval o).run P w = .ok (.value (.bool false)) w:=by
  have hq' : (Op.equal t (.slice (some ad) es.length c) (.slice none 0 0)).run P w = .ok false w:=hq 9999
  have hc : a.eval (.const (.slice none 0 0)) = .slice none 0 0:=rfl
  have hg : (eqGuard .eql t x (.const (.slice none 0 0)) (.slice (some ad) es.length c) (.slice none 0 0)).run P w = .ok () w:=by
   unfold eqGuard
   split <;> simp
  simp [execOp,ho,hxv,hc,hg,Go.binOp,hq']
 refine wpIn_of_wp hnd ?_
 unfold Oper.wp
 rw [hr]
 have hput:=h.put' (d:=o.dst) (av:=.r (.bo false)) (v:=.bool false) (by simp only [AV.rel,RV.rel]) hd
 exact hKW _ _ p _ hput (by cases o.dst <;> rfl) hK
theorem gop_eqnilO {K : AS → Prop} {x : Operand} {t t' : TypeId} (ho : o.op = .binOp .eql t x (.const (.slice none 0 0)) t') {e esz eb : Nat} {ez : List RV} {ssz : Nat} {sagg : Bool} {sz0 : List RV}
 (e1 : tyq P t = some ⟨.slice e esz eb ez,ssz,sagg,sz0⟩) {k sz off m : Nat} (hx : s.ev x = .os k (s.ver k) sz off m) (h0 : 0 < m) (hK : K (s.put o.dst (.r (.bo false)))) : gop P o K s:=by
 intro C p a w h hd hnd KW Q hKW
 obtain ⟨hu,_⟩:=tyq_slice e1
 obtain ⟨ad,c,hxv⟩ : ∃ ad c,a.eval x = .slice (some ad) m c:=by
  rcases ev_os h hx rfl with ⟨_,_,_,rfl,A,hv⟩ | ⟨b,A,hβ,hv,hle2,hA⟩
  · omega
  · obtain rfl:=hA (.inl h0)
    exact ⟨_,_,hv⟩
 have hq : ∀ d : Nat,(Op.equalIn (d + 1) t (.slice (some ad) m c) (.slice none 0 0)).run P w = .ok false w:=fun d=>by
  simp only [Op.equalIn,Sem.run_bind,run_underlying hu,Result.andThen_ok,Sem.run_pure]
 have hr : (execOp a.eval o).run P w = .ok (.value (.bool false)) w:=by
  have hq' : (Op.equal t (.slice (some ad) m c) (.slice none 0 0)).run P w = .ok false w:=hq 9999
  have hc : a.eval (.const (.slice none 0 0)) = .slice none 0 0:=rfl
  have hg : (eqGuard .eql t x (.const (.slice none 0 0)) (.slice (some ad) m c) (.slice none 0 0)).run P w = .ok () w:=by
   unfold eqGuard
   split <;> simp
  simp [execOp,ho,hxv,hc,hg,Go.binOp,hq']
 refine wpIn_of_wp hnd ?_
 unfold Oper.wp
 rw [hr]
 have hput:=h.put' (d:=o.dst) (av:=.r (.bo false)) (v:=.bool false) (by simp only [AV.rel,RV.rel]) hd
 exact hKW _ _ p _ hput (by cases o.dst <;> rfl) hK
theorem gop_clear {K : AS → Prop} {x : Operand} {t : TypeId} (ho : o.op = .call ⟨.builtin .clear,#[x],#[t]⟩) {e esz eb : Nat} {ez : List RV} {ssz : Nat} {sagg : Bool} {sz0 : List RV}
 (e1 : tyq P t = some ⟨.slice e esz eb ez,ssz,sagg,sz0⟩) {k n off m : Nat} {es : List (List RV)} (e3 : s.ev x = .os k n esz off m) (e5 : s.rows k = ⟨n,.arr e esz es⟩) (h0 : 0 < m) (hfit : off + m ≤ es.length)
 (hK : K (AS.put { s with rows:=upd s.rows k ⟨n,.arr e esz (es.take off ++ (List.replicate m ez ++ es.drop (off + m)))⟩ } o.dst (.r .un))) : gop P o K s:=by
 intro C p a w h hd hnd KW Q hKW
 refine wpIn_of_wp hnd ?_
 have hn2 : n = (s.rows k).ver:=by rw [e5]
 obtain ⟨hu,hok,hco,hby,zv,hzv,hez⟩:=tyq_slice e1
 obtain ⟨i,z,hi,hzero,hcells,hz1,hzl⟩:=zeroOf_spec hzv
 rw [hco] at hzl
 have hezl : ez.length = esz:=by rw [hez,List.length_map,hzl]
 rcases ev_os h e3 hn2 with ⟨_,_,_,rfl,A,hv⟩ | ⟨b,A,hβ,hv,hle2,hA⟩
 · omega
 · obtain rfl:=hA (.inl h0)
   have hfl : ∀ m : Nat,((List.replicate m zv).flatten).length = m * esz:=fun m=>by
    induction m with
    | zero=>simp
    | succ m ih=>rw [List.replicate_succ,List.flatten_cons,List.length_append,ih,hzl,Nat.succ_mul]; omega
   have hone : ∀ u ∈ (List.replicate m zv).flatten,u.oneCell' = true:=fun u hu=>by
    obtain ⟨l,hl,hul⟩:=List.mem_flatten.1 hu
    rw [List.eq_of_mem_replicate hl] at hul
    exact hz1 u hul
   have hrelV : ∀ m : Nat,RV.relV w p.R (List.replicate m ez).flatten (List.replicate m zv).flatten:=fun m=>by
    induction m with
    | zero=>simp [RV.relV]
    | succ m ih=>rw [List.replicate_succ,List.replicate_succ,List.flatten_cons,List.flatten_cons]; exact RV.relV_append (by rw [hez]; exact RV.relV_ofV1 w p.R zv) ih
   obtain ⟨cells,hh,hf,hset⟩:=set_row (m:=off) (ns:=List.replicate m ez) (vs:=(List.replicate m zv).flatten) h (by rw [e5]) hβ (by rw [List.length_replicate]; omega) (by rw [List.length_replicate,hfl]) (fun x hx=>by rw [List.eq_of_mem_replicate hx,hezl]) (hrelV m) hone
   rw [List.length_replicate] at hset
   have hst:=run_storeCells_at P b (off * esz) e (List.replicate m zv).flatten 0 cells w hh (by simpa using hf) hone
   have hzlist : (Builtin.zeroCells z.cells m).toList = (List.replicate m zv).flatten:=by
    show (madeCells z.cells (m * z.cells.size)).toList = _
    rw [madeCells_list,hcells]
   have hrun : (Builtin.clear_ #[t] o.type #[.slice (some ⟨b,off * esz,none⟩) m (p.γ k - off)]).run P w = .ok (.tuple #[]) (w.setRow b (cells.toList.take (off * esz) ++ (List.replicate m zv).flatten ++ cells.toList.drop (off * esz + (List.replicate m zv).flatten.length)).toArray):=by
    clear hset hf hone
    generalize (List.replicate m zv).flatten = V at *
    obtain ⟨q,rfl⟩ : ∃ q,m = q + 1:=⟨m - 1,by omega⟩
    have hz0 : (zeroValue e).run P w = .ok z w:=by simp [zeroValue,typeInfo,hi,hzero]
    simp only [Nat.add_zero] at hst ⊢
    simp [Builtin.clear_,run_underlying hu,hz0,hzlist,hst]
   have hr2 : (execOp a.eval o).run P w = .ok (.value (.tuple #[])) (w.setRow b (cells.toList.take (off * esz) ++ (List.replicate m zv).flatten ++ cells.toList.drop (off * esz + (List.replicate m zv).flatten.length)).toArray) :=
    run_builtin_of ho (by simp only [builtin,Sem.run_bind,List.map_toArray,List.map_cons,List.map_nil,hv,hrun,Result.andThen_ok,Sem.run_pure])
   unfold Oper.wp
   rw [hr2]
   have hn3 : (s.rows k).ver = n:=hn2.symm
   rw [hn3] at hset
   have hput:=hset.put' (d:=o.dst) (av:=.r .un) (v:=.tuple #[]) (AV.rel_un _ _ _ _) hd
   exact hKW _ _ p _ hput (app_n' _ _ _) hK
end
section
variable {P : Program} {C : Ctx} {n : Nat} {l : List (Nat × AV)} {vs : Nat → Nat} {cs : List (Nat × RowC)}
def bumpL : List (Nat × Nat) → (Nat → Nat) → Nat → Nat
 | [],vs=>vs
 | (pk,ck) :: ρ,vs=>if pk < 1000 then upd (bumpL ρ vs) ck (vs ck + 1) else upd (bumpL ρ vs) ck (vs ck)
def regCs (nv : Nat → Nat) (ρ : List (Nat × Nat)) (L' : List (Nat × RowC)) : List (Nat × Nat) → List (Nat × RowC) → List (Nat × RowC)
 | [],cs=>cs
 | (pk,ck) :: q,cs=>insc (regCs nv ρ L' q cs) ck (backC ρ nv (lookc L' pk))
theorem bump_eq (vs : Nat → Nat) : ∀ ρ : List (Nat × Nat),bumpL ρ vs = bumpV ρ vs
 | []=>by funext j; rfl
 | (a, b) :: ρ => by
   funext j
   simp only [bumpL,bump_eq vs ρ,bumpV,lendKey]
   by_cases e : j = b
   · subst e
     by_cases h : a < 1000
     · simp [upd,h]
     · simp [upd,h]
   · by_cases h : a < 1000
     · simp only [h,if_true,upd,e,if_false]; rfl
     · simp only [h,if_false,upd,e]; rfl
theorem reg_st {ρ : List (Nat × Nat)} {L' : List (Nat × RowC)} : ({ st n l vs cs with rows:=regRows ρ (bumpV ρ (st n l vs cs).ver) L' (st n l vs cs).rows } : AS) = st n l (bumpL ρ vs) (regCs (bumpL ρ vs) ρ L' ρ cs):=by
 have hv : (st n l vs cs).ver = vs:=rfl
 rw [hv,← bump_eq]
 have : ∀ q : List (Nat × Nat),(fun j=>match lendKey q j with | some pk=>(⟨bumpL ρ vs j,backC ρ (bumpL ρ vs) (lookc L' pk)⟩ : Row) | none=>⟨bumpL ρ vs j,lookc cs j⟩) = fun j=>⟨bumpL ρ vs j,lookc (regCs (bumpL ρ vs) ρ L' q cs) j⟩:=by
  intro q
  induction q with
  | nil=>rfl
  | cons x q ih =>
    obtain ⟨pk,ck⟩:=x
    funext j
    have ihj:=congrFun ih j
    simp only [lendKey,regCs,lookc_insc]
    by_cases e : j = ck
    · subst e; simp
    · simp only [e,if_false]; exact ihj
 simp only [st,AS.mk.injEq,true_and]
 refine Eq.trans ?_ (this ρ)
 funext j
 unfold regRows
 cases hk : lendKey ρ j with
 | none =>
   have : bumpL ρ vs j = vs j:=by rw [bump_eq]; simp [bumpV,hk]
   simp only [this]
 | some pk=>rfl
theorem gop_rcallS {o : Oper} {K : AS → Prop} {f : Operand} {args : Array Operand} {ts : Array TypeId} {F : FuncId} {cs' az : List AV} {r : AV} {L L' : List (Nat × RowC)} (hR : RCalls P F L L' az r) (ρ : List (Nat × Nat)) (ho : o.op = .call ⟨.value f,args,ts⟩)
 (hF : callee? ((st n l vs cs).ev f) = some (F,cs')) (hl : lendL ρ vs (args.toList.map (st n l vs cs).ev ++ cs') = some az) (hlo : lendOkR ρ (st n l vs cs) ρ L) (hap : apart ρ = true) (hsk : sameKeys ρ L' = true) (hlow : lowKeys ρ = true)
 (hK : K (AS.put (st n l (bumpL ρ vs) (regCs (bumpL ρ vs) ρ L' ρ cs)) o.dst (backA ρ (bumpL ρ vs) r))) : gop P o K (st n l vs cs):=gop_rcall hR ρ ho hF hl hlo hap hsk hlow (by rw [reg_st,← show bumpL ρ vs = bumpV ρ (st n l vs cs).ver from bump_eq vs ρ]; exact hK)
theorem gop_clearS {o : Oper} {x : Operand} {t : TypeId} {K : AS → Prop} (ho : o.op = .call ⟨.builtin .clear,#[x],#[t]⟩) {e esz eb : Nat} {ez : List RV} {ssz : Nat} {sagg : Bool} {sz0 : List RV}
 (e1 : tyq P t = some ⟨.slice e esz eb ez,ssz,sagg,sz0⟩) {k v off m : Nat} {es : List (List RV)} (hv : v = vs k) (e3 : (st n l vs cs).ev x = .os k v esz off m) (e5 : lookc cs k = .arr e esz es) (h0 : 0 < m) (hfit : off + m ≤ es.length)
 (hK : K (AS.put (st n l vs (insc cs k (.arr e esz (es.take off ++ (List.replicate m ez ++ es.drop (off + m)))))) o.dst (.r .un))) : gop P o K (st n l vs cs):=by
 subst hv
 refine gop_clear ho e1 e3 (by show (⟨vs k,lookc cs k⟩ : Row) = _; rw [e5]) h0 hfit ?_
 have : ({ st n l vs cs with rows:=upd (st n l vs cs).rows k ⟨vs k,.arr e esz (es.take off ++ (List.replicate m ez ++ es.drop (off + m)))⟩ } : AS) = st n l vs (insc cs k (.arr e esz (es.take off ++ (List.replicate m ez ++ es.drop (off + m))))):=by
  have:=row_st (n:=n) (l:=l) (vs:=vs) (cs:=cs) (k:=k) (m:=vs k) (c:=.arr e esz (es.take off ++ (List.replicate m ez ++ es.drop (off + m))))
  rw [Go.Oc.upd_self] at this
  exact this
 rw [this]
 exact hK
attribute [go_sem] bumpL regCs
end
end Go.Oc

namespace Go.Proofs.Ytlljkgiomkmjbaa
open Go Go.Oc
set_option linter.unusedSimpArgs false
set_option linter.unusedVariables false
set_option maxRecDepth 8000
set_option maxHeartbeats 4000000
theorem eqn40 : eqN Try.prog 40 = some 2:=by kernel_rfl
theorem aR_drop {L : List RV} {i : Nat} {x : RV} (h : L[i]? = some x) : (L.map AV.r).drop i = .r x :: (L.map AV.r).drop (i + 1):=by
 refine drop_of_opt ?_
 simp [h]
theorem aR_set {L : List RV} {i : Nat} {y : RV} (h : i < L.length) : (L.map AV.r).take i ++ (AV.r y :: (L.map AV.r).drop (i + 1)) = (L.set i y).map AV.r:=by
 rw [show (L.set i y).map AV.r = (L.map AV.r).set i (.r y) by simp [List.map_set],List.set_eq_take_append_cons_drop,if_pos (by simpa using h)]
def nG (g : Nat) : Nat:=1 + 2 * (g % 4)
def dayR (g : Nat) (legs : List Nat) (i : Nat) : Tm.Res:=Tm.resT (fun j=>Tm.byteN legs (7 * i + j)) (nG g)
def dayM (g : Nat) (legs : List Nat) (i : Nat) (v : Nat × Nat) : Tb.Mt :=
 ⟨((v.1 % 4 : Nat) : Int),(((v.1 % 4 + 1 + v.2 % 3) % 4 : Nat) : Int),true,(dayR g legs i).p0,(dayR g legs i).p1⟩
def daysL (g : Nat) (legs : List Nat) (ps : List (Nat × Nat)) : Nat → List Tb.Mt
 | 0=>[]
 | i + 1=>daysL g legs ps i ++ [dayM g legs i (ps.getD i (0,0))]
theorem daysL_len (g : Nat) (legs : List Nat) (ps : List (Nat × Nat)) : ∀ i,(daysL g legs ps i).length = i
 | 0=>rfl
 | i + 1=>by simp [daysL,daysL_len g legs ps i]
theorem day_odd (g : Nat) (legs : List Nat) (i : Nat) (v : Nat × Nat) : Tb.Odd8 (nG g) (dayM g legs i v):=by
 have hg4:=Nat.mod_lt g (show 4 > 0 by omega)
 have hnG : nG g = 1 + 2 * (g % 4):=rfl
 obtain ⟨p,q,h1,h2,h3,_,_⟩:=Tm.resT_facts (fun j=>Tm.byteN legs (7 * i + j)) (n:=nG g) (by omega) (by omega)
 have h1' : (dayR g legs i).p0 = p:=h1
 have h2' : (dayR g legs i).p1 = q:=h2
 have m1:=Nat.mod_lt v.1 (show 4 > 0 by omega)
 have m2:=Nat.mod_lt v.2 (show 3 > 0 by omega)
 have m3:=Nat.mod_lt (v.1 % 4 + 1 + v.2 % 3) (show 4 > 0 by omega)
 have ht : (Tb.r8 (nG g)).teams = 4:=rfl
 have hl : (Tb.r8 (nG g)).legs = nG g:=rfl
 unfold dayM
 rw [h1',h2']
 refine ⟨⟨?_,?_,?_,?_,?_⟩,rfl,?_⟩
 · simp only; omega
 · simp only; omega
 · simp only; omega
 · simp only [Tb.legsOf,if_true]; omega
 · simp only [Tb.legsOf,if_true]; omega
 · simp only; omega
theorem days_odd {g : Nat} {legs : List Nat} {ps : List (Nat × Nat)} : ∀ {i : Nat},∀ m ∈ daysL g legs ps i,Tb.Odd8 (nG g) m
 | 0,m,h=>by simp [daysL] at h
 | i + 1, m, h => by
   rw [daysL,List.mem_append,List.mem_singleton] at h
   rcases h with h | rfl
   · exact days_odd m h
   · exact day_odd _ _ _ _
abbrev wonA (l : List Tb.Mt) : List AV:=((Tb.wonL l).map fun x=>i64 x).map AV.r
abbrev ptsA (l : List Tb.Mt) : List AV:=((Tb.ptsT l).map fun x=>i64 x).map AV.r
theorem nightt_law (g : Nat) (hg : g < 256) (legs : List Nat) (hl : ∀ n ∈ legs,n < 256) (ps : List (Nat × Nat)) (hp : ∀ v ∈ ps,v.1 < 256 ∧ v.2 < 256) (turn : Nat) (ht : turn < 256) :
 ACalls Try.prog 8 [.ag [.it .u8 (g : Int),Tm.bytQ legs,.sl 2 (ps.map fun v=>[.it .u8 (v.1 : Int),.it .u8 (v.2 : Int)]),.it .u8 (turn : Int)]] (.bo true):=by
 have hk1:=Tb.knownTeam_ok
 have hk2:=Tb.knownT_ok
 have hg4:=Nat.mod_lt g (show 4 > 0 by omega)
 have hnG : nG g = 1 + 2 * (g % 4):=rfl
 have k1 : IntKind.i64.wrap (g : Int) = g:=by rw [zI] <;> omega
 have k2 : Int.tmod (g : Int) 4 = ((g % 4 : Nat) : Int):=rfl
 have k3 : IntKind.i64.wrap (2 * ((g % 4 : Nat) : Int)) = 2 * ((g % 4 : Nat) : Int):=by rw [zI] <;> omega
 have k4 : IntKind.i64.wrap (1 + 2 * ((g % 4 : Nat) : Int)) = (nG g : Int):=by rw [zI] <;> omega
 have kt : IntKind.i64.wrap (turn : Int) = turn:=by rw [zI] <;> omega
 have hni:=fun i (hi : i < 12)=>by
  have:=Tm.night7_ok g hg legs hl (7 * i) (by omega)
  rw [← hnG] at this
  exact this
 have hnk:=Tm.night_ok
 obtain ⟨PS,hPS⟩ : ∃ PS : RV,PS = .sl 2 (ps.map fun v=>[.it .u8 (v.1 : Int),.it .u8 (v.2 : Int)]):=⟨_,rfl⟩
 refine acalls_st (rs:=[.bo true]) [.tmp 2] Try.func8 rfl (by kernel_rfl) Try.ntmps8 rfl (by simp) rfl fun C vs=>?_
 repeat refine zq ?_
 refine zb fun K hK=>?_;simp only [go_sem];(try simp (disch:=omega) only [zI]);repeat first | intro _ | refine ⟨by omega,?_⟩
 refine hK _ ?_;clear hK K;refine zw (sub_frzP 1 1 [.it .u8 (g : Int),Tm.bytQ legs,.sl 2 (ps.map fun v=>[.it .u8 (v.1 : Int),.it .u8 (v.2 : Int)]),.it .u8 (turn : Int)] (by omega) rfl rfl) ?_;refine zw (zk [1]) ?_;simp only [go_sem]
 repeat refine zq ?_
 refine zg follows (by decide +kernel) (by kernel_rfl) fun K hK=>?_;simp only [go_sem];(try simp (disch:=omega) only [zI]);repeat first | intro _ | refine ⟨by omega,?_⟩
 repeat first | intro _ | refine ⟨by omega,?_⟩
 refine hK _ ?_;clear hK K;refine zw (zk [3,4,5,6]) ?_;simp only [go_sem]
 repeat refine zq ?_
 refine zb fun K hK=>?_;simp only [go_sem,k1,k2,k3,k4];(try simp (disch:=omega) only [zI]);repeat first | intro _ | refine ⟨by omega,?_⟩
 refine hK _ ?_;clear hK K;refine zw (sub_frzP 7 7 [i64 4,i64 (nG g : Int),i64 3,i64 1,.ns,i64 0,i64 0] (by omega) rfl rfl) ?_;refine zw (zk [3,4,5,6,7]) ?_;simp only [go_sem]
 repeat refine zq ?_
 refine zb fun K hK=>?_;simp only [go_sem];(try simp (disch:=omega) only [zI]);repeat first | intro _ | refine ⟨by omega,?_⟩
 refine hK _ ?_;clear hK K;refine zw (sub_own 8 216 120 5 (by omega) rfl) ?_;refine zw (zk [3,4,5,6,7,8,9,10]) ?_;simp only [go_sem]
 repeat refine zq ?_
 refine zb fun K hK=>?_;simp only [go_sem];(try simp (disch:=omega) only [zI]);repeat first | intro _ | refine ⟨by omega,?_⟩
 refine hK _ ?_;clear hK K;refine zw (zk [3,4,5,6,7,8,9,10,11]) ?_;simp only [go_sem]
 repeat refine zq ?_
 refine awp_joinV (n:=292) (fun (_ : Unit) vs=>[(7,.r (.rp [i64 4,i64 (nG g : Int),i64 3,i64 1,.ns,i64 0,i64 0])),(8,.r (Tb.mtsR (daysL g legs ps (min 12 ps.length)))),(9,.pt 9 (vs 9) 0),(10,.pt 10 (vs 10) 0)]) (fun _ vs=>[(9,.box (wonA (daysL g legs ps (min 12 ps.length)))),(10,.box (ptsA (daysL g legs ps (min 12 ps.length))))]) (fun _=>True) (fun _ h=>h) ?_ ?_
 · repeat refine zq ?_
   refine zd ?_
   refine awp_uptoV (n:=292) (min 12 ps.length) (fun i vs=>[(3,.r (.it .u8 (g : Int))),(4,.r (Tm.bytQ legs)),(5,.r (.sl 2 (ps.map fun v=>[.it .u8 (v.1 : Int),.it .u8 (v.2 : Int)]))),(6,.r (.it .u8 (turn : Int))),(7,.r (.rp [i64 4,i64 (nG g : Int),i64 3,i64 1,.ns,i64 0,i64 0])),(8,.os 216 (vs 216) 5 0 i),(9,.pt 9 (vs 9) 0),(10,.pt 10 (vs 10) 0),(11,.r (i64 (i : Int)))])
    (fun i vs=>[(9,.box (wonA (daysL g legs ps i))),(10,.box (ptsA (daysL g legs ps i))),(216,.arr 120 5 ((daysL g legs ps i).map Tb.mtR))]) (fun _=>True) 0 (zj [] ?_ ?_) (Nat.zero_le _) trivial ?_
   · try simp only [go_sem]
     try rfl
   · try simp only [go_sem]
     try rfl
   · intro i vs hi _
     by_cases hin : i < ps.length ∧ i < 12
     · obtain ⟨hi1,hi2⟩:=hin
       have g1 : decide ((i : Int) < 12) = true:=decide_eq_true (by omega)
       obtain ⟨v,hv⟩:=opt_of_lt hi1
       obtain ⟨v1,v2⟩:=hp v (mem_of_opt hv)
       have hds : daysL g legs ps (i + 1) = daysL g legs ps i ++ [dayM g legs i v]:=by rw [daysL,List.getD_eq_getElem?_getD,hv]; rfl
       have hdl:=daysL_len g legs ps i
       rw [hds]
       have hDo:=days_odd (g:=g) (legs:=legs) (ps:=ps) (i:=i)
       generalize daysL g legs ps i = D at *
       repeat refine zq ?_
       refine zb fun K hK=>?_;simp only [go_sem,hi1,g1];(try simp (disch:=omega) only [zI]);repeat first | intro _ | refine ⟨by omega,?_⟩
       refine hK _ ?_;clear hK K;refine zw (zk [3,4,5,6,7,8,9,10,11,54]) ?_;simp only [go_sem]
       repeat refine zq ?_
       refine zc rfl (fun hc=>?_) (fun hc=>?_) <;> (try simp only [go_sem] at hc)
       refine zx ?_
       try simp only [go_sem]
       repeat refine zq ?_
       refine zd ?_
       have a1 : IntKind.i64.wrap (v.1 : Int) = v.1:=by rw [zI] <;> omega
       have a2 : Int.tmod (v.1 : Int) 4 = ((v.1 % 4 : Nat) : Int):=rfl
       have a3 : IntKind.i64.wrap (v.2 : Int) = v.2:=by rw [zI] <;> omega
       have a4 : Int.tmod (v.2 : Int) 3 = ((v.2 % 3 : Nat) : Int):=rfl
       have m1:=Nat.mod_lt v.1 (show 4 > 0 by omega)
       have m2:=Nat.mod_lt v.2 (show 3 > 0 by omega)
       have hdm : Tb.mtR (dayM g legs i v) = [i64 ((v.1 % 4 : Nat) : Int),i64 (((v.1 % 4 + 1 + v.2 % 3) % 4 : Nat) : Int),.bo true,i64 (dayR g legs i).p0,i64 (dayR g legs i).p1]:=rfl
       have hodd:=day_odd g legs i v
       have hne : (v.1 % 4 + 1 + v.2 % 3) % 4 ≠ v.1 % 4:=by omega
       have hdf : (dayM g legs i v).f = (dayR g legs i).p0 ∧ (dayM g legs i v).g = (dayR g legs i).p1 ∧ (dayM g legs i v).h = ((v.1 % 4 : Nat) : Int) ∧ (dayM g legs i v).a = (((v.1 % 4 + 1 + v.2 % 3) % 4 : Nat) : Int):=⟨rfl,rfl,rfl,rfl⟩
       have hwl:=Tb.wonL_snoc D (dayM g legs i v)
       have hpl:=Tb.ptsT_snoc D (dayM g legs i v)
       generalize dayM g legs i v = M at *
       generalize v.1 % 4 = x at *
       generalize v.2 % 3 = y at *
       have a5 : IntKind.i64.wrap ((x : Int) + 1) = (x : Int) + 1:=by rw [zI] <;> omega
       have a6 : IntKind.i64.wrap ((x : Int) + 1 + (y : Int)) = (x : Int) + 1 + (y : Int):=by rw [zI] <;> omega
       have a7 : Int.tmod ((x : Int) + 1 + (y : Int)) 4 = (((x + 1 + y) % 4 : Nat) : Int):=by rw [show (x : Int) + 1 + (y : Int) = ((x + 1 + y : Nat) : Int) by omega]; rfl
       have m3:=Nat.mod_lt (x + 1 + y) (show 4 > 0 by omega)
       generalize (x + 1 + y) % 4 = z at *
       have a8 : IntKind.i64.wrap (7 * (i : Int)) = ((7 * i : Nat) : Int):=by rw [zI] <;> omega
       repeat refine zq ?_
       refine zb fun K hK=>?_;simp only [go_sem,hv,hi1,a1,a2];(try simp (disch:=omega) only [zI]);repeat first | intro _ | refine ⟨by omega,?_⟩
       repeat first | intro _ | refine ⟨by omega,?_⟩
       refine hK _ ?_;clear hK K;refine zw (zk [3,4,5,6,7,8,9,10,11,12]) ?_;simp only [go_sem]
       repeat refine zq ?_
       refine zb fun K hK=>?_;simp only [go_sem,hv,hi1,a3,a4,a5,a6,a7];(try simp (disch:=omega) only [zI]);repeat first | intro _ | refine ⟨by omega,?_⟩
       repeat first | intro _ | refine ⟨by omega,?_⟩
       refine hK _ ?_;clear hK K;refine zw (zk [3,4,5,6,7,8,9,10,11,12,13]) ?_;simp only [go_sem]
       obtain ⟨pp,qq,r1,r2,r3,r4,r5⟩:=Tm.resT_facts (fun j=>Tm.byteN legs (7 * i + j)) (n:=nG g) (by omega) (by omega)
       have hnT:=fun (l' : List Tm.Sheet) (h1 : l'.length ≤ 200) h2=>Tm.night_T (fun j=>Tm.byteN legs (7 * i + j)) (n:=nG g) (by omega) (by omega) (l':=l') h1 h2
       have hnii:=hni i hi2
       have hLl : (Tm.lT (fun j=>Tm.byteN legs (7 * i + j)) (nG g)).length = nG g:=by simp [Tm.lT]
       have hdr : dayR g legs i = Tm.resT (fun j=>Tm.byteN legs (7 * i + j)) (nG g):=rfl
       rw [hdr] at hdm hdf
       generalize Tm.resT (fun j=>Tm.byteN legs (7 * i + j)) (nG g) = R at *
       generalize Tm.lT (fun j=>Tm.byteN legs (7 * i + j)) (nG g) = L at *
       repeat refine zq ?_
       refine zb fun K hK=>?_;simp only [go_sem,a8];(try simp (disch:=omega) only [zI])
       refine zh (hnii) rfl (by simp only [go_sem,i64,ints]) (by simp only [go_sem,i64,ints]) (by first | exact .inl rfl | exact .inr rfl) ?_
       (try simp only [go_sem]);(try simp (disch:=omega) only [zI]);repeat first | intro _ | refine ⟨by omega,?_⟩
       refine hK _ ?_;clear hK K;refine zw (sub_frzP 14 14 (Tm.rulesC (Tm.rT (nG g))) (by omega) rfl rfl) ?_;refine zw (zk [3,4,5,6,7,8,9,10,11,12,13,14,15]) ?_;simp only [go_sem]
       repeat refine zq ?_
       refine zb fun K hK=>?_;simp only [go_sem];(try simp (disch:=omega) only [zI]);repeat first | intro _ | refine ⟨by omega,?_⟩
       refine hK _ ?_;clear hK K;refine zw (sub_own 16 100 114 4 (by omega) rfl) ?_;refine zw (zk [3,4,5,6,7,8,9,10,11,12,13,14,15,16]) ?_;simp only [go_sem]
       repeat refine zq ?_
       refine zb fun K hK=>?_;simp only [go_sem];(try simp (disch:=omega) only [zI]);repeat first | intro _ | refine ⟨by omega,?_⟩
       refine hK _ ?_;clear hK K;refine zw (zk [3,4,5,6,7,8,9,10,11,12,13,14,15,16,17]) ?_;simp only [go_sem]
       repeat refine zq ?_
       refine awp_joinV (n:=292) (fun (_ : Unit) vs=>[(3,.r (.it .u8 (g : Int))),(4,.r (Tm.bytQ legs)),(5,.r (.sl 2 (ps.map fun v=>[.it .u8 (v.1 : Int),.it .u8 (v.2 : Int)]))),(6,.r (.it .u8 (turn : Int))),(7,.r (.rp [i64 4,i64 (nG g : Int),i64 3,i64 1,.ns,i64 0,i64 0])),(8,.os 216 (vs 216) 5 0 i),(9,.pt 9 (vs 9) 0),(10,.pt 10 (vs 10) 0),(11,.r (i64 (i : Int))),(12,.r (i64 (x : Int))),(13,.r (i64 (z : Int))),(14,.r (.rp (Tm.rulesC (Tm.rT (nG g))))),(15,.r (Tm.sheets L)),(16,.os 100 (vs 100) 4 0 (nG g))])
        (fun _ vs=>[(9,.box (wonA D)),(10,.box (ptsA D)),(100,.arr 114 4 ((Tm.backT L turn (nG g)).map Tm.sheetC)),(216,.arr 120 5 (D.map Tb.mtR))]) (fun _=>True) (fun _ h=>h) ?_ ?_
       · generalize wonA D = WA at *
         generalize ptsA D = PA at *
         generalize D.map Tb.mtR = DA at *
         generalize Tm.rulesC (Tm.rT (nG g)) = RC at *
         generalize (RV.sl 2 (ps.map fun v=>[.it .u8 (v.1 : Int),.it .u8 (v.2 : Int)])) = PS at *
         repeat refine zq ?_
         refine zd ?_
         refine awp_uptoV (n:=292) (nG g) (fun k vs=>[(3,.r (.it .u8 (g : Int))),(4,.r (Tm.bytQ legs)),(5,.r PS),(6,.r (.it .u8 (turn : Int))),(7,.r (.rp [i64 4,i64 (nG g : Int),i64 3,i64 1,.ns,i64 0,i64 0])),(8,.os 216 (vs 216) 5 0 i),(9,.pt 9 (vs 9) 0),(10,.pt 10 (vs 10) 0),(11,.r (i64 (i : Int))),(12,.r (i64 (x : Int))),(13,.r (i64 (z : Int))),(14,.r (.rp RC)),(15,.r (Tm.sheets L)),(16,.os 100 (vs 100) 4 0 k),(17,.r (i64 (k : Int)))])
          (fun k vs=>[(9,.box WA),(10,.box PA),(100,.arr 114 4 ((Tm.backT L turn k).map Tm.sheetC)),(216,.arr 120 5 DA)]) (fun _=>True) 0 (zj [] ?_ ?_) (Nat.zero_le _) trivial ?_
         · try simp only [go_sem]
           try rfl
           try exact ⟨rfl,rfl⟩
         · try simp only [go_sem]
           try rfl
         · intro k vs hk _
           repeat refine zq ?_
           refine zb fun K hK=>?_;simp only [go_sem,hLl,List.length_map];(try simp (disch:=omega) only [zI]);repeat first | intro _ | refine ⟨by omega,?_⟩
           refine hK _ ?_;clear hK K;refine zw (zk [3,4,5,6,7,8,9,10,11,12,13,14,15,16,17,87]) ?_;simp only [go_sem]
           repeat refine zq ?_
           refine zc rfl (fun hc=>?_) (fun hc=>?_) <;> (try simp only [go_sem] at hc)
           · have hkn : k < nG g:=by omega
             have b1 : IntKind.i64.wrap ((k : Int) + (turn : Int)) = (k : Int) + (turn : Int):=by rw [zI] <;> omega
             have b2 : Int.tmod ((k : Int) + (turn : Int)) (nG g : Int) = (((k + turn) % nG g : Nat) : Int):=by rw [← Int.natCast_add]; rfl
             have b3:=Nat.mod_lt (k + turn) (show nG g > 0 by omega)
             have bk : Tm.backT L turn (k + 1) = L.getD ((k + turn) % nG g) ⟨0,0,0,0⟩ :: Tm.backT L turn k:=by rw [Tm.backT,hLl]
             have bl:=Tm.backT_len L turn k
             generalize (k + turn) % nG g = q at *
             obtain ⟨S,hS⟩:=opt_of_lt (l:=L) (i:=q) (by omega)
             have hSd : L.getD q ⟨0,0,0,0⟩ = S:=by rw [List.getD_eq_getElem?_getD,hS]; rfl
             rw [hSd] at bk
             rw [bk]
             generalize Tm.backT L turn k = B at *
             have b4 : IntKind.i64.wrap (q : Int) = (q : Int):=by rw [zI] <;> omega
             have b5 : ((nG g : Int) == 0) = false:=by rw [beq_eq_false_iff_ne]; omega
             have b6 : ¬ (nG g : Int) = 0:=by omega
             have b7 : ¬ nG g = 0:=by omega
             refine zx ?_
             try simp only [go_sem]
             repeat refine zq ?_
             refine zd ?_;refine zw (sub_frz (ty:=114) (sz:=4) (off:=0) (m:=k) (es:=B.map Tm.sheetC) 16 100 (by omega) rfl rfl (by simp; omega)) ?_;refine zw (zk [3,4,5,6,7,8,9,10,11,12,13,14,15,16,17]) ?_;simp only [go_sem]
             have tk0 : List.take k (B.map Tm.sheetC) = B.map Tm.sheetC:=List.take_of_length_le (by simp; omega)
             rw [tk0]
             repeat refine zq ?_
             refine awp_long ?_
             refine sops_take 10 (by kernel_rfl) fun K hK=>?_
             simp only [go_sem,List.take_succ_cons,List.take_zero,List.drop_succ_cons,List.drop_zero,List.append_eq,List.cons_append,List.nil_append,hLl,kt,b1,b2,b4,b5,b6,b7,hS,b3,bl,List.length_map];(try simp (disch:=omega) only [zI]);repeat first | intro _ | refine ⟨by omega,?_⟩
             repeat first | intro _ | refine ⟨by omega,?_⟩
             refine hK _ rfl ?_
             clear hK K
             refine sops_sub (zk [3,4,5,6,7,8,9,10,11,12,13,14,15,16,17,99]) ?_
             simp only [go_sem]
             refine sops_own (by simp [go_sem]) ?_
             simp only [go_sem,sBuildOwn]
             repeat first | refine ⟨by omega,?_⟩
             refine sops_end (by kernel_rfl) fun K hK=>?_
             simp only [go_sem,List.drop_succ_cons,List.drop_zero,List.append_eq,List.cons_append,List.nil_append,bl,List.length_map];(try simp (disch:=omega) only [zI]);repeat first | intro _ | refine ⟨by omega,?_⟩
             repeat first | intro _ | refine ⟨by omega,?_⟩
             refine hK _ ?_;clear hK K;refine zw (zk [3,4,5,6,7,8,9,10,11,12,13,14,15,16,17]) ?_;simp only [go_sem]
             repeat refine zq ?_
             refine zb fun K hK=>?_;simp only [go_sem];(try simp (disch:=omega) only [zI]);repeat first | intro _ | refine ⟨by omega,?_⟩
             refine hK _ ?_;clear hK K
             try simp only [go_sem]
             refine ⟨by omega,zj [] ?_ ?_⟩
             · try simp only [go_sem]
               rw [Nat.add_comm 1 k]
             · try simp only [go_sem]
           · have hkn : k = nG g:=by omega
             subst hkn
             refine zf ?_;simp only [go_sem]
             refine ⟨(),zj [] ?_ ?_⟩
             · try simp only [go_sem]
             · try simp only [go_sem]
       intro _ vs _
       have hbT:=Tm.back_all (L:=L) (by omega) turn
       have hbl:=Tm.backT_len L turn L.length
       rw [hLl] at hbT hbl
       have c1 : Int.tmod (turn : Int) (nG g : Int) = ((turn % nG g : Nat) : Int):=rfl
       have c2:=Nat.mod_lt turn (show nG g > 0 by omega)
       generalize Tm.backT L turn (nG g) = B at *
       generalize turn % nG g = q at *
       obtain ⟨S,hS⟩:=opt_of_lt (l:=L) (i:=q) (by omega)
       have hSd : L.getD q ⟨0,0,0,0⟩ = S:=by rw [List.getD_eq_getElem?_getD,hS]; rfl
       rw [hSd] at hbT
       have c4 : IntKind.i64.wrap (q : Int) = (q : Int):=by rw [zI] <;> omega
       have c5 : ((nG g : Int) == 0) = false:=by rw [beq_eq_false_iff_ne]; omega
       have c6 : ¬ (nG g : Int) = 0:=by omega
       have c7 : ¬ nG g = 0:=by omega
       repeat refine zq ?_
       refine zb fun K hK=>?_;simp only [go_sem,hLl,kt,c1,c2,c4,c5,c6,c7,hS,hbl,List.length_map];(try simp (disch:=omega) only [zI]);repeat first | intro _ | refine ⟨by omega,?_⟩
       repeat first | intro _ | refine ⟨by omega,?_⟩
       refine hK _ ?_;clear hK K;refine zw (zk [3,4,5,6,7,8,9,10,11,12,13,14,15,16]) ?_;simp only [go_sem];refine zw (sub_frz (ty:=114) (sz:=4) (off:=0) (m:=nG g + 1) (es:=(B ++ [S]).map Tm.sheetC) 16 100 (by omega) rfl (by simp; try rfl) (by simp; omega)) ?_;refine zw (zk [3,4,5,6,7,8,9,10,11,12,13,14,15,16]) ?_;simp only [go_sem]
       have tk1 : List.take (nG g + 1) ((B ++ [S]).map Tm.sheetC) = (B ++ [S]).map Tm.sheetC:=List.take_of_length_le (by simp; omega)
       rw [tk1]
       have hA:=hnk (Tm.rT (nG g)) L
       rw [hnT L (by omega) (fun x=>Iff.rfl)] at hA
       have hB:=hnk (Tm.rT (nG g)) (B ++ [S])
       rw [hnT (B ++ [S]) (by simp; omega) hbT] at hB
       repeat refine zq ?_
       refine zb fun K hK=>?_;simp only [go_sem];(try simp (disch:=omega) only [zI])
       refine zh (hA) rfl (by simp only [go_sem,i64,ints]) (by simp only [go_sem,i64,ints]) (by first | exact .inl rfl | exact .inr rfl) ?_
       (try simp only [go_sem]);(try simp (disch:=omega) only [zI]);repeat first | intro _ | refine ⟨by omega,?_⟩
       refine hK _ ?_;clear hK K;refine zw (sub_frzP 18 18 (Tm.resC R) (by omega) rfl rfl) ?_;refine zw (zk [3,4,5,6,7,8,9,10,11,12,13,14,16,18,20]) ?_;simp only [go_sem]
       repeat refine zq ?_
       refine zb fun K hK=>?_;simp only [go_sem];(try simp (disch:=omega) only [zI])
       refine zh (hB) rfl (by simp only [go_sem,i64,ints]) (by simp only [go_sem,i64,ints]) (by first | exact .inl rfl | exact .inr rfl) ?_
       (try simp only [go_sem]);(try simp (disch:=omega) only [zI]);repeat first | intro _ | refine ⟨by omega,?_⟩
       refine hK _ ?_;clear hK K;refine zw (sub_frzP 21 21 (Tm.resC R) (by omega) rfl rfl) ?_;refine zw (zk [3,4,5,6,7,8,9,10,11,12,13,18,20,21,23]) ?_;simp only [go_sem]
       obtain ⟨wi,hwi⟩ : ∃ wi : Nat,R.w = wi ∧ (wi = 0 ∧ qq < pp ∨ wi = 1 ∧ ¬ qq < pp):=by
        by_cases h : qq < pp
        · exact ⟨0,by rw [r5,if_pos h]; rfl,.inl ⟨rfl,h⟩⟩
        · exact ⟨1,by rw [r5,if_neg h]; rfl,.inr ⟨rfl,h⟩⟩
       obtain ⟨hwi,hcase⟩:=hwi
       have hRC : Tm.resC R = [i64 pp,i64 qq,i64 R.g0,i64 R.g1,i64 R.l0,i64 R.l1,.sl 1 [],i64 wi]:=by
        show [i64 R.p0,i64 R.p1,i64 R.g0,i64 R.g1,i64 R.l0,i64 R.l1,ints R.op,i64 R.w] = _
        rw [r1,r2,r4,hwi]; rfl
       rw [hRC]
       rw [r1,r2] at hdm hdf
       generalize R.g0 = y1 at *
       generalize R.g1 = y2 at *
       generalize R.l0 = y3 at *
       generalize R.l1 = y4 at *
       have s1 : IntKind.i64.wrap ((pp : Int) + (qq : Int)) = (nG g : Int):=by rw [zI] <;> omega
       have s2 : decide ((wi : Int) < 0) = false:=decide_eq_false (by omega)
       have s3 : decide (1 < (wi : Int)) = false:=decide_eq_false (by omega)
       have s4 : decide (1 < wi) = false:=decide_eq_false (by omega)
       have s5 : ∀ z : Int,(z != z) = false:=fun z=>by simp
       repeat refine zq ?_
       refine zb fun K hK=>?_;simp only [go_sem,eqn40,s1,s2,s3,s4,s5,bne_self_eq_false,beq_self_eq_true,Bool.and_self,Bool.not_true];(try simp (disch:=omega) only [zI]);repeat first | intro _ | refine ⟨by omega,?_⟩
       repeat first | intro _ | refine ⟨by omega,?_⟩
       refine hK _ ?_;clear hK K;refine zw (zk [3,4,5,6,7,8,9,10,11,12,13,18,175]) ?_;simp only [go_sem]
       repeat refine zq ?_
       refine zc rfl (fun hc=>?_) (fun hc=>?_) <;> (try simp only [go_sem] at hc)
       refine zx ?_
       try simp only [go_sem]
       repeat refine zq ?_
       refine zb fun K hK=>?_;simp only [go_sem];(try simp (disch:=omega) only [zI]);repeat first | intro _ | refine ⟨by omega,?_⟩
       refine hK _ ?_;clear hK K;refine zw (sub_frzP 24 24 [i64 (x : Int),i64 (z : Int)] (by omega) rfl rfl) ?_;refine zw (zk [3,4,5,6,7,8,9,10,11,12,13,18,24]) ?_;simp only [go_sem]
       obtain ⟨wl4,pl4⟩:=Tb.won_len D
       obtain ⟨sd,hsd,hsx⟩ : ∃ sd : Nat,Tb.winM M = sd ∧ (wi = 0 ∧ sd = x ∨ wi = 1 ∧ sd = z):=by
        unfold Tb.winM
        rw [hdf.1,hdf.2.1,hdf.2.2.1,hdf.2.2.2]
        rcases hcase with ⟨e,h⟩ | ⟨e,h⟩
        · rw [if_pos (by omega)]; exact ⟨x,rfl,.inl ⟨e,rfl⟩⟩
        · rw [if_neg (by omega)]; exact ⟨z,rfl,.inr ⟨e,rfl⟩⟩
       have hsd4 : sd < 4:=by omega
       obtain ⟨u,hu⟩:=opt_of_lt (l:=Tb.wonL D) (i:=sd) (by omega)
       have hub : 0 ≤ u ∧ u ≤ 1000:=by
        obtain ⟨_,_,_,_,_,i6,_⟩:=Tb.row8 (n:=nG g) (by omega) (l:=D) hDo hsd4
        rw [List.getD_eq_getElem?_getD,hu] at i6
        simp only [Option.getD_some] at i6
        omega
       have huw : IntKind.i64.wrap (u + 1) = u + 1:=by rw [zI] <;> omega
       have hw2 : wonA (D ++ [M]) = (((Tb.wonL D).map fun x=>i64 x).set sd (i64 (u + 1))).map AV.r:=by
        show List.map AV.r (List.map _ (Tb.wonL (D ++ [M]))) = _
        rw [hwl,Tb.wonS,hsd,List.getD_eq_getElem?_getD,hu,List.map_set]
        rfl
       have hdr1:=aR_drop (L:=(Tb.wonL D).map fun x=>i64 x) (i:=sd) (x:=i64 u) (by rw [List.getElem?_map,hu]; rfl)
       have hse1:=aR_set (L:=(Tb.wonL D).map fun x=>i64 x) (i:=sd) (y:=i64 (u + 1)) (by rw [List.length_map]; omega)
       obtain ⟨P1,hP1⟩:=opt_of_lt (l:=Tb.ptsT D) (i:=x) (by omega)
       obtain ⟨P2,hP2⟩:=opt_of_lt (l:=Tb.ptsT D) (i:=z) (by omega)
       have hPb : (0 ≤ P1 ∧ P1 ≤ 30000) ∧ 0 ≤ P2 ∧ P2 ≤ 30000:=by
        obtain ⟨_,_,_,_,_,_,i7⟩:=Tb.row8 (n:=nG g) (by omega) (l:=D) hDo (show x < 4 by omega)
        obtain ⟨_,_,_,_,_,_,j7⟩:=Tb.row8 (n:=nG g) (by omega) (l:=D) hDo (show z < 4 by omega)
        rw [List.getD_eq_getElem?_getD,hP1] at i7
        rw [List.getD_eq_getElem?_getD,hP2] at j7
        simp only [Option.getD_some] at i7 j7
        omega
       have hpw1 : IntKind.i64.wrap (P1 + (pp : Int)) = P1 + (pp : Int):=by rw [zI] <;> omega
       have hpw2 : IntKind.i64.wrap (P2 + (qq : Int)) = P2 + (qq : Int):=by rw [zI] <;> omega
       have hp2 : ptsA (D ++ [M]) = ((((Tb.ptsT D).map fun x=>i64 x).set x (i64 (P1 + (pp : Int)))).set z (i64 (P2 + (qq : Int)))).map AV.r:=by
        show List.map AV.r (List.map _ (Tb.ptsT (D ++ [M]))) = _
        rw [hpl,Tb.ptsS,hdf.1,hdf.2.1,hdf.2.2.1,hdf.2.2.2]
        simp only [Int.toNat_natCast];rw [List.getD_eq_getElem?_getD,List.getD_eq_getElem?_getD,hP1,hP2]
        simp only [List.map_set,Option.getD_some]
       have hdr2:=aR_drop (L:=(Tb.ptsT D).map fun x=>i64 x) (i:=x) (x:=i64 P1) (by rw [List.getElem?_map,hP1]; rfl)
       have hdr3:=aR_drop (L:=(Tb.ptsT D).map fun x=>i64 x) (i:=z) (x:=i64 P2) (by rw [List.getElem?_map,hP2]; rfl)
       have hse2:=aR_set (L:=(Tb.ptsT D).map fun x=>i64 x) (i:=x) (y:=i64 (P1 + (pp : Int))) (by rw [List.length_map]; omega)
       have hse3:=aR_set (L:=((Tb.ptsT D).map fun x=>i64 x).set x (i64 (P1 + (pp : Int)))) (i:=z) (y:=i64 (P2 + (qq : Int))) (by rw [List.length_set,List.length_map]; omega)
       have hx4 : x < 4:=by omega
       have hz4 : z < 4:=by omega
       repeat refine zq ?_
       refine awp_joinV (n:=292) (fun (_ : Unit) vs=>[(3,.r (.it .u8 (g : Int))),(4,.r (Tm.bytQ legs)),(5,.r (.sl 2 (ps.map fun v=>[.it .u8 (v.1 : Int),.it .u8 (v.2 : Int)]))),(6,.r (.it .u8 (turn : Int))),(7,.r (.rp [i64 4,i64 (nG g : Int),i64 3,i64 1,.ns,i64 0,i64 0])),(8,.os 216 (vs 216) 5 0 i),(9,.pt 9 (vs 9) 0),(10,.pt 10 (vs 10) 0),(11,.r (i64 (i : Int))),(12,.r (i64 (x : Int))),(13,.r (i64 (z : Int))),(18,.r (.rp [i64 pp,i64 qq,i64 y1,i64 y2,i64 y3,i64 y4,.sl 1 [],i64 wi]))])
        (fun _ vs=>[(9,.box (wonA (D ++ [M]))),(10,.box (ptsA D)),(216,.arr 120 5 (D.map Tb.mtR))]) (fun _=>True) (fun _ h=>h) ?_ ?_
       · rcases hsx with ⟨rfl,rfl⟩ | ⟨rfl,rfl⟩
         · repeat refine zq ?_
           refine zb fun K hK=>?_;simp only [go_sem,hdr1,hse1,huw,wl4,hsd4,List.length_map,Nat.mul_one,List.headD_cons];(try simp (disch:=omega) only [zI]);repeat first | intro _ | refine ⟨by omega,?_⟩
           repeat first | intro _ | refine ⟨by omega,?_⟩
           refine hK _ ?_;clear hK K
           try simp only [go_sem]
           refine ⟨(),zj [] ?_ ?_⟩
           · try simp only [go_sem]
           · try simp only [go_sem]
             rw [hw2]
         · repeat refine zq ?_
           refine zb fun K hK=>?_;simp only [go_sem,hdr1,hse1,huw,wl4,hsd4,List.length_map,Nat.mul_one,List.headD_cons];(try simp (disch:=omega) only [zI]);repeat first | intro _ | refine ⟨by omega,?_⟩
           repeat first | intro _ | refine ⟨by omega,?_⟩
           refine hK _ ?_;clear hK K
           try simp only [go_sem]
           refine ⟨(),zj [] ?_ ?_⟩
           · try simp only [go_sem]
           · try simp only [go_sem]
             rw [hw2]
       intro _ vs _
       repeat refine zq ?_
       refine awp_dreg2 [(10,some 10),(18,none),(12,none),(13,none)] follows (by decide +kernel) (by kernel_rfl) (by simp only [keysOk,List.mem_cons,List.not_mem_nil,forall_eq_or_imp,Oc.keyOf,go_sem]; simp) fun K hK=>?_
       simp only [go_sem,hdr2,hdr3,hse2,hse3,hpw1,hpw2,pl4,hx4,hz4,List.length_map,List.length_set,Nat.mul_one,List.headD_cons];(try simp (disch:=omega) only [zI]);repeat first | intro _ | refine ⟨by omega,?_⟩
       repeat first | intro _ | refine ⟨by omega,?_⟩
       refine hK _ ?_;clear hK K;refine zw (zk [3,4,5,6,7,8,9,10,11,12,13,18]) ?_;simp only [go_sem]
       repeat refine zq ?_
       refine zb fun K hK=>?_;simp only [go_sem,hdl,List.length_map];(try simp (disch:=omega) only [zI]);repeat first | intro _ | refine ⟨by omega,?_⟩
       repeat first | intro _ | refine ⟨by omega,?_⟩
       refine hK _ ?_;clear hK K;refine zw (zk [3,4,5,6,7,8,9,10,11]) ?_;simp only [go_sem]
       repeat refine zq ?_
       refine zb fun K hK=>?_;simp only [go_sem];(try simp (disch:=omega) only [zI]);repeat first | intro _ | refine ⟨by omega,?_⟩
       refine hK _ ?_;clear hK K
       try simp only [go_sem]
       refine ⟨by omega,zj [] ?_ ?_⟩
       · try simp only [go_sem]
       · try simp only [go_sem]
         rw [hp2,List.map_append,List.map_cons,List.map_nil,hdm]
     · have hil : i = min 12 ps.length:=by omega
       subst hil
       have hDl:=daysL_len g legs ps (min 12 ps.length)
       generalize daysL g legs ps (min 12 ps.length) = D at *
       have t1 : List.take (min 12 ps.length) (D.map Tb.mtR) = D.map Tb.mtR:=List.take_of_length_le (by simp [hDl])
       by_cases hi1 : min 12 ps.length < ps.length
       · have g1 : decide (((min 12 ps.length : Nat) : Int) < 12) = false:=decide_eq_false (by omega)
         repeat refine zq ?_
         refine zb fun K hK=>?_;simp only [go_sem,hi1,g1];(try simp (disch:=omega) only [zI]);repeat first | intro _ | refine ⟨by omega,?_⟩
         refine hK _ ?_;clear hK K;refine zw (zk [3,4,5,6,7,8,9,10,11,54]) ?_;simp only [go_sem]
         repeat refine zq ?_
         refine zc rfl (fun hc=>?_) (fun hc=>?_) <;> (try simp only [go_sem] at hc)
         refine zw (sub_frz 8 216 (by omega) rfl rfl (by simp [hDl])) ?_;refine zf ?_;simp only [go_sem];rw [t1]
         refine ⟨(),zj [] ?_ ?_⟩
         · try simp only [go_sem]
         · try simp only [go_sem]
       · repeat refine zq ?_
         refine zb fun K hK=>?_;simp only [go_sem,hi1];(try simp (disch:=omega) only [zI]);repeat first | intro _ | refine ⟨by omega,?_⟩
         refine hK _ ?_;clear hK K;refine zw (zk [3,4,5,6,7,8,9,10,11,54]) ?_;simp only [go_sem]
         repeat refine zq ?_
         refine zc rfl (fun hc=>?_) (fun hc=>?_) <;> (try simp only [go_sem] at hc)
         refine zw (sub_frz 8 216 (by omega) rfl rfl (by simp [hDl])) ?_;refine zf ?_;simp only [go_sem];rw [t1]
         refine ⟨(),zj [] ?_ ?_⟩
         · try simp only [go_sem]
         · try simp only [go_sem]
 intro _ vs _
 have hDo:=days_odd (g:=g) (legs:=legs) (ps:=ps) (i:=min 12 ps.length)
 have hDl:=daysL_len g legs ps (min 12 ps.length)
 generalize daysL g legs ps (min 12 ps.length) = D at *
 have hMo : ∀ m ∈ D,Tb.MatchI (Tb.r8 (nG g)) m:=fun m hm=>(hDo m hm).mt
 have hta:=Tb.table_ok _ _ (Tb.wf8 (n:=nG g) (by omega) (by omega) hMo)
 rw [Tb.check8 (n:=nG g) (by omega) (by omega) hMo (by omega),if_pos rfl] at hta
 have hle : RV.leL [.ag [i64 4,i64 (nG g : Int),i64 3,i64 1,.ns,i64 0,i64 0],Tb.mtsR D] [Tb.trV (Tb.r8 (nG g)),Tb.mtsR D]:=by
  simp only [Tb.trV,Tb.trC,Tb.r8,ints,RV.leL,RV.le,List.map_nil,and_true,true_and,leL_refl,or_true,true_or]
 replace hta : ACalls Try.prog 39 [.ag [i64 4,i64 (nG g : Int),i64 3,i64 1,.ns,i64 0,i64 0],Tb.mtsR D] _:=⟨hta.1,fun w R vs hb hv=>hta.2 w R vs hb (le_relV _ _ _ hle hv)⟩
 have htb:=fun i (hi : i < 4)=>Tb.tab8 (n:=nG g) (by omega) hDo hi
 have htl:=Tb.tab8_len (nG g) D
 obtain ⟨wl4,pl4⟩:=Tb.won_len D
 generalize Tb.sortW (Tb.rowsL (Tb.r8 (nG g)) D) = T at *
 repeat refine zq ?_
 refine zb fun K hK=>?_;simp only [go_sem];(try simp (disch:=omega) only [zI])
 refine zh (hta) rfl (by simp only [go_sem,i64,ints]) (by simp only [go_sem,i64,ints]) (by first | exact .inl rfl | exact .inr rfl) ?_
 (try simp only [go_sem]);(try simp (disch:=omega) only [zI]);repeat first | intro _ | refine ⟨by omega,?_⟩
 refine hK _ ?_;clear hK K;refine zw (sub_frzP 9 9 ((Tb.wonL D).map fun x=>i64 x) (by omega) rfl rfl) ?_;refine zw (sub_frzP 10 10 ((Tb.ptsT D).map fun x=>i64 x) (by omega) rfl rfl) ?_;refine zw (zk [9,10,25,27]) ?_;simp only [go_sem]
 repeat refine zq ?_
 refine zb fun K hK=>?_;simp only [go_sem,htl,List.length_map,bne_self_eq_false];(try simp (disch:=omega) only [zI]);repeat first | intro _ | refine ⟨by omega,?_⟩
 refine hK _ ?_;clear hK K;refine zw (zk [9,10,25,230]) ?_;simp only [go_sem]
 repeat refine zq ?_
 refine zc rfl (fun hc=>?_) (fun hc=>?_) <;> (try simp only [go_sem] at hc)
 refine zx ?_
 try simp only [go_sem]
 repeat refine zq ?_
 refine zb fun K hK=>?_;simp only [go_sem];(try simp (disch:=omega) only [zI]);repeat first | intro _ | refine ⟨by omega,?_⟩
 refine hK _ ?_;clear hK K;refine zw (zk [9,10,25,28]) ?_;simp only [go_sem]
 repeat refine zq ?_
 refine awp_joinV (n:=292) (fun (_ : Unit) vs=>[]) (fun _ vs=>[]) (fun _=>True) (fun _ h=>h) ?_ ?_
 · have hget : ∀ (L : List Int) k,k < 4 → L.length = 4 → (List.drop (k * 1) (L.map fun x=>i64 x)).headD RV.un = i64 (L.getD k 0):=fun L k hk hL=>by
    obtain ⟨y,hy⟩:=opt_of_lt (l:=L) (i:=k) (by omega)
    rw [List.getD_eq_getElem?_getD,hy,Nat.mul_one,drop_of_opt (l:=L.map fun x=>i64 x) (i:=k) (x:=i64 y) (by rw [List.getElem?_map,hy]; rfl)]
    rfl
   generalize Tb.wonL D = WL at *
   generalize Tb.ptsT D = PL at *
   repeat refine zq ?_
   refine zd ?_
   refine awp_uptoV (n:=292) 4 (fun i vs=>[(9,.r (.rp (WL.map fun x=>i64 x))),(10,.r (.rp (PL.map fun x=>i64 x))),(25,.r (Tb.rwsR T)),(28,.r (i64 (i : Int)))])
    (fun i vs=>[]) (fun _=>True) 0 (zj [] ?_ ?_) (Nat.zero_le _) trivial ?_
   · try simp only [go_sem]
   · try simp only [go_sem]
   · intro i vs hi _
     repeat refine zq ?_
     refine zb fun K hK=>?_;simp only [go_sem];(try simp (disch:=omega) only [zI]);repeat first | intro _ | refine ⟨by omega,?_⟩
     refine hK _ ?_;clear hK K;refine zw (zk [9,10,25,28,232]) ?_;simp only [go_sem]
     repeat refine zq ?_
     refine zc rfl (fun hc=>?_) (fun hc=>?_) <;> (try simp only [go_sem] at hc)
     · have hi4 : i < 4:=by omega
       obtain ⟨w,t,hw,ht4,e1,e2,e3,e4,e5,e6,e7⟩:=htb i hi4
       have q1:=hget WL t ht4 wl4
       have q2:=hget PL t ht4 pl4
       generalize WL.getD t 0 = a at *
       generalize PL.getD t 0 = b at *
       have d1 : decide ((t : Int) < 0) = false:=decide_eq_false (by omega)
       have d2 : decide (3 < (t : Int)) = false:=decide_eq_false (by omega)
       have d3 : IntKind.i64.wrap (3 * a) = 3 * a:=by rw [zI] <;> omega
       have hnb : ∀ z : Int,(z != z) = false:=fun z=>by simp
       have l1 : (WL.map fun x=>i64 x).length = 4:=by rw [List.length_map]; exact wl4
       refine zx ?_
       try simp only [go_sem]
       repeat refine zq ?_
       refine zd ?_
       repeat refine zq ?_
       refine zb fun K hK=>?_;simp only [go_sem,hw,e1];(try simp (disch:=omega) only [zI]);repeat first | intro _ | refine ⟨by omega,?_⟩
       refine hK _ ?_;clear hK K;refine zw (zk [9,10,25,28,29]) ?_;simp only [go_sem]
       repeat refine zq ?_
       refine zg follows (by decide +kernel) (by kernel_rfl) fun K hK=>?_;simp only [go_sem,hw,e1,e2,e3,e4,e5,q1,q2,d1,d2,d3,ht4,wl4,pl4,bne_self_eq_false,List.length_map];(try simp (disch:=omega) only [zI]);repeat first | intro _ | refine ⟨by omega,?_⟩
       repeat first | intro _ | refine ⟨by omega,?_⟩
       refine hK _ ?_;clear hK K;refine zw (zk [9,10,25,28,287]) ?_;simp only [go_sem]
       try rw [hnb]
       repeat refine zq ?_
       refine zc rfl (fun hc=>?_) (fun hc=>?_) <;> (try simp only [go_sem] at hc)
       refine zx ?_
       try simp only [go_sem]
       repeat refine zq ?_
       refine zb fun K hK=>?_;simp only [go_sem];(try simp (disch:=omega) only [zI]);repeat first | intro _ | refine ⟨by omega,?_⟩
       refine hK _ ?_;clear hK K
       try simp only [go_sem]
       refine ⟨by omega,zj [] ?_ ?_⟩
       · try simp only [go_sem]
       · try simp only [go_sem]
     · refine zf ?_;simp only [go_sem]
       refine ⟨(),zj [] ?_ ?_⟩
       · try simp only [go_sem]
       · try simp only [go_sem]
 intro _ vs _
 repeat refine zq ?_
 refine zb fun K hK=>?_;simp only [go_sem];(try simp (disch:=omega) only [zI])
 refine zh (hk1) rfl (by simp only [go_sem,i64,ints]) (by simp only [go_sem,i64,ints]) (by first | exact .inl rfl | exact .inr rfl) ?_
 (try simp only [go_sem]);(try simp (disch:=omega) only [zI])
 refine zh (hk2) rfl (by simp only [go_sem,i64,ints]) (by simp only [go_sem,i64,ints]) (by first | exact .inl rfl | exact .inr rfl) ?_
 (try simp only [go_sem]);(try simp (disch:=omega) only [zI]);repeat first | intro _ | refine ⟨by omega,?_⟩
 refine hK _ ?_;clear hK K;refine zw (zk [2]) ?_;simp only [go_sem];refine ze ?_;simp only [go_sem]
end Go.Proofs.Ytlljkgiomkmjbaa

namespace Go.Oc
open Go Go.RowKit Go.ChangeShapes Go.WideShapes
inductive Sh where
 | int (k : IntKind)
 | bool
 | sl (es : List Sh)
def fieldsSh (P : Program) (sh : TypeId → Option (List Sh)) : List Field → Nat → Option (List Sh)
 | [],_=>some []
 | f :: fs, o =>
   match sh f.type with
   | some ss=>if f.offset == o && ss.length == P.cellsOf f.type then match fieldsSh P sh fs (o + ss.length) with | some q=>some (ss ++ q) | none=>none else none
   | none=>none
def shape (P : Program) : Nat → TypeId → Option (List Sh)
 | 0,_=>none
 | n + 1, t =>
   match P.underlying t with
   | some (.int k)=>some [.int k]
   | some .bool=>some [.bool]
   | some (.slice e) =>
     match shape P n e with
     | some ss=>if ss.length == P.cellsOf e && decide (0 < ss.length) then some [.sl ss] else none
     | none=>none
   | some (.array m e) =>
     match shape P n e with
     | some ss=>if ss.length == P.cellsOf e && P.cellsOf t == m * ss.length then some (List.replicate m ss).flatten else none
     | none=>none
   | some (.struct fs) =>
     match fieldsSh P (shape P n) fs.toList 0 with
     | some ss=>if ss.length == P.cellsOf t then some ss else none
     | none=>none
   | _=>none
mutual
def Fits : Sh → RV → Prop
 | .int k,x=>∃ n,x = .it k n ∧ (Lit.int k n).wf = true
 | .bool,x=>∃ b,x = .bo b
 | .sl ss,x=>∃ es,x = .sl ss.length es ∧ FitsE ss es
def FitsL : List Sh → List RV → Prop
 | [],xs=>xs = []
 | s :: ss,xs=>∃ y ys,xs = y :: ys ∧ Fits s y ∧ FitsL ss ys
def FitsE (ss : List Sh) : List (List RV) → Prop
 | []=>True
 | e :: es=>FitsL ss e ∧ FitsE ss es
end
theorem fitsL_append : ∀ {s1 s2 : List Sh} {x1 x2 : List RV},FitsL s1 x1 → FitsL s2 x2 → FitsL (s1 ++ s2) (x1 ++ x2)
 | [],_,_,_,h1,h2=>by simp only [FitsL] at h1; subst h1; simpa using h2
 | s :: ss, s2, x1, x2, h1, h2 => by
   simp only [FitsL] at h1
   obtain ⟨y,ys,rfl,h3,h4⟩:=h1
   simp only [List.cons_append,FitsL];exact ⟨y,_,rfl,h3,fitsL_append h4 h2⟩
theorem fitsL_length : ∀ {ss : List Sh} {xs : List RV},FitsL ss xs → xs.length = ss.length
 | [],_,h=>by simp only [FitsL] at h; subst h; rfl
 | s :: ss, _, h => by
   simp only [FitsL] at h
   obtain ⟨y,ys,rfl,_,h⟩:=h
   simp [fitsL_length h]
theorem fitsE_of : ∀ {ss : List Sh} {es : List (List RV)},(∀ e ∈ es,FitsL ss e) → FitsE ss es
 | _,[],_=>by simp only [FitsE]
 | ss,e :: es,h=>by simp only [FitsE]; exact ⟨h e (by simp),fitsE_of fun x hx=>h x (by simp [hx])⟩
theorem choice {α : Type} {Q : Nat → α → Prop} : ∀ (n : Nat),(∀ i,i < n → ∃ x,Q i x) → ∃ xs : List α,xs.length = n ∧ ∀ i x,xs[i]? = some x → Q i x
 | 0,_=>⟨[],rfl,by simp⟩
 | n + 1, h => by
   obtain ⟨xs,hl,hx⟩:=choice n fun i hi=>h i (by omega)
   obtain ⟨y,hy⟩:=h n (by omega)
   refine ⟨xs ++ [y],by simp [hl],fun i x hi=>?_⟩
   by_cases h1 : i < n
   · rw [List.getElem?_append_left (by omega)] at hi; exact hx i x hi
   · rw [List.getElem?_append_right (by omega)] at hi
     have : i = n:=by have:=(List.getElem?_eq_some_iff.1 hi).1; simp at this; omega
     subst this
     simp [hl] at hi
     exact hi ▸ hy
section
variable {w : World} {P : Program}
theorem cells?_get {base n : Nat} {a : Addr} {cs : List Value} (h : w.cells? base a n = some cs) : cs.length = n ∧ ∀ i,i < n → w.cell? (a.add i) = cs[i]?:=by
 unfold World.cells? at h
 split at h
 · exact ⟨by simpa using mapM_some_length h,fun i hi=>mapM_some_get h i i (by simp [hi])⟩
 · cases h
theorem cell_lt {a : Addr} {v : Value} (h : w.cell? a = some v) : a.block < w.heap.size:=by
 refine Decidable.byContradiction fun hn=>?_
 have : w.heap[a.block]? = none:=by simp; omega
 simp [World.cell?,this] at h
def old (w : World) : Nat → Prop:=fun b=>b < w.heap.size
theorem relC_of_cells {xs : List RV} {cs : List Value} {ad : Addr} (hV : RV.relV w (old w) xs cs) (hone : ∀ u ∈ cs,u.oneCell' = true) (hc : ∀ i,i < cs.length → w.cell? (ad.add i) = cs[i]?) : RV.relC w (old w) xs ad 0:=by
 refine RV.relC_of_get fun i x hx=>?_
 obtain ⟨u,hu,hr⟩:=RV.relV_get hV hx
 have hi:=(List.getElem?_eq_some_iff.1 hu).1
 refine ⟨u,?_,hone u (List.mem_of_getElem? hu),hr⟩
 rw [Nat.zero_add,hc i hi,hu]
variable {H : Type} {enc : TypeId × Value → H} {base : Nat} {spare : Nat → Bool} {held : Bool}
def Good3 (w : World) (ss : List Sh) (cs : List Value) : Prop:=∃ xs,FitsL ss xs ∧ RV.relV w (old w) xs cs ∧ ∀ u ∈ cs,u.oneCell' = true
theorem good3_append {s1 s2 : List Sh} {c1 c2 : List Value} (h1 : Good3 w s1 c1) (h2 : Good3 w s2 c2) : Good3 w (s1 ++ s2) (c1 ++ c2):=by
 obtain ⟨x1,f1,r1,o1⟩:=h1
 obtain ⟨x2,f2,r2,o2⟩:=h2
 refine ⟨x1 ++ x2,fitsL_append f1 f2,RV.relV_append r1 r2,fun u hu=>?_⟩
 rcases List.mem_append.1 hu with hu | hu
 · exact o1 u hu
 · exact o2 u hu
theorem good3_length {ss : List Sh} {cs : List Value} (h : Good3 w ss cs) : cs.length = ss.length:=by
 obtain ⟨xs,f,r,_⟩:=h
 rw [RV.relV_length r,fitsL_length f]
theorem trod_fits : ∀ (fuel n : Nat) (t : TypeId) (cs : List Value) (x : DataW H × List MemPlace) (ss : List Sh),DataW.trod enc P w base spare held fuel t cs = some x → shape P n t = some ss → Good3 w ss cs:=by
 intro fuel
 induction fuel with
 | zero=>intro n t cs x ss h; simp [DataW.trod] at h
 | succ fuel ih =>
   intro n t cs x ss h hs
   cases n with
   | zero=>simp [shape] at hs
   | succ n =>
     unfold shape at hs
     split at hs
     · rename_i k ht
       injection hs with hs; subst hs
       obtain ⟨m,rfl,_,hw⟩:=DataW.trod_int ht h
       exact ⟨[.it k m],by simp only [FitsL,Fits]; exact ⟨_,[],rfl,⟨m,rfl,hw⟩,rfl⟩,by simp only [RV.relV,RV.rel]; exact ⟨_,[],rfl,rfl,rfl⟩,by simp [Value.oneCell']⟩
     · rename_i ht
       injection hs with hs; subst hs
       obtain ⟨b,rfl,_⟩:=DataW.trod_bool ht h
       exact ⟨[.bo b],by simp only [FitsL,Fits]; exact ⟨_,[],rfl,⟨b,rfl⟩,rfl⟩,by simp only [RV.relV,RV.rel]; exact ⟨_,[],rfl,rfl,rfl⟩,by simp [Value.oneCell']⟩
     · rename_i e ht
       split at hs
       · rename_i es hes
         split at hs
         · rename_i hc
           simp only [Bool.and_eq_true,beq_iff_eq,decide_eq_true_eq] at hc
           injection hs with hs; subst hs
           rcases DataW.trod_slice ht h with ⟨rfl,_⟩ | ⟨a,len,cap,elems,rest,m,hm,rfl,_,_,hlc,hcm,hel,hget,_⟩
           · refine ⟨[.sl es.length []],?_,?_,by simp [Value.oneCell']⟩
             · simp only [FitsL,Fits];exact ⟨_,[],rfl,⟨[],rfl,by simp only [FitsE]⟩,rfl⟩
             · simp only [RV.relV,RV.rel];exact ⟨_,[],rfl,⟨none,0,rfl,Nat.le_refl _,Nat.zero_le _,fun h=>absurd rfl h⟩,rfl⟩
           · injection hm with hm; subst hm
             have hall : ∀ i,i < len → ∃ e',FitsL es e' ∧ e'.length = es.length ∧ RV.relC w (old w) e' (a.add (i * es.length)) 0 ∧ a.block < w.heap.size:=fun i hi=>by
              have h1:=hget i hi
              have h2 : i < elems.length:=by omega
              rw [List.getElem?_eq_getElem h2] at h1
              obtain ⟨ci,hci,htr⟩:=Option.bind_eq_some_iff.1 h1
              rw [← hc.1] at hci
              obtain ⟨hl,hcell⟩:=cells?_get hci
              obtain ⟨xs,f,r,o⟩:=ih n e ci _ es htr hes
              refine ⟨xs,f,fitsL_length f,relC_of_cells r o (fun j hj=>hcell j (by omega)),?_⟩
              have h3:=hcell 0 hc.2
              have h4 : 0 < ci.length:=by omega
              rw [List.getElem?_eq_getElem h4] at h3
              have:=cell_lt h3
              rwa [block_add,block_add] at this
             obtain ⟨els,hlen,hels⟩:=choice len hall
             refine ⟨[.sl es.length els],?_,?_,by simp [Value.oneCell']⟩
             · simp only [FitsL,Fits]
               refine ⟨_,[],rfl,⟨els,rfl,fitsE_of fun e' he'=>?_⟩,rfl⟩
               obtain ⟨i,hi⟩:=List.getElem?_of_mem he'
               exact (hels i e' hi).1
             · simp only [RV.relV,RV.rel]
               refine ⟨_,[],rfl,⟨some a,cap,by rw [hlen],by omega,hcm,fun hne=>?_⟩,rfl⟩
               obtain ⟨e0,he0⟩ : ∃ e0,els[0]? = some e0:=by
                cases els with
                | nil=>exact absurd rfl hne
                | cons a l=>exact ⟨a,rfl⟩
               refine ⟨a,rfl,(hels 0 e0 he0).2.2.2,RV.relE_of_get fun i e' he'=>?_⟩
               obtain ⟨_,q1,q2,_⟩:=hels i e' he'
               exact ⟨q1,RV.relC_unbase _ q2⟩
         · cases hs
       · cases hs
     · rename_i m e ht
       split at hs
       · rename_i es hes
         split at hs
         · rename_i hc
           simp only [Bool.and_eq_true,beq_iff_eq] at hc
           injection hs with hs; subst hs
           obtain ⟨xs,fm,hm,_,hcl,hxl,hget⟩:=DataW.trod_array ht h
           injection hm with hm; subst hm
           have key : ∀ j,j ≤ m → Good3 w (List.replicate j es).flatten (cs.take (j * es.length)):=by
            intro j
            induction j with
            | zero=>intro _; exact ⟨[],by simp [FitsL],by simp [RV.relV],by simp⟩
            | succ j ihj =>
              intro hj
              have h1:=hget j (by omega)
              have h2 : j < xs.length:=by omega
              rw [List.getElem?_eq_getElem h2,← hc.1] at h1
              have h3:=ih n e _ _ es h1 hes
              have:=good3_append (ihj (by omega)) h3
              rw [← List.take_add] at this
              rw [List.replicate_succ',List.flatten_append,Nat.add_mul]
              simpa using this
           have:=key m (Nat.le_refl _)
           rwa [← hc.2,← hcl,List.take_length] at this
         · cases hs
       · cases hs
     · rename_i fs ht
       split at hs
       · rename_i q hq
         split at hs
         · rename_i hc
           simp only [beq_iff_eq] at hc
           injection hs with hs; subst hs
           obtain ⟨xs,fm,hm,_,hcl,hxl,hget⟩:=DataW.trod_struct ht h
           injection hm with hm; subst hm
           have key : ∀ (l : List Field) (o : Nat) (q : List Sh),(∀ f ∈ l,∃ y,DataW.trod enc P w base spare held fuel f.type ((cs.drop f.offset).take (P.cellsOf f.type)) = some y) → fieldsSh P (shape P n) l o = some q → Good3 w q ((cs.drop o).take q.length):=by
            intro l
            induction l with
            | nil =>
              intro o q _ hq
              simp only [fieldsSh,Option.some.injEq] at hq
              subst hq
              exact ⟨[],by simp [FitsL],by simp [RV.relV],by simp⟩
            | cons f l ihl =>
              intro o q hall hq
              simp only [fieldsSh] at hq
              split at hq
              · rename_i s1 hs1
                split at hq
                · rename_i hc1
                  simp only [Bool.and_eq_true,beq_iff_eq] at hc1
                  split at hq
                  · rename_i q2 hq2
                    injection hq with hq; subst hq
                    obtain ⟨y,hy⟩:=hall f (by simp)
                    have g1:=ih n f.type _ _ s1 hy hs1
                    have g2:=ihl (o + s1.length) q2 (fun f' hf'=>hall f' (by simp [hf'])) hq2
                    rw [hc1.1,← hc1.2] at g1
                    have:=good3_append g1 g2
                    rw [← List.drop_drop,← List.take_add] at this
                    simpa using this
                  · cases hq
                · cases hq
              · cases hq
           have:=key fs.toList 0 q (fun f hf=>by
            obtain ⟨i,hi⟩:=List.getElem?_of_mem hf
            have hi' : fs[i]? = some f:=by simpa using hi
            have h1:=hget i f hi'
            have h2 : i < xs.length:=by have:=(Array.getElem?_eq_some_iff.1 hi').1; omega
            exact ⟨xs[i],by rw [h1]; exact List.getElem?_eq_getElem h2⟩) hq
           rwa [List.drop_zero,hc,← hcl,List.take_length] at this
         · cases hs
       · cases hs
     · cases hs
def FitsT (P : Program) (n : Nat) (t : TypeId) (x : RV) : Prop:=∃ ss,shape P n t = some ss ∧ if aggOf P t then ∃ xs,x = .ag xs ∧ FitsL ss xs else FitsL ss [x]
theorem arg_fits {n : Nat} {t : TypeId} {v : Value} {d : DataW H} {ps : List MemPlace} {r : Reach} {b0 : Nat} (hs : (shape P n t).isSome = true) (hval : Value.okWide P w r b0 t v) (h : DataW.Trod enc P w base spare held t v d ps) :
 ∃ x,FitsT P n t x ∧ x.rel w (old w) v:=by
 obtain ⟨ss,hss⟩:=Option.isSome_iff_exists.1 hs
 obtain ⟨fuel,hf⟩:=h
 obtain ⟨xs,f,r,o⟩:=trod_fits fuel n t _ _ ss hf hss
 have one : aggOf P t = false → v.cells.toList = [v] → ∃ x,FitsT P n t x ∧ x.rel w (old w) v:=fun ha hc=>by
  rw [hc] at r
  match xs,r with
  | [x], r =>
    simp only [RV.relV] at r
    obtain ⟨u,us,e,hr,_⟩:=r
    injection e with e1 e2
    subst e1
    exact ⟨x,⟨ss,hss,by rw [ha]; exact f⟩,hr⟩
  | [],r=>simp [RV.relV] at r
  | _ :: _ :: _, r =>
    simp only [RV.relV] at r
    obtain ⟨u,us,e,_,u2,us2,e2,_⟩:=r
    injection e with _ e
    rw [e2] at e; cases e
 cases n with
 | zero=>simp [shape] at hss
 | succ n =>
   have hss':=hss
   unfold shape at hss'
   split at hss'
   · rename_i k ht
     obtain ⟨m,rfl⟩:=okWide_int ht hval
     exact one (by simp [aggOf,ht]) rfl
   · rename_i ht
     obtain ⟨b,rfl⟩:=okWide_bool ht hval
     exact one (by simp [aggOf,ht]) rfl
   · rename_i e ht
     obtain ⟨a,l,c,rfl⟩:=okWide_slice ht hval
     exact one (by simp [aggOf,ht]) rfl
   · rename_i m e ht
     obtain ⟨cs,rfl⟩ : ∃ cs,v = .agg cs:=by
      simp only [Value.okWide,ht] at hval
      obtain ⟨cs,h1,_⟩:=hval
      exact ⟨cs,h1⟩
     exact ⟨.ag xs,⟨ss,hss,by simp only [aggOf,ht,if_true]; exact ⟨xs,rfl,f⟩⟩,by simp only [RV.rel]; exact ⟨cs,rfl,o,r⟩⟩
   · rename_i fs ht
     obtain ⟨cs,rfl,_⟩:=okWide_struct ht hval
     exact ⟨.ag xs,⟨ss,hss,by simp only [aggOf,ht,if_true]; exact ⟨xs,rfl,f⟩⟩,by simp only [RV.rel]; exact ⟨cs,rfl,o,r⟩⟩
   · cases hss'
theorem wf_i64 {n : Int} (h : (Lit.int .i64 n).wf = true) : -9223372036854775808 ≤ n ∧ n ≤ 9223372036854775807:=by
 simp only [Lit.wf,Bool.and_eq_true,decide_eq_true_eq] at h
 have h1 : IntKind.min .i64 = -9223372036854775808:=by decide
 have h2 : IntKind.max .i64 = 9223372036854775807:=by decide
 rw [h1,h2] at h
 exact h
theorem fitsE_ints : ∀ {es : List (List RV)},FitsE [.int .i64] es → ∃ l : List Int,es = l.map (fun x=>[.it .i64 x]) ∧ ∀ x ∈ l,-9223372036854775808 ≤ x ∧ x ≤ 9223372036854775807
 | [],_=>⟨[],rfl,by simp⟩
 | e :: es, h => by
   simp only [FitsE,FitsL,Fits] at h
   obtain ⟨⟨y,ys,rfl,⟨n,rfl,hn⟩,rfl⟩,h⟩:=h
   obtain ⟨l,rfl,hl⟩:=fitsE_ints h
   refine ⟨n :: l,rfl,fun x hx=>?_⟩
   rcases List.mem_cons.1 hx with rfl | hx
   · exact wf_i64 hn
   · exact hl x hx
theorem fitsT_ag {n : Nat} {t : TypeId} {x : RV} {ss : List Sh} (h : FitsT P n t x) (hs : shape P n t = some ss) (ha : aggOf P t = true) : ∃ xs,x = .ag xs ∧ FitsL ss xs:=by
 obtain ⟨s',h1,h2⟩:=h
 rw [hs] at h1; injection h1 with h1; subst h1
 rw [ha] at h2
 exact h2
theorem fitsT_one {n : Nat} {t : TypeId} {x : RV} {s : Sh} (h : FitsT P n t x) (hs : shape P n t = some [s]) (ha : aggOf P t = false) : Fits s x:=by
 obtain ⟨s',h1,h2⟩:=h
 rw [hs] at h1; injection h1 with h1; subst h1
 rw [ha] at h2
 simp only [Bool.false_eq_true,if_false,FitsL] at h2
 obtain ⟨y,ys,e,h3,_⟩:=h2
 injection e with e1 e2
 subst e1
 exact h3
theorem fitsT_int {n : Nat} {t : TypeId} {x : RV} (h : FitsT P n t x) (hs : shape P n t = some [.int .i64]) (ha : aggOf P t = false) : ∃ m,x = .it .i64 m ∧ -9223372036854775808 ≤ m ∧ m ≤ 9223372036854775807:=by
 have:=fitsT_one h hs ha
 simp only [Fits] at this
 obtain ⟨m,h1,h2⟩:=this
 exact ⟨m,h1,wf_i64 h2⟩
theorem fitsT_ints {n : Nat} {t : TypeId} {x : RV} (h : FitsT P n t x) (hs : shape P n t = some [.sl [.int .i64]]) (ha : aggOf P t = false) : ∃ l : List Int,x = .sl 1 (l.map (fun x=>[.it .i64 x])) ∧ ∀ x ∈ l,-9223372036854775808 ≤ x ∧ x ≤ 9223372036854775807:=by
 have:=fitsT_one h hs ha
 simp only [Fits] at this
 obtain ⟨es,h1,h2⟩:=this
 obtain ⟨l,rfl,hl⟩:=fitsE_ints h2
 exact ⟨l,h1,hl⟩
end
end Go.Oc

namespace Go.Oc
open Go Go.RowKit
theorem wf_u8 {n : Int} (h : (Lit.int .u8 n).wf = true) : 0 ≤ n ∧ n ≤ 255:=by
 simp only [Lit.wf,Bool.and_eq_true,decide_eq_true_eq] at h
 have h1 : IntKind.min .u8 = 0:=by decide
 have h2 : IntKind.max .u8 = 255:=by decide
 rw [h1,h2] at h
 exact h
theorem wf_u16 {n : Int} (h : (Lit.int .u16 n).wf = true) : 0 ≤ n ∧ n ≤ 65535:=by
 simp only [Lit.wf,Bool.and_eq_true,decide_eq_true_eq] at h
 have h1 : IntKind.min .u16 = 0:=by decide
 have h2 : IntKind.max .u16 = 65535:=by decide
 rw [h1,h2] at h
 exact h
theorem wf_u32 {n : Int} (h : (Lit.int .u32 n).wf = true) : 0 ≤ n ∧ n ≤ 4294967295:=by
 simp only [Lit.wf,Bool.and_eq_true,decide_eq_true_eq] at h
 have h1 : IntKind.min .u32 = 0:=by decide
 have h2 : IntKind.max .u32 = 4294967295:=by decide
 rw [h1,h2] at h
 exact h
theorem fitsE_u8 : ∀ {es : List (List RV)},FitsE [.int .u8] es → ∃ l : List Int,es = l.map (fun x=>[.it .u8 x]) ∧ ∀ x ∈ l,0 ≤ x ∧ x ≤ 255
 | [],_=>⟨[],rfl,by simp⟩
 | e :: es, h => by
   simp only [FitsE,FitsL,Fits] at h
   obtain ⟨⟨y,ys,rfl,⟨n,rfl,hn⟩,rfl⟩,h⟩:=h
   obtain ⟨l,rfl,hl⟩:=fitsE_u8 h
   refine ⟨n :: l,rfl,fun x hx=>?_⟩
   rcases List.mem_cons.1 hx with rfl | hx
   · exact wf_u8 hn
   · exact hl x hx
theorem fitsE_u16 : ∀ {es : List (List RV)},FitsE [.int .u16] es → ∃ l : List Int,es = l.map (fun x=>[.it .u16 x]) ∧ ∀ x ∈ l,0 ≤ x ∧ x ≤ 65535
 | [],_=>⟨[],rfl,by simp⟩
 | e :: es, h => by
   simp only [FitsE,FitsL,Fits] at h
   obtain ⟨⟨y,ys,rfl,⟨n,rfl,hn⟩,rfl⟩,h⟩:=h
   obtain ⟨l,rfl,hl⟩:=fitsE_u16 h
   refine ⟨n :: l,rfl,fun x hx=>?_⟩
   rcases List.mem_cons.1 hx with rfl | hx
   · exact wf_u16 hn
   · exact hl x hx
end Go.Oc

namespace Go.Proofs.Ytlljkgiomkmjbaa
open Go Go.Oc
theorem wfb8 {n : Int} (h : (Lit.int .u8 n).wf = true) : ∃ k : Nat,n = k ∧ k < 256:=by
 simp only [Lit.wf,Bool.and_eq_true,decide_eq_true_eq] at h
 have h1 : IntKind.min .u8 = 0:=by decide
 have h2 : IntKind.max .u8 = 255:=by decide
 rw [h1,h2] at h
 obtain ⟨k,hk⟩:=Int.eq_ofNat_of_zero_le h.1
 exact ⟨k,hk,by omega⟩
theorem fitsE_by8 : ∀ {es : List (List RV)},FitsE [.int .u8] es → ∃ l : List Nat,es = l.map (fun n : Nat=>[.it .u8 (n : Int)]) ∧ ∀ n ∈ l,n < 256
 | [],_=>⟨[],rfl,by simp⟩
 | e :: es, h => by
   simp only [Oc.FitsE,Oc.FitsL,Oc.Fits] at h
   obtain ⟨⟨_,_,rfl,⟨a,rfl,ha⟩,rfl⟩,h⟩:=h
   obtain ⟨l,rfl,hl⟩:=fitsE_by8 h
   obtain ⟨k,rfl,kk⟩:=wfb8 ha
   refine ⟨k :: l,rfl,fun x hx=>?_⟩
   rcases List.mem_cons.1 hx with rfl | hx
   · exact kk
   · exact hl x hx
theorem fitsE_pr8 : ∀ {es : List (List RV)},FitsE [.int .u8,.int .u8] es → ∃ l : List (Nat × Nat),es = l.map (fun v=>[.it .u8 (v.1 : Int),.it .u8 (v.2 : Int)]) ∧ ∀ v ∈ l,v.1 < 256 ∧ v.2 < 256
 | [],_=>⟨[],rfl,by simp⟩
 | e :: es, h => by
   simp only [Oc.FitsE,Oc.FitsL,Oc.Fits] at h
   obtain ⟨⟨_,_,rfl,⟨a,rfl,ha⟩,_,_,rfl,⟨b,rfl,hb⟩,rfl⟩,h⟩:=h
   obtain ⟨l,rfl,hl⟩:=fitsE_pr8 h
   obtain ⟨a,rfl,ka⟩:=wfb8 ha
   obtain ⟨b,rfl,kb⟩:=wfb8 hb
   refine ⟨(a,b) :: l,rfl,fun x hx=>?_⟩
   rcases List.mem_cons.1 hx with rfl | hx
   · exact ⟨ka,kb⟩
   · exact hl x hx
theorem law8' {x0 : RV} (h0 : FitsT Try.prog 9 101 x0) : ACalls Try.prog 8 [x0] (.bo true):=by
 obtain ⟨xs,rfl,hx⟩:=fitsT_ag (ss:=[.int .u8,.sl [.int .u8],.sl [.int .u8,.int .u8],.int .u8]) h0 (by kernel_rfl) (by kernel_rfl)
 simp only [Oc.FitsL,Oc.Fits] at hx
 obtain ⟨_,_,rfl,⟨a,rfl,ha⟩,_,_,rfl,⟨es,rfl,hes⟩,_,_,rfl,⟨fs,rfl,hfs⟩,_,_,rfl,⟨b,rfl,hb⟩,rfl⟩:=hx
 obtain ⟨a,rfl,ka⟩:=wfb8 ha
 obtain ⟨b,rfl,kb⟩:=wfb8 hb
 obtain ⟨l,rfl,hl⟩:=fitsE_by8 hes
 obtain ⟨m,rfl,hm⟩:=fitsE_pr8 hfs
 exact nightt_law a ka l hl m hm b kb
end Go.Proofs.Ytlljkgiomkmjbaa


namespace Go.Proofs.Ytlljkgiomkmjbaa
open Go Go.Oc Go.ChangeShapes Go.WideShapes Go.RowKit
set_option linter.unusedVariables false
theorem own : ownKnob Try.prog.godebug = none := by kernel_rfl
theorem laidOut : laidOutB Try.prog = true := by kernel_rfl
set_option maxRecDepth 100000 in
theorem lifted (os : Os) (started : os.Started) (H : Type) (enc : TypeId × Value → H) :
    ReturnsInHanded {} Try.checked os 8 .any (Rows.topNightTableSpec.pre6 enc Try.prog Try.f8 Rows.topNightTableRow.domain false) (Rows.topNightTableSpec.post enc Try.prog Try.f8 false true false false) := by
  refine returnsInHanded_of_change (C := Try.checked) own started (by kernel_rfl) Try.func8
    (ChangeSpec.witness6 (enc := enc) (C := Try.checked) false ⟨#[], #[.agg #[.int .u8 0, .slice none 0 0, .slice none 0 0, .int .u8 0]], []⟩ 8 (by kernel_rfl) (by kernel_rfl) (by kernel_rfl) (by kernel_rfl)) ?_
  intro W base args ds gs before hval0 hW hcnd _
  have hval : ∀ (j : Nat) t v, Try.f8.params[j]? = some t → args[j]? = some v → Value.okWide Try.prog W .any base t v := hval0
  have hW' := hW
  obtain ⟨p, q, hA0, hV, rfl, hfz, hnd⟩ := hW
  have hA : DataW.TrodAll enc Try.prog W 0 (fun _ => true) true Try.f8.params.toList args.toList ds p := hA0
  rw [Try.params8] at hA hval
  obtain ⟨v0, vs0, d0, ds0, p0, q0, hargs, rfl, rfl, h0, r0⟩ := trodAll_cons hA
  obtain ⟨rfl, rfl, rfl⟩ := trodAll_nil r0
  obtain rfl : args = #[v0] := by cases args; simp_all
  obtain ⟨rfl, rfl⟩ := trodVars_none hV
  have lt0 : ∀ x ∈ p0, x.block < W.heap.size := by obtain ⟨m, hm⟩ := h0; exact DataW.trod_lt m _ _ _ hm
  obtain ⟨x0, g0, e0⟩ := arg_fits (n := 9) (by kernel_rfl) (hval 0 101 v0 rfl rfl) h0
  clear hA0 hval0
  refine ((law8' g0).2 W (old W) #[v0] (fun _ h => h) (by simp only [RV.relV]; exact ⟨_, _, rfl, e0, rfl⟩)).mono fun e W' he => ?_
  obtain ⟨v, R', rfl, bel, _, _, _, hr⟩ := he
  simp only [RV.rel] at hr
  subst hr
  exact ⟨_, rfl, _, _, _, [], _, [], hW', trodAll_mk1 (shut_bool Try.underlying4 _), (trodAll_cons_mk (Below.trod laidOut (by kernel_rfl) (of_decide_eq_true (by kernel_rfl)) h0 bel lt0) trodAll_mk0), rfl, bel.frame _, fun h => by cases h⟩
theorem over : Rows.topNightTableRow.holds Try.pinned (OpenSpec.ofChange Rows.topNightTableSpec) :=
  OpenClaim.holds_of_wide 8 Try.f8 rfl rfl rfl rfl rfl rfl rfl ⟨rfl, rfl, rfl, rfl, rfl⟩ rfl rfl rfl rfl rfl (by kernel_rfl) Try.func8 (by kernel_rfl)
    (of_decide_eq_true (by kernel_rfl)) (by unfold Func.isWrapper; first | (rw [if_pos (by decide +kernel)]; kernel_rfl) | (rw [if_neg (by decide +kernel)]; exact ⟨rfl, rfl⟩))
    (fun os started H enc _ => lifted os started H enc)
theorem topNightTable_holds : Rows.TopNightTableSaid := over
#print axioms topNightTable_holds
end Go.Proofs.Ytlljkgiomkmjbaa
