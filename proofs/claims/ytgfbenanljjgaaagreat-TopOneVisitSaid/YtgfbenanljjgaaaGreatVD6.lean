/- Part 6 of the texts of this claim. -/
import Derived.Test.YtgfbenanljjgaaaGreatVD5
import Derived.Test.YtgfbenanljjgaaaGreatVD4
import Derived.KernelRfl
set_option linter.unusedSimpArgs false
set_option linter.unusedVariables false
namespace Go.Oc
open Go Go.RowKit
def idK (L:List (Nat × RowC)):List (Nat × Nat):=L.map fun x=>(x.1,x.1)
def npostL (P:Program) (rv:ResultVar) (L:List (Nat × RowC)) (r:AV):Exit→AS→Prop
 | .normal,s=>resC (resA P s rv) fun v=>lendA (idK L) s.ver v=some r∧lendOk (idK L) s (idK L) L
 | .ret,s=>resC (resA P s rv) fun v=>lendA (idK L) s.ver v=some r∧lendOk (idK L) s (idK L) L
 | _,_=>False
theorem npostL_ret {P:Program}{rv:ResultVar}{L:List (Nat × RowC)}{r:AV}{s:AS}:npostL P rv L r .ret s=resC (resA P s rv) fun v=>lendA (idK L) s.ver v=some r∧lendOk (idK L) s (idK L) L:=rfl
theorem npostL_normal {P:Program}{rv:ResultVar}{L:List (Nat × RowC)}{r:AV}{s:AS}:npostL P rv L r .normal s=resC (resA P s rv) fun v=>lendA (idK L) s.ver v=some r∧lendOk (idK L) s (idK L) L:=rfl
theorem idK_pin:∀ {L:List (Nat × RowC)}{k:Nat},(hasKey L k=true→pinOf (idK L) k=some k)∧(hasKey L k=false→pinOf (idK L) k=none)
 | [],k=>by simp [hasKey,idK,pinOf]
 | (j, c)::L, k=>by
   obtain⟨h1,h2⟩:=idK_pin (L:=L) (k:=k)
   simp only[hasKey,List.any_cons,Bool.or_eq_true,beq_iff_eq,Bool.or_eq_false_iff,beq_eq_false_iff_ne] at h1 h2 ⊢
   simp only[idK,List.map_cons,pinOf]
   constructor
   ·intro h
    by_cases e:k=j
    ·rw[if_pos e,e]
    ·rw[if_neg e]
     rcases h with h|h
     ·exact absurd h.symm e
     ·exact h1 h
   ·rintro ⟨h,h'⟩
    rw[if_neg (fun e=>h e.symm)]
    exact h2 h'
theorem ncalls_st {P:Program}{f:FuncId}{fn:Func}{c:Code}{n:Nat}{args:List RV}(L:List (Nat × RowC)) (r:AV) (rv:ResultVar) (hf:P.funcs[f]? = some fn) (hb:fn.body=some c) (hc:callable P f=true) (hn:fn.ntmps=n) (hres:fn.results.toList=[rv]) (hargs:args.length≤n)
 (hap:apart (idK L)=true) (hsm:(L.all fun x=>decide (x.1<1000))=true) (h:∀ C:Ctx,C.rd=none∧C.X=XS.none→awp P C c (npostL P rv L r) (st n (argL 0 args) (fun _=>0) [])):NCalls P f args L r:=by
 refine⟨hc,fun w R vs hR hV=>?_⟩
 have hlen:=RV.relV_length hV
 simp only[Array.length_toList] at hlen
 let C:Ctx:={ w0:=w,R0:=R,bor:=fun _=>False,pin:=fun _=>none }
 let p:Plan:={ R:=R,β:=fun _=>none,γ:=fun _=>1 }
 have hs:SR C p (st n (argL 0 args) (fun _=>0) []) { tmps:=vs++Array.replicate (fn.ntmps-vs.size) undef,defers:=[] } w:={
  base:=⟨rfl,rfl,rfl,Nat.le_refl _,fun _ _ _ _=>rfl⟩
  r0:=fun _ h=>h
  rn:=fun _ h=>.inl h
  rb:=hR
  tm:=fun t=>by
   show (look (argL 0 args) t).rel _ _ _ _
   by_cases hmem:∃ x,(t,x)∈argL 0 args
   ·cases e:args[t]? with
    | none =>
      obtain⟨x,hx⟩:=hmem
      obtain⟨i,y,h1,h2⟩:=argL_mem _ hx
      simp only[Nat.zero_add,Prod.mk.injEq] at h1
      rw[← h1.1,e] at h2;cases h2
    | some x =>
      obtain⟨u,hu,hx⟩:=RV.relV_get hV e
      have:(vs++Array.replicate (fn.ntmps-vs.size) undef).getD t undef=u:=by
       have ht:t<vs.size:=by have:=(List.getElem?_eq_some_iff.1 hu).1;simpa using this
       rw[Array.getD_eq_getD_getElem?,Array.getElem?_append_left ht]
       simp only[Array.getElem?_toList] at hu
       rw[hu];rfl
      have e2:=argL_look (k:=0) e
      rw[Nat.zero_add] at e2
      rw[this,e2]
      simpa only[AV.rel] using hx
   ·rw[look_none hmem]
    exact AV.rel_un _ _ _ _
  sz:=by simp only[Array.size_append,Array.size_replicate,st];omega
  ex:=ext_start (fun _ h=>h.elim (fun h=>h.elim) (fun h=>h.elim))
  rw:=fun k=>by simp [st,lookc_nil,zrl,p]
  bl:=fun k b h=>by simp [p] at h
  ij:=fun k k' b h=>by simp [p] at h
  cap:=fun k=>by simp [p,maxLen]
  pn:=fun k x h=>by cases h
  lk:=fun j km n l cur h _=>by cases h }
 refine callsIn_wide.1 (callsIn_of_wp_marks (n:=0) hf hb trivial (wpIn_mono (h C ⟨rfl,rfl⟩ _ w ⟨p,hs⟩) ?_))
 rintro e a' w' ⟨s',⟨p',hs'⟩,hq⟩
 have fin:∀ (a':Act) (w':World) (_:SR C p' s' a' w'),(resC (resA P s' rv) fun v=>lendA (idK L) s'.ver v=some r∧lendOk (idK L) s' (idK L) L)→∃ v,(results fn a'.tmps).run P w' = .ok v w'∧∃ v',∃ q:Plan,Ending.returned v = .returned v'∧Below w.heap.size w w'∧(∀ b,R b→q.R b)∧(∀ b,q.R b→R b∨w.heap.size≤b)∧(∀ b,q.R b→b<w'.heap.size) ∧
  (∀ k b,q.β k=some b→w.heap.size≤b∧b<w'.heap.size∧¬ q.R b∧hasKey L k=true)∧(∀ k k' b,q.β k=some b→q.β k'=some b→k=k')∧(∀ k,q.γ k≤maxLen)∧(∀ k,hasKey L k=false→q.γ k=1) ∧
  (∀ k,hasKey L k=true→zrl w' q (fun _=>0) k (lookc L k))∧r.rel w' q (fun _=>0) v':=fun a' w' hs' ⟨hp,hv,hlo⟩=>by
  obtain⟨u,hu,hrel⟩:=run_result hs' rv hp
  have hm:(fn.results.mapM (resOp a'.tmps)).run P w' = .ok #[u] w':=by
   rw[Array.mapM_eq_mapM_toList,hres]
   simp only[Sem.run_map,List.mapM_cons,List.mapM_nil,Sem.run_bind,hu,Result.andThen_ok,Sem.run_pure]
  obtain⟨g1,g2⟩:=lendOk_get hlo
  have hβ:∀ k b,(zlp (idK L) p').β k=some b→hasKey L k=true∧p'.β k=some b:=fun k b hb=>by
   cases e:hasKey L k
   ·simp [zlp,idK_pin.2 e] at hb
   ·simp only[zlp,idK_pin.1 e] at hb;exact⟨rfl,hb⟩
  refine⟨u,by rw[results_eq,Sem.run_bind,hm];simp,u,zlp (idK L) p',rfl,⟨hs'.base.os,hs'.base.tape,hs'.base.output,hs'.base.size,fun k hk=>hs'.base.block k hk (fun h=>h) (fun h=>h)⟩,hs'.r0,fun b hb=>?_,hs'.rb,fun k b hb=>?_,fun k k' b hb hb'=>hs'.ij k k' b (hβ k b hb).2 (hβ k' b hb').2,fun k=>?_,fun k hk=>?_,fun k hk=>?_,lend_rel hap _ _ _ hv hrel⟩
  ·rcases hs'.rn b hb with h|h|h
   ·exact .inl h
   ·exact .inr h
   ·exact h.elim
  ·obtain⟨h1,h2⟩:=hβ k b hb
   obtain⟨g3,g4,g5⟩:=hs'.bl k b h2
   exact⟨g5.resolve_right (fun h=>h.elim (fun h=>h.2) fun h=>h),g3,g4,h1⟩
  ·cases e:hasKey L k
   ·simp [zlp,idK_pin.2 e,maxLen]
   ·simp only[zlp,idK_pin.1 e];exact hs'.cap k
  ·simp [zlp,idK_pin.2 hk]
  ·exact lendC_rel hap (idK_pin.1 hk) (g1 k k (idK_pin.1 hk)) (hs'.rw k)
 cases e with
 | normal=>exact hs'.leave fun a'' w'' _ hs''=>fin a'' w'' hs'' hq
 | ret=>exact hs'.leave fun a'' w'' _ hs''=>fin a'' w'' hs'' hq
 | _=>exact hq.elim
def newVs (vs:Nat→Nat):List (Nat × Nat)→Nat→Nat
 | []=>vs
 | (_,ck)::l=>newVs (upd vs ck (vs ck+1)) l
def newCs (ρ:List (Nat × Nat)) (ver:Nat→Nat) (L:List (Nat × RowC)):List (Nat × Nat)→List (Nat × RowC)→List (Nat × RowC)
 | [],cs=>cs
 | (pk,ck)::l,cs=>newCs ρ ver L l (insc cs ck (backC ρ ver (lookc L pk)))
theorem lendKey_none:∀ {l:List (Nat × Nat)}{ck:Nat},(zLk l ck).isNone=true→zLk l ck=none:=fun h=>Option.isNone_iff_eq_none.1 h
theorem newVs_eq:∀ {ρ:List (Nat × Nat)}{vs:Nat→Nat},apart ρ=true→newVs vs ρ=newVer ρ vs
 | [],vs,_=>by funext k;rfl
 | (pk, ck)::l, vs, h=>by
   simp only[apart,Bool.and_eq_true] at h
   funext k
   rw[newVs,newVs_eq h.2]
   unfold newVer
   simp only[zLk]
   by_cases e:k=ck
   ·subst e
    rw[if_pos rfl,lendKey_none h.1.2,zus]
   ·rw[if_neg e,zuo _ _ e]
theorem newCs_eq {σ:List (Nat × Nat)}{ver:Nat→Nat}{L:List (Nat × RowC)}:∀ {ρ:List (Nat × Nat)}{cs:List (Nat × RowC)}{k:Nat},apart ρ=true →
 lookc (newCs σ ver L ρ cs) k=match zLk ρ k with|some pk=>backC σ ver (lookc L pk)|none=>lookc cs k
 | [],cs,k,_=>rfl
 | (pk, ck)::l, cs, k, h=>by
   simp only[apart,Bool.and_eq_true] at h
   rw[newCs,newCs_eq h.2]
   simp only[zLk]
   by_cases e:k=ck
   ·subst e
    rw[if_pos rfl,lendKey_none h.1.2]
    simp [lookc_insc]
   ·rw[if_neg e]
    cases zLk l k with
    | none=>simp [lookc_insc,e]
    | some pk'=>rfl
section
variable {n:Nat}{l:List (Nat × AV)}{vs:Nat→Nat}{cs:List (Nat × RowC)}
theorem xcall_new {P:Program}{F:FuncId}{args:List RV}{L:List (Nat × RowC)}{caps:List AV}{r:AV}{d:Option Nat}{f:AV}{xs:List AV}{K:AS→Prop}(h:NCalls P F args L r) (ρ:List (Nat × Nat)) (hf:callee? f=some (F,caps))
 (hp:AV.pureL (xs++caps)=true) (he:snapVL (st n l vs cs).rows (xs++caps)=args) (ha:apart ρ=true) (hs:sameKeysN ρ L=true) (hsm:smallK ρ=true)
 (hK:K (AS.put (st n l (newVs vs ρ) (newCs ρ (newVs vs ρ) L ρ cs)) d (backA ρ (newVs vs ρ) r))):xcall P false (st n l vs cs) d f xs K:=by
 refine .inr (.inl ⟨rfl,.inr (.inr (.inr ⟨F,caps,args,ρ,L,r,hf,hp,he▸leL_refl _,h,ha,hs,hsm,?_⟩))⟩)
 have e:({ st n l vs cs with rows:=newRows ρ L (st n l vs cs).rows }:AS)=st n l (newVs vs ρ) (newCs ρ (newVs vs ρ) L ρ cs):=by
  unfold st
  simp only[AS.mk.injEq,true_and]
  funext k
  rw[newCs_eq ha,newVs_eq ha]
  unfold newRows newVer
  have hv:vers (fun k=>(⟨vs k,lookc cs k⟩:Row))=vs:=rfl
  rw[hv]
  cases zLk ρ k<;>rfl
 rw[e]
 have hv:newVer ρ (st n l vs cs).ver=newVs vs ρ:=by rw[newVs_eq ha];rfl
 rw[hv]
 exact hK
end
attribute [go_sem] npostL_ret npostL_normal newVs newCs idK
end Go.Oc

namespace Go.Proofs.YtgfbenanljjgaaaGreat.Du
open Go Go.Oc
set_option maxRecDepth 8000
structure Bd where
 b:Int
 lo:Int
 hi:Int
structure Am where
 at_:Int
 beds:List Bd
def bedR (x:Bd):List RV:=[i64 x.b,i64 x.lo,i64 x.hi]
abbrev bedV (x:Bd):RV:=.ag [i64 x.b,i64 x.lo,i64 x.hi]
abbrev bedsR (l:List Bd):RV:=.sl 3 (l.map bedR)
def aimR (a:Am):List RV:=[i64 a.at_,bedsR a.beds]
abbrev aimV (a:Am):RV:=.ag [i64 a.at_,bedsR a.beds]
abbrev aimsR (l:List Am):RV:=.sl 2 (l.map aimR)
abbrev lawV (d:Int) (l:List Am):RV:=.ag [i64 d,aimsR l]
abbrev chV (a:Am) (d:Int):RV:=.ag [i64 a.at_,bedsR a.beds,i64 d]
def I64 (n:Int):Prop:=-9223372036854775808≤n∧n≤9223372036854775807
theorem within1_ok (n a b:Int):ACalls Tryz.prog 132 [i64 n,.rp [i64 a],.rp [i64 b]] (.bo (decide (n<a) || decide (b<n))):=by
 refine zas (rs:=[.bo (decide (n<a) || decide (b<n))]) [.tmp 4] Tryz.func132 rfl (by kernel_rfl) Tryz.ntmps132 rfl (by simp) rfl fun C vs=>?_
 apply zq
 refine zb fun K hK=>?_;simp only[go_sem];apply hK
 apply zq
 refine zb fun K hK=>?_;simp only[go_sem]
 refine⟨fun h=>?_,fun h=>?_⟩ <;>
 ·skip
  apply hK;apply ze;simp only[go_sem]
  try simp [h]
theorem index_ok (p:Int→Bool) (f:Nat) (caps:List RV) (l:List Int) (h:∀ x∈l,ACalls Tryz.prog f (i64 x::caps) (.bo (p x))):ACalls Tryz.prog 159 [ints l,.fn f caps] (i64 (indexF p l)):=by
 refine zas (rs:=[i64 (indexF p l)]) [.tmp 4] Tryz.func159 rfl (by kernel_rfl) Tryz.ntmps159 rfl (by simp) rfl fun C vs=>?_
 apply zq
 refine zb fun K hK=>?_;simp only[go_sem];apply hK
 repeat apply zq
 refine zb fun K hK=>?_;simp only[go_sem]
 intro hl
 apply hK;apply zd
 refine zup (n:=19) l.length (fun i vs=>[(0,.r (ints l)),(1,.r (.fn f caps)),(7,.r (i64 l.length)),(8,.r (i64 i))]) (fun _=>[])
  (fun i=>indexF p l=if indexF p (l.drop i)<0 then -1 else i+indexF p (l.drop i)) 0 (zfo [] ?_ rfl) (Nat.zero_le _) ?_ ?_
 ·try simp only[go_sem]
 ·simp only[List.drop_zero]
  have:=indexF_ge p l
  split
  ·omega
  ·simp
 ·intro i vs hi hI
  apply zq
  refine zb fun K hK=>?_;simp only[go_sem];apply hK
  apply zq
  apply zc rfl<;>intro hc<;>(try simp only[go_sem] at hc)
  ·obtain⟨x,hx⟩:=zol hc
   rw[drop_of_opt hx] at hI
   apply zx
   apply zq
   apply zd
   apply zq
   refine zb fun K hK=>?_;simp only[go_sem];apply hK
   apply zq
   refine zb fun K hK=>?_;simp only[go_sem,hx,hc,bedR,aimR]
   refine zh (h x (zmo hx)) rfl (by simp only[go_sem,i64,ints]) (by simp only[go_sem,i64,ints]) ?_
   (try simp only[go_sem]);apply hK
   apply zc rfl<;>intro hc<;>(try simp only[go_sem] at hc)
   ·apply zq
    refine zb fun K hK=>?_;simp only[go_sem];apply hK;apply ze;simp only[go_sem]
    simp [hI,indexF,hc]
   ·apply zx
    try simp only[go_sem]
    refine zb fun K hK=>?_;simp only[go_sem];(try simp (disch:=omega) only[zI]);apply hK
    try simp only[go_sem]
    refine⟨‹_›,?_,zfo [] ?_ rfl⟩
    ·rw[hI]
     simp only[indexF,hc,Bool.false_eq_true,if_false]
     have:=indexF_ge p (l.drop (i+1))
     (repeat' split)<;>omega
    ·try simp only[go_sem]
  ·apply zf;simp only[go_sem]
   apply zq
   refine zb fun K hK=>?_;simp only[go_sem];apply hK;apply ze;simp only[go_sem]
   have:l.drop i=[]:=List.drop_eq_nil_of_le (by omega)
   simp [hI,this,indexF]
theorem contains_ok (p:Int→Bool) (f:Nat) (caps:List RV) (l:List Int) (h:∀ x∈l,ACalls Tryz.prog f (i64 x::caps) (.bo (p x))):ACalls Tryz.prog 116 [ints l,.fn f caps] (.bo (l.any p)):=by
 refine zas (rs:=[.bo (l.any p)]) [.tmp 4] Tryz.func116 rfl (by kernel_rfl) Tryz.ntmps116 rfl (by simp) rfl fun C vs=>?_
 apply zq
 refine zb fun K hK=>?_;simp only[go_sem];apply hK
 apply zq
 refine zb fun K hK=>?_;simp only[go_sem]
 refine zh (index_ok p f caps l h) rfl (by simp only[go_sem,i64,ints]) (by simp only[go_sem,i64,ints]) ?_
 (try simp only[go_sem]);apply hK;apply ze;simp only[go_sem];rw[← indexF_any]
def withinL (a b:Int) (l:List Int):Bool:=l.all fun n=>decide (a≤n)&&decide (n≤b)
theorem withinL_not (a b:Int) (l:List Int):(!(l.any fun n=>decide (n<a) || decide (b<n)))=withinL a b l:=by
 unfold withinL
 rw[List.not_any_eq_all_not]
 congr 1
 funext n
 by_cases h1:n<a<;>by_cases h2:b<n<;>simp [h1,h2]<;>omega
theorem within_ok (a b:Int) (l:List Int):ACalls Tryz.prog 94 [i64 a,i64 b,ints l] (.bo (withinL a b l)):=by
 refine zas (rs:=[.bo (withinL a b l)]) [.tmp 6] Tryz.func94 rfl (by kernel_rfl) Tryz.ntmps94 rfl (by simp) rfl fun C vs=>?_
 apply zq
 refine zb fun K hK=>?_;simp only[go_sem];apply hK
 apply zq
 refine zb fun K hK=>?_;simp only[go_sem]
 refine zh (contains_ok (fun n=>decide (n<a) || decide (b<n)) 132 [.rp [i64 a],.rp [i64 b]] l fun x _=>within1_ok x a b) rfl (by simp only[go_sem,i64,ints]) (by simp only[go_sem,i64,ints]) ?_
 (try simp only[go_sem]);apply hK;apply ze;simp only[go_sem];rw[← withinL_not]
theorem indexB_ok (p:Bd→Bool) (f:Nat) (caps:List RV) (l:List Bd) (h:∀ x∈l,ACalls Tryz.prog f (bedV x::caps) (.bo (p x))):ACalls Tryz.prog 166 [bedsR l,.fn f caps] (i64 (indexF p l)):=by
 refine zas (rs:=[i64 (indexF p l)]) [.tmp 4] Tryz.func166 rfl (by kernel_rfl) Tryz.ntmps166 rfl (by simp) rfl fun C vs=>?_
 apply zq
 refine zb fun K hK=>?_;simp only[go_sem];apply hK
 repeat apply zq
 refine zb fun K hK=>?_;simp only[go_sem]
 intro hl
 apply hK;apply zd
 refine zup (n:=19) l.length (fun i vs=>[(0,.r (bedsR l)),(1,.r (.fn f caps)),(7,.r (i64 l.length)),(8,.r (i64 i))]) (fun _=>[])
  (fun i=>indexF p l=if indexF p (l.drop i)<0 then -1 else i+indexF p (l.drop i)) 0 (zfo [] ?_ rfl) (Nat.zero_le _) ?_ ?_
 ·try simp only[go_sem]
 ·simp only[List.drop_zero]
  have:=indexF_ge p l
  split
  ·omega
  ·simp
 ·intro i vs hi hI
  apply zq
  refine zb fun K hK=>?_;simp only[go_sem];apply hK
  apply zq
  apply zc rfl<;>intro hc<;>(try simp only[go_sem] at hc)
  ·obtain⟨x,hx⟩:=zol hc
   rw[drop_of_opt hx] at hI
   apply zx
   apply zq
   apply zd
   apply zq
   refine zb fun K hK=>?_;simp only[go_sem];apply hK
   apply zq
   refine zb fun K hK=>?_;simp only[go_sem,hx,hc,bedR,aimR]
   refine zh (h x (zmo hx)) rfl (by simp only[go_sem,i64,ints]) (by simp only[go_sem,i64,ints]) ?_
   (try simp only[go_sem]);apply hK
   apply zc rfl<;>intro hc<;>(try simp only[go_sem] at hc)
   ·apply zq
    refine zb fun K hK=>?_;simp only[go_sem];apply hK;apply ze;simp only[go_sem]
    simp [hI,indexF,hc]
   ·apply zx
    try simp only[go_sem]
    refine zb fun K hK=>?_;simp only[go_sem];(try simp (disch:=omega) only[zI]);apply hK
    try simp only[go_sem]
    refine⟨‹_›,?_,zfo [] ?_ rfl⟩
    ·rw[hI]
     simp only[indexF,hc,Bool.false_eq_true,if_false]
     have:=indexF_ge p (l.drop (i+1))
     (repeat' split)<;>omega
    ·try simp only[go_sem]
  ·apply zf;simp only[go_sem]
   apply zq
   refine zb fun K hK=>?_;simp only[go_sem];apply hK;apply ze;simp only[go_sem]
   have:l.drop i=[]:=List.drop_eq_nil_of_le (by omega)
   simp [hI,this,indexF]
theorem containsB_ok (p:Bd→Bool) (f:Nat) (caps:List RV) (l:List Bd) (h:∀ x∈l,ACalls Tryz.prog f (bedV x::caps) (.bo (p x))):ACalls Tryz.prog 134 [bedsR l,.fn f caps] (.bo (l.any p)):=by
 refine zas (rs:=[.bo (l.any p)]) [.tmp 4] Tryz.func134 rfl (by kernel_rfl) Tryz.ntmps134 rfl (by simp) rfl fun C vs=>?_
 apply zq
 refine zb fun K hK=>?_;simp only[go_sem];apply hK
 apply zq
 refine zb fun K hK=>?_;simp only[go_sem]
 refine zh (indexB_ok p f caps l h) rfl (by simp only[go_sem,i64,ints]) (by simp only[go_sem,i64,ints]) ?_
 (try simp only[go_sem]);apply hK;apply ze;simp only[go_sem];rw[← indexF_any]
theorem indexA_ok (p:Am→Bool) (f:Nat) (caps:List RV) (l:List Am) (h:∀ x∈l,ACalls Tryz.prog f (aimV x::caps) (.bo (p x))):ACalls Tryz.prog 131 [aimsR l,.fn f caps] (i64 (indexF p l)):=by
 refine zas (rs:=[i64 (indexF p l)]) [.tmp 4] Tryz.func131 rfl (by kernel_rfl) Tryz.ntmps131 rfl (by simp) rfl fun C vs=>?_
 apply zq
 refine zb fun K hK=>?_;simp only[go_sem];apply hK
 repeat apply zq
 refine zb fun K hK=>?_;simp only[go_sem]
 intro hl
 apply hK;apply zd
 refine zup (n:=19) l.length (fun i vs=>[(0,.r (aimsR l)),(1,.r (.fn f caps)),(7,.r (i64 l.length)),(8,.r (i64 i))]) (fun _=>[])
  (fun i=>indexF p l=if indexF p (l.drop i)<0 then -1 else i+indexF p (l.drop i)) 0 (zfo [] ?_ rfl) (Nat.zero_le _) ?_ ?_
 ·try simp only[go_sem]
 ·simp only[List.drop_zero]
  have:=indexF_ge p l
  split
  ·omega
  ·simp
 ·intro i vs hi hI
  apply zq
  refine zb fun K hK=>?_;simp only[go_sem];apply hK
  apply zq
  apply zc rfl<;>intro hc<;>(try simp only[go_sem] at hc)
  ·obtain⟨x,hx⟩:=zol hc
   rw[drop_of_opt hx] at hI
   apply zx
   apply zq
   apply zd
   apply zq
   refine zb fun K hK=>?_;simp only[go_sem];apply hK
   apply zq
   refine zb fun K hK=>?_;simp only[go_sem,hx,hc,bedR,aimR]
   refine zh (h x (zmo hx)) rfl (by simp only[go_sem,i64,ints]) (by simp only[go_sem,i64,ints]) ?_
   (try simp only[go_sem]);apply hK
   apply zc rfl<;>intro hc<;>(try simp only[go_sem] at hc)
   ·apply zq
    refine zb fun K hK=>?_;simp only[go_sem];apply hK;apply ze;simp only[go_sem]
    simp [hI,indexF,hc]
   ·apply zx
    try simp only[go_sem]
    refine zb fun K hK=>?_;simp only[go_sem];(try simp (disch:=omega) only[zI]);apply hK
    try simp only[go_sem]
    refine⟨‹_›,?_,zfo [] ?_ rfl⟩
    ·rw[hI]
     simp only[indexF,hc,Bool.false_eq_true,if_false]
     have:=indexF_ge p (l.drop (i+1))
     (repeat' split)<;>omega
    ·try simp only[go_sem]
  ·apply zf;simp only[go_sem]
   apply zq
   refine zb fun K hK=>?_;simp only[go_sem];apply hK;apply ze;simp only[go_sem]
   have:l.drop i=[]:=List.drop_eq_nil_of_le (by omega)
   simp [hI,this,indexF]
theorem containsA_ok (p:Am→Bool) (f:Nat) (caps:List RV) (l:List Am) (h:∀ x∈l,ACalls Tryz.prog f (aimV x::caps) (.bo (p x))):ACalls Tryz.prog 92 [aimsR l,.fn f caps] (.bo (l.any p)):=by
 refine zas (rs:=[.bo (l.any p)]) [.tmp 4] Tryz.func92 rfl (by kernel_rfl) Tryz.ntmps92 rfl (by simp) rfl fun C vs=>?_
 apply zq
 refine zb fun K hK=>?_;simp only[go_sem];apply hK
 apply zq
 refine zb fun K hK=>?_;simp only[go_sem]
 refine zh (indexA_ok p f caps l h) rfl (by simp only[go_sem,i64,ints]) (by simp only[go_sem,i64,ints]) ?_
 (try simp only[go_sem]);apply hK;apply ze;simp only[go_sem];rw[← indexF_any]
def bedOk (b:Int):Bool:=decide (b=125) || decide (b=225) || (decide (100≤b)&&decide (b≤499)&&decide (1≤b % 100)&&decide (b % 100≤20))
theorem tdivN {b:Int}(h:b≤0):b.tdiv 100 = -((-b) / 100):=by
 rw[← Int.tdiv_eq_ediv_of_nonneg (by omega),Int.neg_tdiv,Int.neg_neg]
theorem tdiv100 {b:Int}(h:I64 b):IntKind.i64.wrap (b.tdiv 100)=b.tdiv 100:=by
 unfold I64 at h
 by_cases h0:0≤b
 ·rw[Int.tdiv_eq_ediv_of_nonneg h0,zI]<;>omega
 ·rw[tdivN (by omega),zI]<;>omega
theorem tdiv_lt {b:Int}(h:b<100):b.tdiv 100≤0:=by
 by_cases h0:0≤b
 ·rw[Int.tdiv_eq_ediv_of_nonneg h0];omega
 ·rw[tdivN (by omega)];omega
theorem bedOk_within (b:Int):(withinL 1 4 [b.tdiv 100]&&withinL 1 20 [b.tmod 100] || b == 125 || b == 225)=bedOk b:=by
 unfold bedOk withinL
 by_cases h:b<100
 ·have h1:=tdiv_lt h
  have e1:decide (1≤b.tdiv 100)=false:=by simp;omega
  have e2:decide (100≤b)=false:=by simp;omega
  have e3:decide (b=125)=false:=by simp;omega
  have e4:decide (b=225)=false:=by simp;omega
  have e5:(b == 125)=false:=by simp;omega
  have e6:(b == 225)=false:=by simp;omega
  simp [e1,e2,e3,e4,e5,e6]
 ·rw[Int.tdiv_eq_ediv_of_nonneg (by omega),Int.tmod_eq_emod_of_nonneg (by omega)]
  have e:(decide (1≤b / 100)&&decide (b / 100≤4))=(decide (100≤b)&&decide (b≤499)):=by
   by_cases h2:b≤499
   ·have:b / 100≤4:=by omega
    have:1≤b / 100:=by omega
    have:100≤b:=by omega
    simp [*]
   ·have:¬ b / 100≤4:=by omega
    simp [*]
  simp only[List.all_cons,List.all_nil,Bool.and_true,e]
  have e1:(b == 125)=decide (b=125):=by rw[Bool.eq_iff_iff];simp
  have e2:(b == 225)=decide (b=225):=by rw[Bool.eq_iff_iff];simp
  rw[e1,e2]
  cases decide (b=125)<;>cases decide (b=225)<;>simp [Bool.and_assoc]
theorem isBed_ok (b:Int) (hb:I64 b):ACalls Tryz.prog 165 [i64 b] (.bo (bedOk b)):=by
 have hq:=tdiv100 hb
 refine zas (rs:=[.bo (bedOk b)]) [.tmp 2] Tryz.func165 rfl (by kernel_rfl) Tryz.ntmps165 rfl (by simp) rfl fun C vs=>?_
 repeat apply zq
 refine zb fun K hK=>?_;simp only[go_sem];(try simp (disch:=omega) only[zI]);repeat first|intro _|refine⟨by omega,?_⟩
 apply hK;clear hK K
 repeat apply zq
 refine zb fun K hK=>?_;simp only[go_sem,hq];(try simp (disch:=omega) only[zI]);repeat first|intro _|refine⟨by omega,?_⟩
 apply hK;clear hK K
 repeat apply zq
 refine zb fun K hK=>?_;simp only[go_sem];(try simp (disch:=omega) only[zI])
 refine zh (within_ok 1 4 [b.tdiv 100]) rfl (by simp only[go_sem,i64,ints]) (by simp only[go_sem,i64,ints]) ?_
 (try simp only[go_sem]);(try simp (disch:=omega) only[zI])
 have hw:=bedOk_within b
 refine⟨fun h1=>?_,fun h1=>?_⟩
 ·refine zh (within_ok 1 20 [b.tmod 100]) rfl (by simp only[go_sem,i64,ints]) (by simp only[go_sem,i64,ints]) ?_
  (try simp only[go_sem]);(try simp (disch:=omega) only[zI])
  repeat' first|intro _|refine And.intro ?_ ?_
  all_goals first|omega|skip
  all_goals (refine hK _ ?_;clear hK K)
  all_goals (apply ze;simp only[go_sem])
  all_goals (rw[← hw];clear hw;simp [*])
 ·repeat' first|intro _|refine And.intro ?_ ?_
  all_goals first|omega|skip
  all_goals (refine hK _ ?_;clear hK K)
  all_goals (apply ze;simp only[go_sem])
  all_goals (rw[← hw];clear hw;simp [*])
def scoreOf (b:Int):Int:=b / 100*(b % 100)
theorem score_le {b:Int}(h0:0≤b) (h1:b≤499):0≤scoreOf b∧scoreOf b≤396:=by
 unfold scoreOf
 have h2:0≤b / 100:=by omega
 have h3:b / 100≤4:=by omega
 refine⟨Int.mul_nonneg h2 (by omega),?_⟩
 have:=Int.mul_le_mul h3 (show b % 100≤99 by omega) (by omega) (by omega)
 omega
def loS (l:List Bd):Int:=(l.map (·.lo)).sum
def hiS (l:List Bd):Int:=(l.map (·.hi)).sum
theorem loS_snoc (l:List Bd) (x:Bd):loS (l++[x])=loS l+x.lo:=by simp [loS]
theorem hiS_snoc (l:List Bd) (x:Bd):hiS (l++[x])=hiS l+x.hi:=by simp [hiS]
def Small (l:List Bd):Prop:=∀ x∈l,(0≤x.lo∧x.lo≤6000)∧0≤x.hi∧x.hi≤6000
theorem sums_le:∀ {l:List Bd},Small l→(0≤loS l∧loS l≤6000*l.length)∧0≤hiS l∧hiS l≤6000*l.length
 | [],_=>by simp [loS,hiS]
 | x::l, h=>by
   have h1:=h x (by simp)
   have h2:=sums_le (l:=l) fun y hy=>h y (by simp [hy])
   simp only[loS,hiS,List.map_cons,List.sum_cons,List.length_cons] at h2 ⊢
   omega
theorem Small.take {l:List Bd}(h:Small l) (i:Nat):Small (l.take i):=fun x hx=>h x (List.mem_of_mem_take hx)
theorem sums_ok (a:Int) (l:List Bd) (d:Int) (hs:Small l) (hl:l.length≤1000):ACalls Tryz.prog 97 [.ag [i64 a,bedsR l,i64 d]] (.ag [i64 (loS l),i64 (hiS l)]):=by
 refine zas (rs:=[.ag [i64 (loS l),i64 (hiS l)]]) [.cell 2 48] Tryz.func97 rfl (by kernel_rfl) Tryz.ntmps97 rfl (by simp) rfl fun C vs=>?_
 apply zq
 refine zb fun K hK=>?_;simp only[go_sem];apply hK;apply zw (zk [1,2]);simp only[go_sem]
 repeat apply zq
 refine zb fun K hK=>?_;simp only[go_sem]
 intro _
 apply hK;apply zw (zk [2,7,8,9]);simp only[go_sem];apply zd
 refine zup (n:=29) l.length (fun i vs=>[(2,.pt 2 (vs 2) 0),(7,.r (bedsR l)),(8,.r (i64 l.length)),(9,.r (i64 i))])
  (fun i=>[(2,.box [.r (i64 (loS (l.take i))),.r (i64 (hiS (l.take i)))])]) (fun _=>True) 0 (zfo [1] ?_ ?_) (Nat.zero_le _) trivial ?_
 ·try simp only[go_sem]
 ·try simp only[go_sem]
  simp [loS,hiS]
 ·intro i vs hi _
  apply zq
  refine zb fun K hK=>?_;simp only[go_sem];apply hK
  apply zq
  apply zc rfl<;>intro hc<;>(try simp only[go_sem] at hc)
  ·obtain⟨x,hx⟩:=zol hc
   have hb:=sums_le (hs.take (i+1))
   have ht:=zto hx
   have hlt:(l.take (i+1)).length≤1000:=by rw[List.length_take];omega
   rw[ht,loS_snoc,hiS_snoc] at hb
   rw[ht] at hlt
   apply zx
   apply zq
   apply zd
   apply zq
   refine zb fun K hK=>?_;simp only[go_sem,hx,hc,bedR];apply hK;apply zw (zk [2,4,7,8,9]);simp only[go_sem]
   refine awp_dreg2 [(2,some 2),(4,some 4)] follows (by decide +kernel) (by kernel_rfl) (by simp only[keysOk,List.mem_cons,List.not_mem_nil,forall_eq_or_imp,Oc.keyOf,go_sem];simp) fun K hK=>?_
   simp only[go_sem];(try simp (disch:=omega) only[zI]);apply hK;apply zw (zk [2,7,8,9]);simp only[go_sem];refine zb fun K hK=>?_;simp only[go_sem];(try simp (disch:=omega) only[zI]);apply hK
   try simp only[go_sem]
   refine⟨hc,zfo [4] ?_ ?_⟩
   ·try simp only[go_sem]
   ·try simp only[go_sem]
    rw[ht,loS_snoc,hiS_snoc]
  ·apply zf;simp only[go_sem]
   apply zq
   refine zb fun K hK=>?_;simp only[go_sem];apply hK;apply zw (zk [2]);simp only[go_sem];apply ze;simp only[go_sem]
   have:l.take i=l:=List.take_of_length_le (by omega)
   simp [this]
def seqOk:Option Int→List Bd→Bool
 | _,[]=>true
 | p,x::l=>(decide (x.b=0) || bedOk x.b)&&(match p with|none=>true|some q=>decide (q<x.b))&&seqOk (some x.b) l
def prevB (l:List Bd):Nat→Option Int
 | 0=>none
 | i+1=>(l[i]?).map (·.b)
def Wf (l:List Bd):Prop:=∀ x∈l,I64 x.b∧I64 x.lo∧I64 x.hi
theorem areBeds_ok (a:Int) (l:List Bd) (d:Int) (ha:I64 a) (hw:Wf l):ACalls Tryz.prog 133 [.ag [i64 a,bedsR l,i64 d]] (.bo (bedOk a && !l.isEmpty&&seqOk none l)):=by
 refine zas (rs:=[.bo (bedOk a && !l.isEmpty&&seqOk none l)]) [.tmp 2] Tryz.func133 rfl (by kernel_rfl) Tryz.ntmps133 rfl (by simp) rfl fun C vs=>?_
 apply zq
 refine zb fun K hK=>?_;simp only[go_sem];apply hK;apply zw (zk [1]);simp only[go_sem]
 repeat apply zq
 refine zb fun K hK=>?_;simp only[go_sem]
 refine zh (isBed_ok a ha) rfl (by simp only[go_sem,i64,ints]) (by simp only[go_sem,i64,ints]) ?_
 (try simp only[go_sem])
 cases hA:bedOk a
 ·try simp only[go_sem]
  apply hK
  apply zc rfl<;>intro hc<;>(try simp only[go_sem] at hc)
  apply zq
  refine zb fun K hK=>?_;simp only[go_sem];apply hK;apply ze;simp only[go_sem]
  simp [hA]
 try simp only[go_sem]
 intro _
 cases hE:l.isEmpty
 case true =>
  have h0:l=[]:=List.isEmpty_iff.1 hE
  subst h0
  try simp only[go_sem]
  apply hK
  apply zc rfl<;>intro hc<;>(try simp only[go_sem] at hc)
  apply zq
  refine zb fun K hK=>?_;simp only[go_sem];apply hK;apply ze;simp only[go_sem]
  simp
 have hne:((l.length:Int) == 0)=false:=by
  cases l with
  | nil=>simp at hE
  | cons=>simp;omega
 rw[hne]
 apply hK;apply zw (zk [1,16]);simp only[go_sem]
 apply zc rfl<;>intro hc<;>(try simp only[go_sem] at hc)
 apply zx
 try simp only[go_sem]
 repeat apply zq
 refine zb fun K hK=>?_;simp only[go_sem]
 intro hl9
 apply hK;apply zw (zk [1,19,20,21]);simp only[go_sem];apply zd
 refine zup (n:=53) l.length (fun i vs=>[(1,.pt 1 (vs 1) 0),(19,.r (bedsR l)),(20,.r (i64 l.length)),(21,.r (i64 i))])
  (fun i=>[(1,.box [.r (i64 a),.r (bedsR l),.r (i64 d)])]) (fun i=>seqOk none l=seqOk (prevB l i) (l.drop i)) 0 (zfo [] ?_ ?_) (Nat.zero_le _) rfl ?_
 ·try simp only[go_sem]
 ·try simp only[go_sem]
 ·intro i vs hi hI
  apply zq
  refine zb fun K hK=>?_;simp only[go_sem];apply hK
  apply zq
  apply zc rfl<;>intro hc<;>(try simp only[go_sem] at hc)
  ·obtain⟨x,hx⟩:=zol hc
   rw[drop_of_opt hx] at hI
   obtain⟨hxb,_,_⟩:=hw x (zmo hx)
   have hB:ACalls Tryz.prog 165 [i64 x.b] (.bo (bedOk x.b)):=isBed_ok x.b hxb
   apply zx
   apply zq
   apply zd
   apply zq
   refine zb fun K hK=>?_;simp only[go_sem,hx,hc,bedR];apply hK;apply zw (zk [1,3,4,19,20,21]);simp only[go_sem]
   have hp:∀ q,prevB l i=some q→∃ y j,i=j+1∧l[j]? = some y∧q=y.b:=fun q hq=>by
    cases i with
    | zero=>cases hq
    | succ j =>
      obtain⟨y,hy⟩:=zol (l:=l) (i:=j) (by omega)
      simp only[prevB,hy,Option.map_some,Option.some.injEq] at hq
      exact⟨y,j,rfl,hy,hq.symm⟩
   cases hb0:decide (x.b=0) || bedOk x.b
   ·have h0:(x.b != 0)=true:=by simp_all
    have h1:bedOk x.b=false:=by simp_all
    rw[h1] at hB
    apply zq
    refine awp_dreg2 [(1,some 1),(3,none),(4,some 4)] follows (by decide +kernel) (by kernel_rfl) (by simp only[keysOk,List.mem_cons,List.not_mem_nil,forall_eq_or_imp,Oc.keyOf,go_sem];simp) fun K hK=>?_
    simp only[go_sem,h0]
    refine zh (hB) rfl (by simp only[go_sem,i64,ints]) (by simp only[go_sem,i64,ints]) ?_
    (try simp only[go_sem]);apply hK;apply zw (zk [1,19,20,21,51]);simp only[go_sem]
    apply zc rfl<;>intro hc<;>(try simp only[go_sem] at hc)
    apply zq
    refine zb fun K hK=>?_;simp only[go_sem];apply hK;apply ze;simp only[go_sem]
    simp [hI,seqOk,hb0]
   have hnx:prevB l (i+1)=some x.b:=by simp [prevB,hx]
   have hstep:seqOk none l=((match prevB l i with|none=>true|some q=>decide (q<x.b))&&seqOk (prevB l (i+1)) (l.drop (i+1))):=by
    rw[hI,hnx]
    simp only[seqOk,hb0,Bool.true_and]
   cases i with
   | zero =>
     have hp0:seqOk none l=seqOk (prevB l 1) (l.drop 1):=by simpa [prevB] using hstep
     by_cases h0:x.b=0
     ·have e0:(x.b != 0)=false:=by simp [h0]
      apply zq
      refine awp_dreg2 [(1,some 1),(3,none),(4,some 4)] follows (by decide +kernel) (by kernel_rfl) (by simp only[keysOk,List.mem_cons,List.not_mem_nil,forall_eq_or_imp,Oc.keyOf,go_sem];simp) fun K hK=>?_
      simp only[go_sem,e0];apply hK;apply zw (zk [1,19,20,21,51]);simp only[go_sem]
      apply zc rfl<;>intro hc<;>(try simp only[go_sem] at hc)
      apply zx
      try simp only[go_sem]
      refine zb fun K hK=>?_;simp only[go_sem];(try simp (disch:=omega) only[zI]);apply hK
      try simp only[go_sem]
      exact⟨by omega,hp0,zfo [4] (by try simp only[go_sem]) (by try simp only[go_sem])⟩
     ·have e0:(x.b != 0)=true:=by simp [h0]
      have e1:bedOk x.b=true:=by simpa [h0] using hb0
      rw[e1] at hB
      apply zq
      refine awp_dreg2 [(1,some 1),(3,none),(4,some 4)] follows (by decide +kernel) (by kernel_rfl) (by simp only[keysOk,List.mem_cons,List.not_mem_nil,forall_eq_or_imp,Oc.keyOf,go_sem];simp) fun K hK=>?_
      simp only[go_sem,e0]
      refine zh (hB) rfl (by simp only[go_sem,i64,ints]) (by simp only[go_sem,i64,ints]) ?_
      (try simp only[go_sem]);apply hK;apply zw (zk [1,19,20,21,51]);simp only[go_sem]
      apply zc rfl<;>intro hc<;>(try simp only[go_sem] at hc)
      apply zx
      try simp only[go_sem]
      refine zb fun K hK=>?_;simp only[go_sem];(try simp (disch:=omega) only[zI]);apply hK
      try simp only[go_sem]
      exact⟨by omega,hp0,zfo [4] (by try simp only[go_sem]) (by try simp only[go_sem])⟩
   | succ j =>
     obtain⟨y,hy⟩:=zol (l:=l) (i:=j) (by omega)
     have hpy:prevB l (j+1)=some y.b:=by simp [prevB,hy]
     rw[hpy] at hstep
     have hj1:IntKind.i64.wrap ((j:Int)+1-1)=(j:Int):=by rw[zI]<;>omega
     have hj2:j<l.length:=by omega
     have hj0:(0<(j:Int)+1)=True:=by simp
     have go:∀ (e:Bool),decide (x.b≤y.b)=e→(e=true→seqOk none l=false)∧(e=false→seqOk none l=seqOk (prevB l (j+1+1)) (l.drop (j+1+1))):=fun e he=>by
      refine⟨fun h=>?_,fun h=>?_⟩
      ·have:decide (y.b<x.b)=false:=by simp_all
       rw[hstep];simp [this]
      ·have:decide (y.b<x.b)=true:=by simp_all
       rw[hstep];simp [this]
     obtain⟨go1,go2⟩:=go _ rfl
     by_cases h0:x.b=0
     ·have e0:(x.b != 0)=false:=by simp [h0]
      apply zq
      refine awp_dreg2 [(1,some 1),(3,none),(4,some 4)] follows (by decide +kernel) (by kernel_rfl) (by simp only[keysOk,List.mem_cons,List.not_mem_nil,forall_eq_or_imp,Oc.keyOf,go_sem];simp) fun K hK=>?_
      simp only[go_sem,e0,hj1,hj0,hy,bedR]
      refine⟨by omega,?_⟩
      apply hK;apply zw (zk [1,19,20,21,51]);simp only[go_sem]
      cases hle:decide (x.b≤y.b)
      ·skip
       apply zc rfl<;>intro hc<;>(try simp only[go_sem] at hc)
       apply zx
       try simp only[go_sem]
       refine zb fun K hK=>?_;simp only[go_sem];(try simp (disch:=omega) only[zI]);apply hK
       try simp only[go_sem]
       exact⟨by omega,go2 hle,zfo [4] (by try simp only[go_sem]) (by try simp only[go_sem])⟩
      ·skip
       apply zc rfl<;>intro hc<;>(try simp only[go_sem] at hc)
       apply zq
       refine zb fun K hK=>?_;simp only[go_sem];apply hK;apply ze;simp only[go_sem]
       simp [go1 hle]
     ·have e0:(x.b != 0)=true:=by simp [h0]
      have e1:bedOk x.b=true:=by simpa [h0] using hb0
      rw[e1] at hB
      apply zq
      refine awp_dreg2 [(1,some 1),(3,none),(4,some 4)] follows (by decide +kernel) (by kernel_rfl) (by simp only[keysOk,List.mem_cons,List.not_mem_nil,forall_eq_or_imp,Oc.keyOf,go_sem];simp) fun K hK=>?_
      simp only[go_sem,e0,hj1,hj0,hy,bedR]
      refine zh (hB) rfl (by simp only[go_sem,i64,ints,hj1,hj0,hy,bedR]) (by simp only[go_sem,i64,ints,hj1,hj0,hy,bedR]) ?_
      (try simp only[go_sem,hj1,hj0,hy,bedR])
      refine⟨by omega,?_⟩
      apply hK;apply zw (zk [1,19,20,21,51]);simp only[go_sem]
      cases hle:decide (x.b≤y.b)
      ·skip
       apply zc rfl<;>intro hc<;>(try simp only[go_sem] at hc)
       apply zx
       try simp only[go_sem]
       refine zb fun K hK=>?_;simp only[go_sem];(try simp (disch:=omega) only[zI]);apply hK
       try simp only[go_sem]
       exact⟨by omega,go2 hle,zfo [4] (by try simp only[go_sem]) (by try simp only[go_sem])⟩
      ·skip
       apply zc rfl<;>intro hc<;>(try simp only[go_sem] at hc)
       apply zq
       refine zb fun K hK=>?_;simp only[go_sem];apply hK;apply ze;simp only[go_sem]
       simp [go1 hle]
  ·apply zf;simp only[go_sem]
   apply zq
   refine zb fun K hK=>?_;simp only[go_sem];apply hK;apply zw (zk [2]);simp only[go_sem];apply ze;simp only[go_sem]
   have:l.drop i=[]:=List.drop_eq_nil_of_le (by omega)
   have h0:l≠[]:=fun e=>by rw[e] at hE;simp at hE
   simp [hI,this,seqOk,hA,h0]
def badCh (d:Int) (x:Bd):Bool:=!withinL 0 d [x.lo,x.hi] || decide (x.hi<x.lo)
theorem valid1_ok (a:Int) (l:List Bd) (d:Int) (x:Bd):ACalls Tryz.prog 135 [bedV x,.rp [i64 a,bedsR l,i64 d]] (.bo (badCh d x)):=by
 refine zas (rs:=[.bo (badCh d x)]) [.tmp 3] Tryz.func135 rfl (by kernel_rfl) Tryz.ntmps135 rfl (by simp) rfl fun C vs=>?_
 apply zq
 refine zb fun K hK=>?_;simp only[go_sem];apply hK;clear hK K
 apply zq
 refine zb fun K hK=>?_;simp only[go_sem]
 refine zh (within_ok 0 d [x.lo,x.hi]) rfl (by simp only[go_sem,i64,ints]) (by simp only[go_sem,i64,ints]) ?_
 (try simp only[go_sem])
 refine⟨fun h=>?_,fun h=>?_⟩
 ·skip
  apply hK;clear hK K;apply ze;simp only[go_sem]
  simp [badCh,h]
 ·skip
  apply hK;clear hK K;apply ze;simp only[go_sem]
  simp [badCh,h]
def chOk (d:Int) (l:List Bd):Bool:=l.all fun x=>decide (0≤x.lo)&&decide (x.lo≤x.hi)&&decide (x.hi≤d)
theorem badCh_eq (d:Int) (l:List Bd):(!(l.any (badCh d)))=chOk d l:=by
 unfold chOk
 rw[List.not_any_eq_all_not]
 congr 1
 funext x
 unfold badCh withinL
 simp only[List.all_cons,List.all_nil,Bool.and_true]
 by_cases h1:0≤x.lo<;>by_cases h2:x.lo≤d<;>by_cases h3:0≤x.hi<;>by_cases h4:x.hi≤d<;>by_cases h5:x.hi<x.lo<;>by_cases h6:x.lo≤x.hi<;>simp [h1,h2,h3,h4,h5,h6]<;>omega
theorem chOk_small {d:Int}{l:List Bd}(h:chOk d l=true) (hd:d≤6000):Small l:=fun x hx=>by
 have:=List.all_eq_true.1 h x hx
 simp only[Bool.and_eq_true,decide_eq_true_eq] at this
 omega
def aimOk (d:Int) (a:Am):Bool:=bedOk a.at_ && !a.beds.isEmpty&&seqOk none a.beds&&chOk d a.beds&&decide (loS a.beds≤d)&&decide (d≤hiS a.beds)
def WfA (a:Am):Prop:=I64 a.at_∧Wf a.beds
theorem isValid_ok (a:Am) (d:Int) (hw:WfA a) (hd:d≤6000) (hl:a.beds.length≤1000):ACalls Tryz.prog 95 [chV a d] (.bo (aimOk d a)):=by
 refine zas (rs:=[.bo (aimOk d a)]) [.tmp 2] Tryz.func95 rfl (by kernel_rfl) Tryz.ntmps95 rfl (by simp) rfl fun C vs=>?_
 apply zq
 refine zb fun K hK=>?_;simp only[go_sem];apply hK;clear hK K;apply zw (zk [1]);simp only[go_sem]
 repeat apply zq
 refine zb fun K hK=>?_;simp only[go_sem]
 refine zh (areBeds_ok a.at_ a.beds d hw.1 hw.2) rfl (by simp only[go_sem,i64,ints]) (by simp only[go_sem,i64,ints]) ?_
 (try simp only[go_sem])
 cases h1:(bedOk a.at_ && !a.beds.isEmpty&&seqOk none a.beds)
 ·try simp only[go_sem]
  apply hK;clear hK K
  apply zc rfl<;>intro hc<;>(try simp only[go_sem] at hc)
  apply zq
  refine zb fun K hK=>?_;simp only[go_sem];apply hK;clear hK K;apply ze;simp only[go_sem]
  simp [aimOk,h1]
 try simp only[go_sem]
 refine zh (containsB_ok (badCh d) 135 [.rp [i64 a.at_,bedsR a.beds,i64 d]] a.beds fun x _=>valid1_ok a.at_ a.beds d x) rfl (by simp only[go_sem,i64,ints]) (by simp only[go_sem,i64,ints]) ?_
 (try simp only[go_sem]);apply hK;clear hK K;apply zw (zk [1,13]);simp only[go_sem]
 have h2:=badCh_eq d a.beds
 cases h3:a.beds.any (badCh d)
 ·rw[h3] at h2
  have h4:chOk d a.beds=true:=by simpa using h2.symm
  apply zc rfl<;>intro hc<;>(try simp only[go_sem] at hc)
  apply zx
  try simp only[go_sem]
  apply zq
  refine zb fun K hK=>?_;simp only[go_sem]
  refine zh (sums_ok a.at_ a.beds d (chOk_small h4 hd) hl) rfl (by simp only[go_sem,i64,ints]) (by simp only[go_sem,i64,ints]) ?_
  (try simp only[go_sem]);apply hK;clear hK K;apply zw (zk [1,3]);simp only[go_sem]
  apply zq
  refine zb fun K hK=>?_;simp only[go_sem]
  refine zh (within_ok (loS a.beds) (hiS a.beds) [d]) rfl (by simp only[go_sem,i64,ints]) (by simp only[go_sem,i64,ints]) ?_
  (try simp only[go_sem]);apply hK;clear hK K;apply ze;simp only[go_sem]
  simp [aimOk,h1,h4,withinL]
 ·rw[h3] at h2
  have h4:chOk d a.beds=false:=by simpa using h2.symm
  apply zc rfl<;>intro hc<;>(try simp only[go_sem] at hc)
  apply zq
  refine zb fun K hK=>?_;simp only[go_sem];apply hK;clear hK K;apply ze;simp only[go_sem]
  simp [aimOk,h4]
def enumA (d:Int) (l:List Am):List (List RV):=l.zipIdx.map fun x=>[i64 x.2,chV x.1 d]
theorem enumA_get {d:Int}{l:List Am}{i:Nat}{e:List RV}(h:(enumA d l)[i]? = some e):∃ x,l[i]? = some x∧e=[i64 i,chV x d]:=by
 simp only[enumA,List.getElem?_map,List.getElem?_zipIdx,Nat.zero_add] at h
 cases hx:l[i]? with
 | none=>rw[hx] at h;cases h
 | some x=>rw[hx] at h;simp only[Option.map_some,Option.some.injEq] at h;exact⟨x,rfl,h.symm⟩
theorem enumA_len {d:Int}{l:List Am}{e:List RV}(h:e∈enumA d l):e.length=2:=by
 obtain⟨i,hi⟩:=List.getElem?_of_mem h
 obtain⟨x,_,rfl⟩:=enumA_get hi
 rfl
theorem xcall_yield {n:Nat}{l:List (Nat × AV)}{vs:Nat→Nat}{cs:List (Nat × RowC)}{P:Program}{d:Option Nat}{ll:Nat}{z:Bool}{e:List RV}{rest:List (List RV)}{xs:List AV}{K:AS→Prop}(hrow:lookc cs 999 = .gh P ll z (some (e::rest)))
 (hp:AV.pureL xs=true) (he:snapVL (st n l vs cs).rows xs=e) (hfl:RV.flatL e=true∨z=false) (hK1:K ((st n l vs (insc cs 999 (.gh P ll z (some rest)))).put d (.r (.bo true)))) (hK2:K ((st n l vs (insc cs 999 (.gh P ll z none))).put d (.r (.bo false)))) :
 xcall P false (st n l vs cs) d (.r (.yl ll)) xs K:=by
 have hr:∀ c,(st n l vs cs).row 999 ⟨((st n l vs cs).rows 999).ver,c⟩=st n l vs (insc cs 999 c):=fun c=>by
  rw[row_st]
  congr 1
  exact upd_self vs 999
 exact .inr (.inl ⟨rfl,.inr (.inr (.inl ⟨ll,z,e,rest,rfl,hrow,hp,he▸leL_refl _,hfl,by rw[hr];exact hK1,by rw[hr];exact hK2⟩))⟩)
theorem all1_ok (d:Int) (l:List Am):ICalls Tryz.prog false 96 [.rp [i64 d,aimsR l]] (enumA d l):=by
 refine icalls_st Tryz.func96 rfl (by kernel_rfl) Tryz.ntmps96 rfl (by simp) fun C ll=>?_
 apply zq
 refine zb fun K hK=>?_;simp only[go_sem,argL]
 intro hl7
 apply hK;clear hK K;apply zw (zk [0,1,6,7,8]);simp only[go_sem];apply zd
 refine zup (n:=22) l.length (fun i vs=>[(0,.r (.yl ll)),(1,.r (.rp [i64 d,aimsR l])),(6,.r (aimsR l)),(7,.r (i64 l.length)),(8,.r (i64 i))])
  (fun i=>[(999,.gh Tryz.prog ll false (some ((enumA d l).drop i)))]) (fun _=>True) 0 (zfo [] ?_ ?_) (Nat.zero_le _) trivial ?_
 ·try simp only[go_sem]
 ·try simp only[go_sem]
 ·intro i vs hi _
  apply zq
  refine zb fun K hK=>?_;simp only[go_sem];apply hK;clear hK K
  apply zq
  apply zc rfl<;>intro hc<;>(try simp only[go_sem] at hc)
  ·obtain⟨x,hx⟩:=zol hc
   have hci:=hc
   have he:(enumA d l).drop i=[i64 i,chV x d]::(enumA d l).drop (i+1):=by
    refine drop_of_opt ?_
    simp [enumA,hx]
   apply zx
   apply zq
   apply zd
   apply zq
   refine zb fun K hK=>?_;simp only[go_sem,hx,hc,aimR];apply hK;clear hK K;apply zw (zk [0,1,3,4,6,7,8]);simp only[go_sem]
   apply zq
   refine zb fun K hK=>?_;simp only[go_sem]
   refine xcall_yield (e:=[i64 i,chV x d]) (rest:=(enumA d l).drop (i+1)) (by simp only[go_sem,he]) rfl (by simp only[go_sem]) (.inr rfl) ?_ ?_
   ·simp only[go_sem];apply hK;clear hK K;apply zw (zk [0,1,6,7,8,20]);simp only[go_sem]
    apply zc rfl<;>intro hc<;>(try simp only[go_sem] at hc)
    apply zx
    try simp only[go_sem]
    refine zb fun K hK=>?_;simp only[go_sem];(try simp (disch:=omega) only[zI]);apply hK;clear hK K
    try simp only[go_sem]
    exact⟨hci,zfo [4] (by try simp only[go_sem]) (by try simp only[go_sem])⟩
   ·simp only[go_sem];apply hK;clear hK K;apply zw (zk [20]);simp only[go_sem]
    apply zc rfl<;>intro hc<;>(try simp only[go_sem] at hc)
    apply ze;simp only[go_sem];exact⟨_,_,.inr rfl⟩
  ·apply zf;simp only[go_sem]
   have h0:(enumA d l).drop i=[]:=List.drop_eq_nil_of_le (by simp [enumA];omega)
   exact⟨ll,false,.inl (by simp only[go_sem,h0])⟩
theorem all_ok (d:Int) (l:List Am):ACalls Tryz.prog 64 [lawV d l] (.fn 96 [.rp [i64 d,aimsR l]]):=by
 refine zas (rs:=[.fn 96 [.rp [i64 d,aimsR l]]]) [.tmp 2] Tryz.func64 rfl (by kernel_rfl) Tryz.ntmps64 rfl (by simp) rfl fun C vs=>?_
 apply zq
 refine zb fun K hK=>?_;simp only[go_sem];apply hK;clear hK K
 apply zq
 refine zb fun K hK=>?_;simp only[go_sem];apply hK;clear hK K;apply ze;simp only[go_sem]
 simp [RV.le,leL_refl.le_refl,leL_refl]
theorem check1_ok (a:Am):ACalls Tryz.prog 93 [aimV a] (.bo (decide (10<a.beds.length))):=by
 refine zas (rs:=[.bo (decide (10<a.beds.length))]) [.tmp 2] Tryz.func93 rfl (by kernel_rfl) Tryz.ntmps93 rfl (by simp) rfl fun C vs=>?_
 apply zq
 refine zb fun K hK=>?_;simp only[go_sem];apply hK;clear hK K
 apply zq
 refine zb fun K hK=>?_;simp only[go_sem]
 intro _
 apply hK;clear hK K;apply ze;simp only[go_sem]
 simp
 omega
def checkV (d:Int) (l:List Am):Int :=
 if (decide (20<l.length) || l.any fun a=>decide (10<a.beds.length))=true then 5
 else if (l.isEmpty || !(decide (1≤d)&&decide (d≤3000)))=true then 2
 else if l.all (aimOk d)=true then 0 else 2
def WfL (d:Int) (l:List Am):Prop:=I64 d∧∀ a∈l,WfA a
theorem check_ok (d:Int) (l:List Am) (hw:WfL d l):ACalls Tryz.prog 63 [lawV d l] (i64 (checkV d l)):=by
 refine acalls_stR (rs:=[i64 (checkV d l)]) [.cell 2 33] Tryz.func63 rfl (by kernel_rfl) Tryz.ntmps63 rfl (by simp) rfl fun C hC vs=>?_
 apply zq
 refine zb fun K hK=>?_;simp only[go_sem];apply hK;clear hK K;apply zw (zk [1,2]);simp only[go_sem]
 repeat apply zq
 refine zb fun K hK=>?_;simp only[go_sem]
 intro hl8
 refine⟨fun h1=>?_,fun h1=>?_⟩
 rotate_left
 ·skip
  apply hK;clear hK K
  apply zc rfl<;>intro hc<;>(try simp only[go_sem] at hc)
  apply zq
  refine zb fun K hK=>?_;simp only[go_sem];apply hK;clear hK K;apply ze;simp only[go_sem]
  have h1':20<l.length:=by omega
  simp [checkV,h1']
 have h1':¬ 20<l.length:=by omega
 refine zh (containsA_ok (fun a=>decide (10<a.beds.length)) 93 [] l fun x _=>check1_ok x) rfl (by simp only[go_sem,i64,ints]) (by simp only[go_sem,i64,ints]) ?_
 (try simp only[go_sem]);apply hK;clear hK K;apply zw (zk [1,2,13]);simp only[go_sem]
 cases h2:l.any fun a=>decide (10<a.beds.length)
 case true =>
  apply zc rfl<;>intro hc<;>(try simp only[go_sem] at hc)
  apply zq
  refine zb fun K hK=>?_;simp only[go_sem];apply hK;clear hK K;apply ze;simp only[go_sem]
  simp [checkV,h2]
 have hlen:∀ a∈l,a.beds.length≤10:=fun a ha=>by
  have:=List.any_eq_false.1 h2 a ha
  simpa using this
 apply zc rfl<;>intro hc<;>(try simp only[go_sem] at hc)
 apply zx
 try simp only[go_sem]
 repeat apply zq
 refine zb fun K hK=>?_;simp only[go_sem]
 intro _
 have h12:(decide (20<l.length) || l.any fun a=>decide (10<a.beds.length))=false:=by simp only[h2,Bool.or_false];simpa using h1'
 have hV:checkV d l=if (l.isEmpty || !(decide (1≤d)&&decide (d≤3000)))=true then 2 else if l.all (aimOk d)=true then 0 else 2:=by
  unfold checkV
  rw[h12]
  rfl
 refine⟨fun h3=>?_,fun h3=>?_⟩
 rotate_left
 ·have h4:l=[]:=List.length_eq_zero_iff.1 (by omega)
  apply hK;clear hK K
  apply zc rfl<;>intro hc<;>(try simp only[go_sem] at hc)
  apply zq
  refine zb fun K hK=>?_;simp only[go_sem];apply hK;clear hK K;apply ze;simp only[go_sem];rw[hV,h4]
  rfl
 have h4:l.isEmpty=false:=by
  cases l with
  | nil=>simp at h3
  | cons=>rfl
 rw[h4,Bool.false_or] at hV
 refine zh (within_ok 1 3000 [d]) rfl (by simp only[go_sem,i64,ints]) (by simp only[go_sem,i64,ints]) ?_
 (try simp only[go_sem]);apply hK;clear hK K;apply zw (zk [1,2,24]);simp only[go_sem]
 have hwd:withinL 1 3000 [d]=(decide (1≤d)&&decide (d≤3000)):=by simp [withinL]
 rw[hwd]
 cases h5:(decide (1≤d)&&decide (d≤3000))
 ·skip
  apply zc rfl<;>intro hc<;>(try simp only[go_sem] at hc)
  apply zq
  refine zb fun K hK=>?_;simp only[go_sem];apply hK;clear hK K;apply ze;simp only[go_sem];rw[hV,h5]
  rfl
 rw[h5] at hV
 have hd:d≤6000:=by simp at h5;omega
 apply zc rfl<;>intro hc<;>(try simp only[go_sem] at hc)
 apply zx
 try simp only[go_sem]
 repeat apply zq
 refine zb fun K hK=>?_;simp only[go_sem]
 refine zh (all_ok d l) rfl (by simp only[go_sem,i64,ints]) (by simp only[go_sem,i64,ints]) ?_
 (try simp only[go_sem]);apply hK;clear hK K;apply zw (zk [2,26]);simp only[go_sem];apply zd
 refine awp_rangeF hC (enumA d l) (all1_ok d l) [2,26] (by decide) (fun vs=>[(2,.pt 2 (vs 2) 0),(26,.r (.fn 96 [.rp [i64 d,aimsR l]]))]) (fun i vs=>[(2,.box [.r (i64 0)])])
  (fun i=>(l.take i).all (aimOk d)=true) (zj [1] ?_ ?_) (by simp) (fun _=>rfl) (fun _=>rfl) (fun _ _=>rfl) (by simp) (fun e he=>enumA_len he) ?_ ?_
 ·try simp only[go_sem]
 ·try simp only[go_sem]
 ·intro i e vs us C he hI
  obtain⟨x,hx,rfl⟩:=enumA_get he
  refine zb fun K hK=>?_;simp only[go_sem];apply hK;clear hK K
  refine⟨rfl,fun C'=>?_⟩
  apply zw (zk [2,4,26]);simp only[go_sem];apply zd
  apply zq
  refine zb fun K hK=>?_;simp only[go_sem]
  refine zh (isValid_ok x d (hw.2 x (zmo hx)) hd (by have:=hlen x (zmo hx);omega)) rfl (by simp only[go_sem,i64,ints]) (by simp only[go_sem,i64,ints]) ?_
  (try simp only[go_sem]);apply hK;clear hK K;apply zw (zk [2,26,31]);simp only[go_sem]
  cases h6:aimOk d x
  ·skip
   apply zc rfl<;>intro hc<;>(try simp only[go_sem] at hc)
   apply zq
   refine zb fun K hK=>?_;simp only[go_sem];apply hK;clear hK K;apply ze;simp only[go_sem]
   refine rf_ret (by simp only[go_sem];rfl) ?_
   try simp only[go_sem]
   rw[hV]
   have:l.all (aimOk d)=false:=List.all_eq_false.2 ⟨x,zmo hx,by simp [h6]⟩
   rw[this]
   rfl
  ·skip
   apply zc rfl<;>intro hc<;>(try simp only[go_sem] at hc)
   apply zx
   try simp only[go_sem]
   refine⟨?_,zj (F:=fun _=>[]) [4] (by try simp only[go_sem]) (by try simp only[go_sem])⟩
   rw[zto hx];simp [hI,h6]
 ·intro vs us hI
  try simp only[go_sem]
  refine zw (sub_wake rfl) ?_
  apply zq
  refine zb fun K hK=>?_;simp only[go_sem];apply hK;clear hK K;apply ze;simp only[go_sem];rw[hV]
  have:(enumA d l).length=l.length:=by simp [enumA]
  rw[this,List.take_length] at hI
  rw[hI]
  rfl
abbrev tabR (T:List (List Int)):RV:=.sl 1 (T.map fun row=>[ints row])
def opensD (out b:Int):Bool:=if out=1 then decide (b / 100=2) else if out=2 then decide (2≤b / 100) else true
set_option maxRecDepth 8000
set_option maxHeartbeats 4000000
theorem owithin1_ok (n a b:Int):ACalls Tryz.prog 142 [i64 n,.rp [i64 a],.rp [i64 b]] (.bo (decide (n<a) || decide (b<n))):=by
 refine zas (rs:=[.bo (decide (n<a) || decide (b<n))]) [.tmp 4] Tryz.func142 rfl (by kernel_rfl) Tryz.ntmps142 rfl (by simp) rfl fun C vs=>?_
 apply zq
 refine zb fun K hK=>?_;simp only[go_sem];apply hK
 apply zq
 refine zb fun K hK=>?_;simp only[go_sem]
 refine⟨fun h=>?_,fun h=>?_⟩ <;>
 ·skip
  apply hK;apply ze;simp only[go_sem]
  try simp [h]
theorem owithin_ok (a b:Int) (l:List Int):ACalls Tryz.prog 101 [i64 a,i64 b,ints l] (.bo (withinL a b l)):=by
 refine zas (rs:=[.bo (withinL a b l)]) [.tmp 6] Tryz.func101 rfl (by kernel_rfl) Tryz.ntmps101 rfl (by simp) rfl fun C vs=>?_
 apply zq
 refine zb fun K hK=>?_;simp only[go_sem];apply hK
 apply zq
 refine zb fun K hK=>?_;simp only[go_sem]
 refine zh (contains_ok (fun n=>decide (n<a) || decide (b<n)) 142 [.rp [i64 a],.rp [i64 b]] l fun x _=>owithin1_ok x a b) rfl (by simp only[go_sem,i64,ints]) (by simp only[go_sem,i64,ints]) ?_
 (try simp only[go_sem]);apply hK;apply ze;simp only[go_sem];rw[← withinL_not]
theorem factor_ok (b:Int) (hb:0≤b∧b≤499):ACalls Tryz.prog 170 [.ag [i64 b]] (i64 (b / 100)):=by
 have e1:Int.tdiv b 100=b / 100:=Int.tdiv_eq_ediv_of_nonneg hb.1
 have w1:IntKind.i64.wrap (b / 100)=b / 100:=by rw[zI]<;>omega
 refine zas (rs:=[i64 (b / 100)]) [.tmp 2] Tryz.func170 rfl (by kernel_rfl) Tryz.ntmps170 rfl (by simp) rfl fun C vs=>?_
 apply zq
 refine zb fun K hK=>?_;simp only[go_sem];apply hK;apply zw (zk [1]);simp only[go_sem]
 apply zq
 refine zb fun K hK=>?_;simp only[go_sem,e1,w1];apply hK;apply zw (zk [2]);simp only[go_sem];apply ze;simp only[go_sem]
theorem number_ok (b:Int) (hb:0≤b∧b≤499):ACalls Tryz.prog 171 [.ag [i64 b]] (i64 (b % 100)):=by
 have e1:Int.tmod b 100=b % 100:=Int.tmod_eq_emod_of_nonneg hb.1
 have w1:IntKind.i64.wrap (b % 100)=b % 100:=by rw[zI]<;>omega
 refine zas (rs:=[i64 (b % 100)]) [.tmp 2] Tryz.func171 rfl (by kernel_rfl) Tryz.ntmps171 rfl (by simp) rfl fun C vs=>?_
 apply zq
 refine zb fun K hK=>?_;simp only[go_sem];apply hK;apply zw (zk [1]);simp only[go_sem]
 apply zq
 refine zb fun K hK=>?_;simp only[go_sem,e1,w1];apply hK;apply zw (zk [2]);simp only[go_sem];apply ze;simp only[go_sem]
theorem bworth_ok (b:Int) (hb:0≤b∧b≤499):ACalls Tryz.prog 143 [.ag [i64 b]] (i64 (scoreOf b)):=by
 have hf:=factor_ok b hb
 have hn:=number_ok b hb
 have h1:0≤b / 100∧b / 100≤4:=by omega
 have h2:0≤b % 100∧b % 100≤99:=by omega
 have h3:=Int.mul_nonneg h1.1 h2.1
 have h4:=Int.mul_le_mul h1.2 h2.2 h2.1 (show (0:Int)≤4 by omega)
 have w3:IntKind.i64.wrap (b / 100*(b % 100))=b / 100*(b % 100):=by rw[zI]<;>omega
 have hs:scoreOf b=b / 100*(b % 100):=rfl
 rw[hs]
 refine zas (rs:=[i64 (b / 100*(b % 100))]) [.tmp 2] Tryz.func143 rfl (by kernel_rfl) Tryz.ntmps143 rfl (by simp) rfl fun C vs=>?_
 apply zq
 refine zb fun K hK=>?_;simp only[go_sem];apply hK;refine zw (zfP 1 1 [i64 b] (by omega) rfl rfl) ?_;apply zw (zk [1]);simp only[go_sem]
 apply zq
 refine zg follows (by decide +kernel) (by kernel_rfl) fun K hK=>?_;simp only[go_sem,w3]
 refine zh (hf) rfl (by simp only[go_sem,i64,ints]) (by simp only[go_sem,i64,ints]) ?_
 (try simp only[go_sem])
 refine zh (hn) rfl (by simp only[go_sem,i64,ints,w3]) (by simp only[go_sem,i64,ints,w3]) ?_
 (try simp only[go_sem,w3]);apply hK;apply zw (zk [2]);simp only[go_sem];apply ze;simp only[go_sem]
theorem bopens_ok (b g:Int) (hb:0≤b∧b≤499):ACalls Tryz.prog 144 [.ag [i64 b],i64 g] (.bo (opensD g b)):=by
 have hf:=factor_ok b hb
 refine zas (rs:=[.bo (opensD g b)]) [.tmp 4] Tryz.func144 rfl (by kernel_rfl) Tryz.ntmps144 rfl (by simp) rfl fun C vs=>?_
 apply zq
 refine zb fun K hK=>?_;simp only[go_sem];apply hK;refine zw (zfP 2 2 [i64 b] (by omega) rfl rfl) ?_;apply zw (zk [1,2]);simp only[go_sem]
 repeat apply zq
 refine zb fun K hK=>?_;simp only[go_sem];apply hK;apply zw (zk [2,5]);simp only[go_sem];apply zd
 apply zq
 refine zb fun K hK=>?_;simp only[go_sem];apply hK;apply zw (zk [2,5,6]);simp only[go_sem]
 by_cases h1:g=1
 ·subst h1
  apply zc rfl<;>intro hc<;>(try simp only[go_sem] at hc)
  apply zq
  refine zb fun K hK=>?_;simp only[go_sem]
  refine zh (hf) rfl (by simp only[go_sem,i64,ints]) (by simp only[go_sem,i64,ints]) ?_
  (try simp only[go_sem]);apply hK;apply zw (zk [4]);simp only[go_sem];apply ze;simp only[go_sem];rw[Bool.eq_iff_iff]
  simp [opensD]
 ·have e1:(g == 1)=false:=by simpa using h1
  rw[e1]
  apply zc rfl<;>intro hc<;>(try simp only[go_sem] at hc)
  apply zq
  refine zb fun K hK=>?_;simp only[go_sem];apply hK;apply zw (zk [2,5,11]);simp only[go_sem]
  by_cases h2:g=2
  ·subst h2
   apply zc rfl<;>intro hc<;>(try simp only[go_sem] at hc)
   apply zq
   refine zb fun K hK=>?_;simp only[go_sem]
   refine zh (hf) rfl (by simp only[go_sem,i64,ints]) (by simp only[go_sem,i64,ints]) ?_
   (try simp only[go_sem]);apply hK;apply zw (zk [4]);simp only[go_sem];apply ze;simp only[go_sem]
   simp [opensD]
  ·have e2:(g == 2)=false:=by simpa using h2
   rw[e2]
   apply zc rfl<;>intro hc<;>(try simp only[go_sem] at hc)
   apply zx
   try simp only[go_sem]
   apply zq
   refine zb fun K hK=>?_;simp only[go_sem];apply hK;apply zw (zk [4]);simp only[go_sem];apply ze;simp only[go_sem]
   simp [opensD,h1,h2]
theorem obed_ok (b:Int) (hb:0≤b∧b≤499) (hv:bedOk b=true):ACalls Tryz.prog 169 [.ag [i64 b]] (.bo true):=by
 have hf:=factor_ok b hb
 have hn:=number_ok b hb
 have hv':=hv
 simp only[bedOk,Bool.or_eq_true,Bool.and_eq_true,decide_eq_true_eq] at hv'
 refine zas (rs:=[.bo true]) [.tmp 2] Tryz.func169 rfl (by kernel_rfl) Tryz.ntmps169 rfl (by simp) rfl fun C vs=>?_
 apply zq
 refine zb fun K hK=>?_;simp only[go_sem];apply hK;refine zw (zfP 1 1 [i64 b] (by omega) rfl rfl) ?_;apply zw (zk [1]);simp only[go_sem]
 cases h1:(b == 125)
 ·cases h2:(b == 225)
  ·have n1:b≠125:=by simpa using h1
   have n2:b≠225:=by simpa using h2
   have w1:withinL 1 4 [b / 100]=true:=by simp [withinL];omega
   have w2:withinL 1 20 [b % 100]=true:=by simp [withinL];omega
   have c1:=owithin_ok 1 4 [b / 100]
   have c2:=owithin_ok 1 20 [b % 100]
   rw[w1] at c1
   rw[w2] at c2
   apply zq
   refine zb fun K hK=>?_;simp only[go_sem,h1,h2]
   refine zh (hf) rfl (by simp only[go_sem,i64,ints]) (by simp only[go_sem,i64,ints]) ?_
   (try simp only[go_sem])
   refine zh (c1) rfl (by simp only[go_sem,i64,ints]) (by simp only[go_sem,i64,ints]) ?_
   (try simp only[go_sem])
   refine zh (hn) rfl (by simp only[go_sem,i64,ints]) (by simp only[go_sem,i64,ints]) ?_
   (try simp only[go_sem])
   refine zh (c2) rfl (by simp only[go_sem,i64,ints]) (by simp only[go_sem,i64,ints]) ?_
   (try simp only[go_sem]);apply hK;apply zw (zk [2]);simp only[go_sem];apply ze;simp only[go_sem]
  ·apply zq
   refine zb fun K hK=>?_;simp only[go_sem,h1,h2];apply hK;apply zw (zk [2]);simp only[go_sem];apply ze;simp only[go_sem]
 ·apply zq
  refine zb fun K hK=>?_;simp only[go_sem,h1];apply hK;apply zw (zk [2]);simp only[go_sem];apply ze;simp only[go_sem]
structure BdsO (bs:List Int):Prop where
 asc:bs.Pairwise (· < ·)
 ne:1≤bs.length
 len:bs.length≤82
 bed:∀ b∈bs,bedOk b=true∧0≤b∧b≤499
theorem areBedsO_ok (bs:List Int) (h:BdsO bs):ACalls Tryz.prog 140 [ints bs] (.bo true):=by
 have hne:=h.ne
 have hlen:=h.len
 refine zas (rs:=[.bo true]) [.tmp 2] Tryz.func140 rfl (by kernel_rfl) Tryz.ntmps140 rfl (by simp) rfl fun C vs=>?_
 apply zq
 refine zb fun K hK=>?_;simp only[go_sem];apply hK;apply zw (zk [0]);simp only[go_sem]
 repeat apply zq
 refine zb fun K hK=>?_;simp only[go_sem,List.length_map]
 intro _
 apply hK;apply zw (zk [0,5,6,7]);simp only[go_sem];apply zd
 refine zup (n:=34) bs.length (fun i vs=>[(0,.r (ints bs)),(5,.r (ints bs)),(6,.r (i64 (bs.length:Int))),(7,.r (i64 (i:Int)))])
  (fun i=>[]) (fun _=>True) 0 (zfo [] ?_ ?_) (Nat.zero_le _) trivial ?_
 ·try simp only[go_sem]
 ·try simp only[go_sem]
 ·intro i vs hi _
  by_cases hin:i<bs.length
  ·obtain⟨b,hb⟩:=zol hin
   obtain⟨q1,q2⟩:=h.bed b (zmo hb)
   have hq:=obed_ok b q2 q1
   apply zq
   refine zb fun K hK=>?_;simp only[go_sem,hin];apply hK;apply zw (zk [0,5,6,7,8]);simp only[go_sem]
   apply zq
   apply zc rfl<;>intro hc<;>(try simp only[go_sem] at hc)
   apply zx
   try simp only[go_sem]
   apply zq
   apply zd
   apply zq
   refine zb fun K hK=>?_;simp only[go_sem,hb,hin,List.length_map];apply hK;apply zw (zk [0,3,4,5,6,7]);simp only[go_sem]
   apply zq
   by_cases h0:i=0
   ·subst h0
    refine zb fun K hK=>?_;simp only[go_sem]
    refine zh (hq) rfl (by simp only[go_sem,i64,ints]) (by simp only[go_sem,i64,ints]) ?_
    (try simp only[go_sem]);apply hK;apply zw (zk [0,5,6,7,28]);simp only[go_sem]
    apply zc rfl<;>intro hc<;>(try simp only[go_sem] at hc)
    apply zx
    try simp only[go_sem]
    refine zb fun K hK=>?_;simp only[go_sem];(try simp (disch:=omega) only[zI]);apply hK
    try simp only[go_sem]
    refine⟨by omega,zfo [] ?_ ?_⟩
    ·try simp only[go_sem]
    ·try simp only[go_sem]
   ·obtain⟨c,hc⟩:=zol (l:=bs) (i:=i-1) (by omega)
    have hlt:c<b:=by
     have:=List.pairwise_iff_getElem.1 h.asc (i-1) i (by omega) hin (by omega)
     rw[List.getElem?_eq_getElem (by omega)] at hc
     rw[List.getElem?_eq_getElem hin] at hb
     injection hc with hc
     injection hb with hb
     omega
    have g0:decide ((0:Int)<(i:Int))=true:=decide_eq_true (by omega)
    have g0':0<i:=by omega
    have g1:decide (b≤c)=false:=decide_eq_false (by omega)
    have g2:IntKind.i64.wrap ((i:Int)-1)=(i:Int)-1:=by rw[zI]<;>omega
    have g3:i-1<bs.length:=by omega
    have hcx:bs[((i:Int)-1).toNat]? = some c:=by rw[show ((i:Int)-1).toNat=i-1 by omega];exact hc
    refine zb fun K hK=>?_;simp only[go_sem,hcx,g1,g2]
    refine zh (hq) rfl (by simp only[go_sem,i64,ints,g0,g0',g2,hcx,g1]) (by simp only[go_sem,i64,ints,g0,g0',g2,hcx,g1]) ?_
    (try simp only[go_sem,g0,g0',g2,hcx,g1])
    refine⟨by omega,?_⟩
    apply hK;apply zw (zk [0,5,6,7,28]);simp only[go_sem]
    apply zc rfl<;>intro hc<;>(try simp only[go_sem] at hc)
    apply zx
    try simp only[go_sem]
    refine zb fun K hK=>?_;simp only[go_sem];(try simp (disch:=omega) only[zI]);apply hK
    try simp only[go_sem]
    refine⟨by omega,zfo [] ?_ ?_⟩
    ·try simp only[go_sem]
    ·try simp only[go_sem]
  ·have hie:i=bs.length:=by omega
   subst hie
   have w1:withinL 1 82 [(bs.length:Int)]=true:=by simp [withinL];omega
   have c1:=owithin_ok 1 82 [(bs.length:Int)]
   rw[w1] at c1
   apply zq
   refine zb fun K hK=>?_;simp only[go_sem,Nat.lt_irrefl];apply hK;apply zw (zk [0,8]);simp only[go_sem]
   apply zq
   apply zc rfl<;>intro hc<;>(try simp only[go_sem] at hc)
   apply zf;simp only[go_sem]
   apply zq
   refine zb fun K hK=>?_;simp only[go_sem,List.length_map]
   intro _
   refine zh (c1) rfl (by simp only[go_sem,i64,ints]) (by simp only[go_sem,i64,ints]) ?_
   (try simp only[go_sem]);apply hK;apply zw (zk [2]);simp only[go_sem];apply ze;simp only[go_sem]
abbrev ouR (bs:List Int) (g k:Int):RV:=.ag [ints bs,i64 g,i64 k]
theorem gateO_ok (g:Int) (h:0≤g∧g≤2):ACalls Tryz.prog 141 [i64 g] (.bo true):=by
 have g1:decide ((0:Int)≤g)=true:=decide_eq_true h.1
 have g2:decide (g≤(2:Int))=true:=decide_eq_true h.2
 refine zas (rs:=[.bo true]) [.tmp 2] Tryz.func141 rfl (by kernel_rfl) Tryz.ntmps141 rfl (by simp) rfl fun C vs=>?_
 apply zq
 refine zb fun K hK=>?_;simp only[go_sem];apply hK;apply zw (zk [0]);simp only[go_sem]
 apply zq
 refine zb fun K hK=>?_;simp only[go_sem,g1,g2];apply hK;apply zw (zk [2]);simp only[go_sem];apply ze;simp only[go_sem]
theorem ocheck_ok (bs:List Int) (g k:Int) (h:BdsO bs) (hg:0≤g∧g≤2) (hk:1≤k∧k≤9):ACalls Tryz.prog 100 [ouR bs g k] (i64 0):=by
 have h1:=areBedsO_ok bs h
 have h2:=gateO_ok g hg
 have w1:withinL 1 9 [k]=true:=by simp [withinL];omega
 have c1:=owithin_ok 1 9 [k]
 rw[w1] at c1
 refine zas (rs:=[i64 0]) [.tmp 2] Tryz.func100 rfl (by kernel_rfl) Tryz.ntmps100 rfl (by simp) rfl fun C vs=>?_
 apply zq
 refine zb fun K hK=>?_;simp only[go_sem];apply hK;refine zw (zfP 1 1 [ints bs,i64 g,i64 k] (by omega) rfl rfl) ?_;apply zw (zk [1]);simp only[go_sem]
 repeat apply zq
 refine zb fun K hK=>?_;simp only[go_sem]
 refine zh (h1) rfl (by simp only[go_sem,i64,ints]) (by simp only[go_sem,i64,ints]) ?_
 (try simp only[go_sem])
 refine zh (h2) rfl (by simp only[go_sem,i64,ints]) (by simp only[go_sem,i64,ints]) ?_
 (try simp only[go_sem])
 refine zh (c1) rfl (by simp only[go_sem,i64,ints]) (by simp only[go_sem,i64,ints]) ?_
 (try simp only[go_sem]);apply hK;apply zw (zk [19]);simp only[go_sem]
 apply zc rfl<;>intro hc<;>(try simp only[go_sem] at hc)
 apply zx
 try simp only[go_sem]
 apply zq
 refine zb fun K hK=>?_;simp only[go_sem];apply hK;apply zw (zk [2]);simp only[go_sem];apply ze;simp only[go_sem]
theorem checkMost_ok (bs:List Int) (g k m:Int) (h:BdsO bs) (hg:0≤g∧g≤2) (hk:1≤k∧k≤9) (hm:0≤m∧m≤1001):ACalls Tryz.prog 67 [ouR bs g k,i64 m] (i64 0):=by
 have h1:=ocheck_ok bs g k h hg hk
 have w1:withinL 0 1001 [m]=true:=by simp [withinL];omega
 have c1:=owithin_ok 0 1001 [m]
 rw[w1] at c1
 refine zas (rs:=[i64 0]) [.tmp 4] Tryz.func67 rfl (by kernel_rfl) Tryz.ntmps67 rfl (by simp) rfl fun C vs=>?_
 apply zq
 refine zb fun K hK=>?_;simp only[go_sem];apply hK;refine zw (zfP 2 2 [ints bs,i64 g,i64 k] (by omega) rfl rfl) ?_;apply zw (zk [1,2]);simp only[go_sem]
 apply zq
 apply zd
 apply zq
 refine zb fun K hK=>?_;simp only[go_sem]
 have z0:((0:Int) != 0)=false:=rfl
 refine zh (h1) rfl (by simp only[go_sem,i64,ints,z0]) (by simp only[go_sem,i64,ints,z0]) ?_
 (try simp only[go_sem,z0]);apply hK;apply zw (zk [1,2,5]);simp only[go_sem]
 apply zc rfl<;>intro hc<;>(try simp only[go_sem] at hc)
 apply zq
 refine zb fun K hK=>?_;simp only[go_sem]
 refine zh (c1) rfl (by simp only[go_sem,i64,ints]) (by simp only[go_sem,i64,ints]) ?_
 (try simp only[go_sem]);apply hK;apply zw (zk [9]);simp only[go_sem]
 apply zc rfl<;>intro hc<;>(try simp only[go_sem] at hc)
 apply zx
 try simp only[go_sem]
 apply zq
 refine zb fun K hK=>?_;simp only[go_sem];apply hK;apply zw (zk [4]);simp only[go_sem];apply ze;simp only[go_sem]
abbrev brdC (bs:List Int) (g:Int) (cs:List (List Int)):List RV:=[ints bs,i64 g,tabR cs]
abbrev brdP (bs:List Int) (g:Int) (cs:List (List Int)):RV:=.rp (brdC bs g cs)
def afterO (g s b:Int):Int × Bool:=if s-scoreOf b=0 then (0,opensD g b) else if s-scoreOf b=1 then (1,g == 0) else (s-scoreOf b,decide (1<s-scoreOf b))
theorem oafter_ok (bs:List Int) (g:Int) (cs:List (List Int)) (s b:Int) (hs:0≤s∧s≤2000) (hb:0≤b∧b≤499) :
 ACalls Tryz.prog 105 [brdP bs g cs,i64 s,.ag [i64 b]] (.tu [i64 (afterO g s b).1,.bo (afterO g s b).2]):=by
 have hw:=bworth_ok b hb
 have ho:=bopens_ok b g hb
 have hsc:=score_le hb.1 hb.2
 have w1:IntKind.i64.wrap (s-scoreOf b)=s-scoreOf b:=by rw[zI]<;>omega
 refine zas (rs:=[i64 (afterO g s b).1,.bo (afterO g s b).2]) [.tmp 6,.tmp 7] Tryz.func105 rfl (by kernel_rfl) Tryz.ntmps105 rfl (by simp) rfl fun C vs=>?_
 apply zq
 refine zb fun K hK=>?_;simp only[go_sem];apply hK;refine zw (zfP 5 5 [i64 b] (by omega) rfl rfl) ?_;apply zw (zk [0,1,5]);simp only[go_sem]
 apply zq
 refine zb fun K hK=>?_;simp only[go_sem]
 refine zh (hw) rfl (by simp only[go_sem,i64,ints,w1]) (by simp only[go_sem,i64,ints,w1]) ?_
 (try simp only[go_sem,w1]);apply hK;apply zw (zk [0,5,6]);simp only[go_sem]
 unfold afterO
 generalize s-scoreOf b=left at *
 apply zq
 apply zd
 apply zq
 refine zb fun K hK=>?_;simp only[go_sem];apply hK;apply zw (zk [0,5,6,12]);simp only[go_sem]
 by_cases h0:left=0
 ·subst h0
  apply zc rfl<;>intro hc<;>(try simp only[go_sem] at hc)
  apply zq
  refine zg follows (by decide +kernel) (by kernel_rfl) fun K hK=>?_;simp only[go_sem]
  refine zh (ho) rfl (by simp only[go_sem,i64,ints]) (by simp only[go_sem,i64,ints]) ?_
  (try simp only[go_sem]);apply hK;apply zw (zk [6,7]);simp only[go_sem];apply ze;simp only[go_sem]
  try simp
 ·have e0:(left == 0)=false:=by simpa using h0
  rw[e0]
  apply zc rfl<;>intro hc<;>(try simp only[go_sem] at hc)
  apply zq
  refine zb fun K hK=>?_;simp only[go_sem];apply hK;apply zw (zk [0,5,6,21]);simp only[go_sem]
  by_cases h1:left=1
  ·subst h1
   apply zc rfl<;>intro hc<;>(try simp only[go_sem] at hc)
   apply zq
   refine zg follows (by decide +kernel) (by kernel_rfl) fun K hK=>?_;simp only[go_sem];apply hK;apply zw (zk [6,7]);simp only[go_sem];apply ze;simp only[go_sem]
   try simp
  ·have e1:(left == 1)=false:=by simpa using h1
   rw[e1]
   apply zc rfl<;>intro hc<;>(try simp only[go_sem] at hc)
   apply zx
   try simp only[go_sem]
   apply zq
   refine zb fun K hK=>?_;simp only[go_sem];apply hK;apply zw (zk [6,7]);simp only[go_sem];apply ze;simp only[go_sem]
   try simp [h0,h1]
def throwsO (g s:Int) (bs:List Int):List (Int × Int):=bs.filterMap fun b=>if ((afterO g s b).2&&decide (0<s))=true then some (b,(afterO g s b).1) else none
abbrev thrR (x:Int × Int):List RV:=[.ag [i64 x.1],i64 x.2]
theorem throws1_ok (bs:List Int) (g:Int) (cs:List (List Int)) (s:Int) (hs:0≤s∧s≤2000) (hb:∀ b∈bs,0≤b∧b≤499) :
 ICalls Tryz.prog true 104 [.rp [brdP bs g cs],.rp [i64 s]] ((throwsO g s bs).map thrR):=by
 refine icalls_st Tryz.func104 rfl (by kernel_rfl) Tryz.ntmps104 rfl (by simp) fun C ll=>?_
 apply zq
 refine zb fun K hK=>?_;simp only[go_sem,argL]
 intro hl7
 apply hK;apply zw (zk [0,1,2,11,12,13]);simp only[go_sem];apply zd
 refine zup (n:=37) bs.length (fun i vs=>[(0,.r (.yl ll)),(1,.r (.rp [brdP bs g cs])),(2,.r (.rp [i64 s])),(11,.r (ints bs)),(12,.r (i64 bs.length)),(13,.r (i64 i))])
  (fun i=>[(999,.gh Tryz.prog ll true (some ((throwsO g s (bs.drop i)).map thrR)))]) (fun _=>True) 0 (zfo [] ?_ ?_) (Nat.zero_le _) trivial ?_
 ·try simp only[go_sem]
 ·try simp only[go_sem]
 ·intro i vs hi _
  by_cases hin:i<bs.length
  ·obtain⟨b,hbi⟩:=zol hin
   have hbq:=hb b (zmo hbi)
   have hdr:bs.drop i=b::bs.drop (i+1):=drop_of_opt hbi
   have haf:=oafter_ok bs g cs s b hs hbq
   have hcons:throwsO g s (bs.drop i)=if ((afterO g s b).2&&decide (0<s))=true then (b,(afterO g s b).1)::throwsO g s (bs.drop (i+1)) else throwsO g s (bs.drop (i+1)):=by
    rw[hdr]
    unfold throwsO
    rw[List.filterMap_cons]
    by_cases hq:((afterO g s b).2&&decide (0<s))=true
    ·rw[if_pos hq,if_pos hq]
    ·rw[if_neg hq,if_neg hq]
   rw[hcons]
   generalize afterO g s b=x at *
   apply zq
   refine zb fun K hK=>?_;simp only[go_sem,hin];apply hK
   apply zq
   apply zc rfl<;>intro hc<;>(try simp only[go_sem] at hc)
   apply zx
   apply zq
   apply zd
   apply zq
   refine zb fun K hK=>?_;simp only[go_sem,hbi,hin,List.length_map];apply hK;apply zw (zk [0,1,2,5,11,12,13]);simp only[go_sem]
   apply zq
   refine zb fun K hK=>?_;simp only[go_sem]
   refine zh (haf) rfl (by simp only[go_sem,i64,ints]) (by simp only[go_sem,i64,ints]) ?_
   (try simp only[go_sem]);apply hK;apply zw (zk [0,1,2,5,6,7,11,12,13]);simp only[go_sem]
   obtain⟨lf,ok⟩:=x
   cases ok with
   | false =>
     have hgo:(((lf,false):Int × Bool).2&&decide (0<s))=true↔False:=by simp
     simp only[hgo,if_false]
     apply zq
     refine zb fun K hK=>?_;simp only[go_sem];apply hK;apply zw (zk [0,1,2,11,12,13,35]);simp only[go_sem]
     apply zc rfl<;>intro hc<;>(try simp only[go_sem] at hc)
     apply zx
     try simp only[go_sem]
     refine zb fun K hK=>?_;simp only[go_sem];(try simp (disch:=omega) only[zI]);apply hK
     try simp only[go_sem]
     refine⟨by omega,zfo [5] ?_ ?_⟩
     ·try simp only[go_sem]
     ·try simp only[go_sem]
   | true =>
     by_cases hs0:0<s
     ·have hgo:(((lf,true):Int × Bool).2&&decide (0<s))=true:=by simp [hs0]
      simp only[hgo,if_true,List.map_cons]
      have hd0:decide (0<s)=true:=decide_eq_true hs0
      apply zq
      refine zb fun K hK=>?_;simp only[go_sem,hd0,hs0]
      refine xcall_yield (z:=true) (e:=thrR (b,lf)) (rest:=(throwsO g s (bs.drop (i+1))).map thrR) (by simp only[go_sem]) rfl (by simp only[go_sem]) (.inl rfl) ?_ ?_
      ·simp only[go_sem];apply hK;apply zw (zk [0,1,2,11,12,13,35]);simp only[go_sem]
       apply zc rfl<;>intro hc<;>(try simp only[go_sem] at hc)
       apply zx
       try simp only[go_sem]
       refine zb fun K hK=>?_;simp only[go_sem];(try simp (disch:=omega) only[zI]);apply hK
       try simp only[go_sem]
       refine⟨by omega,zfo [5] ?_ ?_⟩
       ·try simp only[go_sem]
       ·try simp only[go_sem]
      ·simp only[go_sem];apply hK;apply zw (zk [35]);simp only[go_sem]
       apply zc rfl<;>intro hc<;>(try simp only[go_sem] at hc)
       apply ze;simp only[go_sem];exact⟨_,_,.inr rfl⟩
     ·have hgo:(((lf,true):Int × Bool).2&&decide (0<s))=true↔False:=by simp [hs0]
      simp only[hgo,if_false]
      have hd0:decide (0<s)=false:=decide_eq_false hs0
      apply zq
      refine zb fun K hK=>?_;simp only[go_sem,hd0,hs0];apply hK;apply zw (zk [0,1,2,11,12,13,35]);simp only[go_sem]
      apply zc rfl<;>intro hc<;>(try simp only[go_sem] at hc)
      apply zx
      try simp only[go_sem]
      refine zb fun K hK=>?_;simp only[go_sem];(try simp (disch:=omega) only[zI]);apply hK
      try simp only[go_sem]
      refine⟨by omega,zfo [5] ?_ ?_⟩
      ·try simp only[go_sem]
      ·try simp only[go_sem]
  ·have hie:i=bs.length:=by omega
   subst hie
   apply zq
   refine zb fun K hK=>?_;simp only[go_sem,Nat.lt_irrefl];apply hK
   apply zq
   apply zc rfl<;>intro hc<;>(try simp only[go_sem] at hc)
   apply zf;simp only[go_sem]
   have h0:(throwsO g s (bs.drop bs.length)).map thrR=[]:=by simp [throwsO]
   exact⟨ll,true,.inl (by simp only[go_sem,h0])⟩
theorem throws_ok (bs:List Int) (g:Int) (cs:List (List Int)) (s:Int):ACalls Tryz.prog 69 [brdP bs g cs,i64 s] (.fn 104 [.rp [brdP bs g cs],.rp [i64 s]]):=by
 refine zas (rs:=[.fn 104 [.rp [brdP bs g cs],.rp [i64 s]]]) [.tmp 4] Tryz.func69 rfl (by kernel_rfl) Tryz.ntmps69 rfl (by simp) rfl fun C vs=>?_
 apply zq
 refine zb fun K hK=>?_;simp only[go_sem];apply hK
 apply zq
 refine zb fun K hK=>?_;simp only[go_sem];apply hK;apply ze;simp only[go_sem]
 simp [RV.le,leL_refl.le_refl,leL_refl]
mutual
theorem rv_le:∀ x:RV,RV.le x x
 | .sl _ _=>by simp only[RV.le];exact .inl trivial
 | .ag xs=>by simp only[RV.le];exact rv_leL xs
 | .fn _ xs=>by simp only[RV.le];exact⟨trivial,rv_leL xs⟩
 | .rp xs=>by simp only[RV.le];exact rv_leL xs
 | .un | .bo _ | .it _ _ | .ns | .np | .nf | .tu _ | .st _ | .ud | .yl _ | .sx _ _ | .vl _ | .bf _ _=>by simp only[RV.le]
theorem rv_leL:∀ xs:List RV,RV.leL xs xs
 | []=>by simp only[RV.leL]
 | x::xs=>by simp only[RV.leL];exact⟨rv_le x,rv_leL xs⟩
end
theorem bedOk_pos {b:Int}(h:bedOk b=true):0<scoreOf b:=by
 simp only[bedOk,Bool.or_eq_true,Bool.and_eq_true,decide_eq_true_eq] at h
 unfold scoreOf
 refine Int.mul_pos (by omega) (by omega)
set_option maxHeartbeats 4000000
theorem throws_mem {bs:List Int}(hB:∀ b∈bs,bedOk b=true) {g s:Int}{x:Int × Int}(hx:x∈throwsO g s bs):x.1∈bs∧0≤x.2∧x.2<s∧x.2=s-scoreOf x.1:=by
 unfold throwsO at hx
 obtain⟨b,hb,e⟩:=List.mem_filterMap.1 hx
 split at e
 ·rename_i hc
  injection e with e
  subst e
  have hp:=bedOk_pos (hB b hb)
  simp only[Bool.and_eq_true,decide_eq_true_eq] at hc
  obtain⟨h1,h2⟩:=hc
  unfold afterO at h1 ⊢
  refine⟨hb,?_⟩
  by_cases q0:s-scoreOf b=0
  ·simp only[if_pos q0];omega
  ·by_cases q1:s-scoreOf b=1
   ·simp only[if_neg q0,if_pos q1];omega
   ·simp only[if_neg q0,if_neg q1,decide_eq_true_eq] at h1 ⊢
    exact⟨by omega,by omega,trivial⟩
 ·cases e
theorem throws_len (bs:List Int) (g s:Int):(throwsO g s bs).length≤bs.length:=List.length_filterMap_le _ _
def sumT (before:List Int) (l:List (Int × Int)):Int:=(l.map fun x=>before.getD x.2.toNat 0).sum
theorem sumT_snoc (before:List Int) (l:List (Int × Int)) (x:Int × Int):sumT before (l++[x])=sumT before l+before.getD x.2.toNat 0:=by simp [sumT]
def rowO (g:Int) (bs before:List Int):List Int:=(List.range before.length).map fun s:Nat=>sumT before (throwsO g s bs)
def rowS (g:Int) (bs before:List Int) (k:Nat):List Int:=(List.range before.length).map fun s:Nat=>if s<k then sumT before (throwsO g s bs) else 0
theorem rowS_len (g:Int) (bs before:List Int) (k:Nat):(rowS g bs before k).length=before.length:=by simp [rowS]
theorem rowS_zero (g:Int) (bs before:List Int):rowS g bs before 0=List.replicate before.length 0:=by
 refine List.ext_getElem (by simp [rowS]) fun i h1 h2=>?_
 simp [rowS]
theorem rowS_end (g:Int) (bs before:List Int):rowS g bs before before.length=rowO g bs before:=by
 unfold rowS rowO
 refine List.map_congr_left fun s hs=>?_
 rw[if_pos (List.mem_range.1 hs)]
theorem rowS_set (g:Int) (bs before:List Int) (k:Nat):(rowS g bs before k).set k (sumT before (throwsO g k bs))=rowS g bs before (k+1):=by
 refine List.ext_getElem (by simp [rowS]) fun i h1 h2=>?_
 have hi:i<before.length:=by simpa [rowS] using h2
 rw[List.getElem_set]
 simp only[rowS,List.getElem_map,List.getElem_range]
 split
 ·rename_i e;subst e;rw[if_pos (by omega)]
 ·split<;>split<;>first|rfl|omega
theorem rowS_at (g:Int) (bs before:List Int) (k:Nat) (h:k<before.length):(rowS g bs before k).set k 0=rowS g bs before k:=by
 refine List.ext_getElem (by simp) fun i h1 h2=>?_
 rw[List.getElem_set]
 split
 ·rename_i e;subst e;simp [rowS]
 ·rfl
theorem sumT_le {before:List Int}{M:Int}(h:∀ x∈before,0≤x∧x≤M) (hM:0≤M):∀ l:List (Int × Int),0≤sumT before l∧sumT before l≤M*l.length
 | []=>by simp [sumT]
 | x::l=>by
   have ih:=sumT_le h hM l
   have hx:0≤before.getD x.2.toNat 0∧before.getD x.2.toNat 0≤M:=by
    rw[List.getD_eq_getElem?_getD]
    cases e:before[x.2.toNat]? with
    | none=>simp;omega
    | some y=>exact h y (zmo e)
   have e1:sumT before (x::l)=before.getD x.2.toNat 0+sumT before l:=by simp [sumT]
   rw[e1,List.length_cons]
   have:M*((l.length+1:Nat):Int)=M*l.length+M:=by push_cast;rw[Int.mul_add];omega
   omega
abbrev arrN (l:List Int):List (List RV):=l.map fun n=>[i64 n]
theorem row_ok (bs:List Int) (g:Int) (cs:List (List Int)) (before:List Int) (hb:∀ b∈bs,bedOk b=true∧0≤b∧b≤499) (hl:1≤before.length∧before.length≤1001) (hbl:bs.length≤82) (hM:∀ x∈before,0≤x∧x≤1000000000000) :
 OCalls Tryz.prog 102 [brdP bs g cs,ints before] 3 1 (arrN (rowO g bs before)) before.length:=by
 have hth:=throws_ok bs g cs
 refine ocalls_0R (n:=34) (.tmp 4) Tryz.func102 rfl (by kernel_rfl) Tryz.ntmps102 rfl (by simp) (fun e he=>by obtain⟨x,_,rfl⟩:=List.mem_map.1 he;rfl) fun C hC=>?_
 apply zq
 refine zb fun K hK=>?_;simp only[go_sem];apply hK;refine zw (zfP 3 3 [ints before] (by omega) rfl rfl) ?_;apply zw (zk [0,3]);simp only[go_sem]
 apply zq
 refine zb fun K hK=>?_;simp only[go_sem,List.length_map];repeat first|intro _|refine⟨by omega,?_⟩
 apply hK;apply zw (zk [0,3,5]);simp only[go_sem]
 repeat apply zq
 refine zb fun K hK=>?_;simp only[go_sem,List.length_map,List.length_replicate]
 intro _
 apply hK;apply zw (zk [0,3,5,13,14]);simp only[go_sem];apply zd
 refine zuv (n:=34) before.length (fun i vs=>[(0,.r (brdP bs g cs)),(3,.r (.rp [ints before])),(5,.pt 5 (vs 5) 0),(13,.r (i64 (before.length:Int))),(14,.r (i64 (i:Int)))])
  (fun i vs=>[(5,.box [.os 11 (vs 11) 1 0 before.length]),(11,.arr 3 1 (arrN (rowS g bs before i)))]) (fun _=>True) 0 (zj [] ?_ ?_) (Nat.zero_le _) trivial ?_
 ·try simp only[go_sem]
  try rfl
 ·try simp only[go_sem]
  rw[rowS_zero]
  try simp
 ·intro i vs hi _
  by_cases hin:i<before.length
  ·apply zq
   refine zb fun K hK=>?_;simp only[go_sem,hin];apply hK;apply zw (zk [0,3,5,13,14,15]);simp only[go_sem]
   apply zq
   apply zc rfl<;>intro hc<;>(try simp only[go_sem] at hc)
   apply zx
   try simp only[go_sem]
   apply zq
   apply zd
   apply zq
   refine zb fun K hK=>?_;simp only[go_sem];apply hK;refine zw (zfP 6 6 [i64 (i:Int)] (by omega) rfl rfl) ?_;apply zw (zk [0,3,5,6,13,14]);simp only[go_sem]
   apply zq
   refine zb fun K hK=>?_;simp only[go_sem]
   refine zh (hth (i:Int)) rfl (by simp only[go_sem,i64,ints]) (by simp only[go_sem,i64,ints]) ?_
   (try simp only[go_sem]);apply hK;apply zw (zk [0,3,5,6,13,14,19]);simp only[go_sem]
   have hB:∀ b∈bs,bedOk b=true:=fun b h=>(hb b h).1
   have hmem:=fun x (hx:x∈throwsO g (i:Int) bs)=>throws_mem hB hx
   have htl:=throws_len bs g (i:Int)
   have hsn:=sumT_snoc before
   have hle:=sumT_le hM (by omega)
   have hset:=rowS_set g bs before i
   have hat:=rowS_at g bs before i hin
   have hLl:=rowS_len g bs before i
   rw[← hset]
   have hit:=throws1_ok bs g cs (i:Int) (by omega) (fun b h=>(hb b h).2)
   generalize hT:throwsO g (i:Int) bs=T at *
   generalize hL:rowS g bs before i=L at *
   apply zd
   refine awp_rangeF hC (T.map thrR) hit [0,3,5,6,13,14,19] (by decide) (fun vs=>[(0,.r (brdP bs g cs)),(3,.r (.rp [ints before])),(5,.pt 5 (vs 5) 0),(6,.r (.rp [i64 (i:Int)])),(13,.r (i64 (before.length:Int))),(14,.r (i64 (i:Int))),(19,.r (.fn 104 [.rp [brdP bs g cs],.rp [i64 (i:Int)]]))])
    (fun j vs=>[(5,.box [.os 11 (vs 11) 1 0 before.length]),(11,.arr 3 1 (arrN (L.set i (sumT before (T.take j)))))]) (fun _=>True) (zj [] ?_ ?_) trivial (fun _=>rfl) (fun _=>rfl) (fun _ _=>rfl) (by simp) (fun e he=>by obtain⟨x,_,rfl⟩:=List.mem_map.1 he;rfl) ?_ ?_
   ·try simp only[go_sem]
    try rfl
   ·try simp only[go_sem]
    have e0:L.set i (sumT before [])=L:=hat
    try simp only[List.take_zero,e0]
   ·intro j e vs us C' he _
    rw[List.getElem?_map] at he
    obtain⟨x,hx,rfl⟩:=Option.map_eq_some_iff.1 he
    obtain⟨m1,m2,m3,m4⟩:=hmem x (zmo hx)
    have hj:=(List.getElem?_eq_some_iff.1 hx).1
    refine zb fun K hK=>?_;simp only[go_sem];apply hK
    refine⟨rfl,fun C'=>?_⟩
    apply zw (zk [0,3,5,6,8,13,14,19]);simp only[go_sem];rw[zto hx,hsn]
    have hv:=hle (T.take j)
    have htk:(T.take j).length≤T.length:=by rw[List.length_take];omega
    obtain⟨y,hy⟩:=zol (l:=before) (i:=x.2.toNat) (by omega)
    have hyM:=hM y (zmo hy)
    have hgy:before.getD x.2.toNat 0=y:=by rw[List.getD_eq_getElem?_getD,hy];rfl
    rw[hgy]
    generalize sumT before (T.take j)=v at *
    have hvM:v≤82000000000000:=by
     have h1:(1000000000000:Int)*((T.take j).length:Int)≤1000000000000*82:=Int.mul_le_mul_of_nonneg_left (by omega) (by omega)
     omega
    have w1:IntKind.i64.wrap (v+y)=v+y:=by rw[zI]<;>omega
    have hiL:i<(L.set i v).length:=by rw[List.length_set];omega
    have hgL:(L.set i v)[i]? = some v:=by rw[List.getElem?_set,if_pos rfl,if_pos (by omega)]
    have hss:(L.set i v).set i (v+y)=L.set i (v+y):=by simp
    obtain⟨X,hX⟩:∃ X,X=L.set i v:=⟨_,rfl⟩
    have hXl:X.length=before.length:=by rw[hX,List.length_set];exact hLl
    rw[← hX] at hgL hss ⊢
    rw[← hss]
    have hx2:x.2=((x.2.toNat:Nat):Int):=by omega
    have hx3:x.2.toNat<before.length:=by omega
    rw[hx2]
    generalize x.2.toNat=q at *
    apply zd
    refine awp_dreg3 [(5,some 5),(3,none),(6,none),(8,none)] [5] follows (by decide +kernel) (by kernel_rfl) (by simp only[keysOk,List.mem_cons,List.not_mem_nil,forall_eq_or_imp,Oc.keyOf,go_sem];simp) (by intro k hk;simp only[List.mem_cons,List.not_mem_nil,or_false] at hk;first|(subst hk;exact⟨_,rfl⟩)|(rcases hk with rfl|rfl<;>exact⟨_,rfl⟩)|(rcases hk with rfl|rfl|rfl<;>exact⟨_,rfl⟩)) fun K hK=>?_
    simp only[go_sem,hy,hx3,hgL,hXl,hin,w1,List.length_map];apply hK
    try simp only[go_sem]
    have hms:(arrN X).set i [RV.it IntKind.i64 (v+y)]=arrN (X.set i (v+y)):=by simp only[arrN,List.map_set]
    rw[hms]
    refine zj (F:=fun _=>[]) [] ?_ ?_
    ·try simp only[go_sem]
    ·try simp only[go_sem]
   ·intro vs us _
    have hTl:(T.map thrR).length=T.length:=List.length_map _
    try simp only[go_sem]
    refine zw (sub_wake rfl) ?_
    try simp only[List.length_map,List.take_length]
    refine zb fun K hK=>?_;simp only[go_sem];(try simp (disch:=omega) only[zI]);apply hK
    try simp only[go_sem]
    refine⟨by omega,zj [] ?_ ?_⟩
    ·try simp only[go_sem]
    ·try simp only[go_sem]
  ·have hie:i=before.length:=by omega
   subst hie
   rw[rowS_end]
   apply zq
   refine zb fun K hK=>?_;simp only[go_sem,Nat.lt_irrefl];apply hK;apply zw (zk [5,15]);simp only[go_sem]
   apply zq
   apply zc rfl<;>intro hc<;>(try simp only[go_sem] at hc)
   apply zf;simp only[go_sem]
   apply zq
   refine zb fun K hK=>?_;simp only[go_sem];apply hK;apply zw (zk [4]);simp only[go_sem];apply ze;simp only[go_sem];exact⟨11,vs 11,rfl,rfl⟩
end Go.Proofs.YtgfbenanljjgaaaGreat.Du

namespace Go.Oc
open Go Go.RowKit
section
variable {ρ:List (Nat × Nat)}{ver ver':Nat→Nat}
mutual
theorem lendA_congr (hv:∀ k,(zLk ρ k).isSome=true→ver' k=ver k):∀ x:AV,lendA ρ ver' x=lendA ρ ver x
 | .r _=>by simp only[lendA]
 | .tu _=>by simp only[lendA]
 | .mi _ _=>by simp only[lendA]
 | .pt k _ _=>by simp only[lendA];cases e:zLk ρ k with|none=>rfl|some pk=>rw[hv k (by rw[e];rfl)]
 | .pe k _ _ _ _=>by simp only[lendA];cases e:zLk ρ k with|none=>rfl|some pk=>rw[hv k (by rw[e];rfl)]
 | .os k _ _ _ _=>by simp only[lendA];cases e:zLk ρ k with|none=>rfl|some pk=>rw[hv k (by rw[e];rfl)]
 | .mp k _=>by simp only[lendA];cases e:zLk ρ k with|none=>rfl|some pk=>rw[hv k (by rw[e];rfl)]
 | .pu k _ _=>by simp only[lendA];cases e:zLk ρ k with|none=>rfl|some pk=>rw[hv k (by rw[e];rfl)]
 | .fn _ cs=>by simp only[lendA];rw[lendL_congr hv cs]
 | .ag cs=>by simp only[lendA];rw[lendL_congr hv cs]
theorem lendL_congr (hv:∀ k,(zLk ρ k).isSome=true→ver' k=ver k):∀ xs:List AV,lendL ρ ver' xs=lendL ρ ver xs
 | []=>by simp only[lendL]
 | x::xs=>by simp only[lendL];rw[lendA_congr hv x,lendL_congr hv xs]
end
theorem key_of_pin:∀ {ρ:List (Nat × Nat)}{j ck:Nat},pinOf ρ j=some ck→(zLk ρ ck).isSome=true
 | [],_,_,h=>by simp [pinOf] at h
 | (x, y)::ρ, j, ck, h=>by
   simp only[pinOf] at h
   simp only[zLk]
   split at h
   ·injection h with h;subst h;simp
   ·split
    ·rfl
    ·exact key_of_pin h
mutual
theorem backA_congr (hv:∀ k,(zLk ρ k).isSome=true→ver' k=ver k):∀ x:AV,backA ρ ver' x=backA ρ ver x
 | .r _=>by simp only[backA]
 | .mi _ _=>by simp only[backA]
 | .pt k _ _=>by simp only[backA];cases e:pinOf ρ k with|none=>rfl|some ck=>simp only[hv ck (key_of_pin e)]
 | .pe k _ _ _ _=>by simp only[backA];cases e:pinOf ρ k with|none=>rfl|some ck=>simp only[hv ck (key_of_pin e)]
 | .os k _ _ _ _=>by simp only[backA];cases e:pinOf ρ k with|none=>rfl|some ck=>simp only[hv ck (key_of_pin e)]
 | .mp k _=>by simp only[backA];cases e:pinOf ρ k with|none=>rfl|some ck=>simp only[hv ck (key_of_pin e)]
 | .pu k _ _=>by simp only[backA];cases e:pinOf ρ k with|none=>rfl|some ck=>simp only[hv ck (key_of_pin e)]
 | .tu cs=>by simp only[backA];rw[backL_congr hv cs]
 | .fn _ cs=>by simp only[backA];rw[backL_congr hv cs]
 | .ag cs=>by simp only[backA];rw[backL_congr hv cs]
theorem backL_congr (hv:∀ k,(zLk ρ k).isSome=true→ver' k=ver k):∀ xs:List AV,backL ρ ver' xs=backL ρ ver xs
 | []=>by simp only[backL]
 | x::xs=>by simp only[backL];rw[backA_congr hv x,backL_congr hv xs]
end
end
section
variable {P:Program}{s:AS}
end
section
variable {P:Program}{C:Ctx}{Q:Exit→AS→Prop}{s:AS}{Φ:List (RV × RV)→Prop}
variable {n:Nat}{l:List (Nat × AV)}{vs:Nat→Nat}{cs:List (Nat × RowC)}
end
end Go.Oc

namespace Go.Oc
open Go Go.RowKit
def sLitBox (P:Program) (s:AS) (d:Nat) (t:TypeId) (len:Nat) (parts:List (Nat × AV)):Res :=
 match tyq P t with
 | some ⟨.slice e esz _ ez, _, _, _⟩ =>
   if len=0 then .bad else
   match lay s.ver (fun i=>some (i*esz,esz)) ((List.replicate len ez).flatten.map .r) parts with
   | some cs=>⟨0<esz∧len*esz≤16777216∧d<1000,True,⟨.os d ((s.rows d).ver+1) esz 0 len,[(d,⟨(s.rows d).ver+1,.ara e esz cs⟩)]⟩⟩
   | none=>.bad
 | _=>.bad
section
variable {P:Program}{C:Ctx}{p:Plan}{s:AS}{a:Act}{w:World}{o:Oper}
theorem relV_map_r {ver:Nat→Nat}:∀ {xs:List RV}{vs:List Value},RV.relV w p.R xs vs→AV.relV w p ver (xs.map .r) vs
 | [],vs,h=>by simp only[RV.relV] at h;simp only[List.map_nil,AV.relV];exact h
 | x::xs, vs, h=>by
   simp only[RV.relV] at h
   obtain⟨u,us,e,h1,h2⟩:=h
   simp only[List.map_cons,AV.relV,AV.rel];exact⟨u,us,e,h1,relV_map_r h2⟩
theorem lay_len {ver:Nat→Nat}{place:Nat→Option (Nat × Nat)}:∀ (parts:List (Nat × AV)) (cs cs':List AV),lay ver place cs parts=some cs'→cs'.length=cs.length
 | [],cs,cs',h=>by simp only[lay] at h;injection h with h;rw[h]
 | (i, x)::parts, cs, cs', h=>by
   simp only[lay] at h
   split at h
   ·split at h
    ·rename_i o sz xs _ _ hc
     rw[lay_len parts _ _ h]
     simp
     omega
    ·cases h
   ·cases h
theorem good_litBox {t:TypeId}{n:Nat}{ps:Array (Nat × Operand)}(h:SR C p s a w) (ho:o.op = .buildSlice t n ps) (hp:(sLitBox P s (o.dst.getD 0) t n (ps.toList.map fun (i,x)=>(i,s.ev x))).pre) :
 Done P C o s a w (sLitBox P s (o.dst.getD 0) t n (ps.toList.map fun (i,x)=>(i,s.ev x))):=by
 have hparts:=parts_rel h ps.toList
 unfold sLitBox at hp ⊢
 split at hp
 ·rename_i e esz eb ez sz agg z e1
  obtain⟨hu,hok,hsz,_,zv,hzv,hez⟩:=tyq_slice e1
  subst hsz
  obtain⟨i,zval,hi,hzero,hcells,hz1,hzl⟩:=zeroOf_spec hzv
  split at hp
  ·exact hp.elim
  ·rename_i hn0
   rw[if_neg hn0]
   split at hp
   ·rename_i cs hlay
    obtain⟨hpos,hmax,hd⟩:0<P.cellsOf e∧n*P.cellsOf e≤16777216∧o.dst.getD 0<1000:=hp
    have hzc:zval.cells.size=P.cellsOf e:=by rw[← hzl,← hcells];simp
    obtain⟨cells',hf,hr,hr1⟩:=lay_rel (p:=p) (w:=w) _ _ (ps.toList.map fun x=>(x.1,a.eval x.2)) _ _ (madeCells zval.cells (n*P.cellsOf e)) hlay
     (by
      rw[← hzc,madeCells_list,hcells,hez]
      refine relV_map_r ?_
      clear hlay hn0 ho hmax
      induction n with
      | zero=>simp [RV.relV]
      | succ n ih =>
        simp only[List.replicate_succ,List.flatten_cons];exact RV.relV_append (RV.relV_ofV1 w p.R zv) ih)
     (by
      rw[← hzc,madeCells_list,hcells]
      intro u hu
      obtain⟨l,hl,hul⟩:=List.mem_flatten.1 hu
      rw[List.eq_of_mem_replicate hl] at hul
      exact hz1 u hul)
     hparts.1 hparts.2
    have hcl:cells'.size=n*P.cellsOf e:=by
     rw[← Array.length_toList,AV.relV_length hr,lay_len _ _ _ hlay,List.length_map]
     have:∀ m,(List.replicate m ez).flatten.length=m*P.cellsOf e:=by
      intro m
      induction m with
      | zero=>simp
      | succ m ih=>rw[List.replicate_succ,List.flatten_cons,List.length_append,ih,hez,List.length_map,hzl,Nat.add_mul];omega
     exact this n
    have hnm:n≤16777216:=Nat.le_trans (Nat.le_mul_of_pos_right n hpos) hmax
    have hn:=h.newRow (o.dst.getD 0) hd (.ara e (P.cellsOf e) cs) rfl n (by simp only[maxLen];omega) (.cells cells' e) (fun p' ver' hR hβ hγ hk=>by
     simp only[zrl];rw[hγ]
     exact⟨_,_,hβ,heap_alloc_new w _,hcl,cells'.toList,[],by simp,AV.relV_mono hk _ _ hr,hr1⟩)
    refine⟨_,.slice (some ⟨w.heap.size,0,none⟩) n n,_,_,?_,.inl rfl,trivial,by rw[zro];exact hn,?_⟩
    ·have hmap:(ps.map fun (x:Nat × Operand)=>(x.1,a.eval x.2)).toList=ps.toList.map fun x=>(x.1,a.eval x.2):=by simp
     have hne:¬ (n*P.cellsOf e=0):=by
      have:=Nat.mul_pos (show 0<n by omega) hpos
      omega
     have hz:(zeroValue e).run P w = .ok zval w:=by simp [zeroValue,typeInfo,hi,hzero]
     have hf':=hf
     simp only[madeCells] at hf'
     simp only[execOp,ho,Instr.buildSlice,Sem.run_bind,run_underlying hu,Result.andThen_ok,zrs hok,if_neg (show ¬ (n*P.cellsOf e > 2 ^ 24) by omega),if_neg hne,hz,Sem.run_pure,hmap,hf']
     simp [newRow]
    ·rw[zro]
     simp only[AV.rel,vers,zus];exact⟨Nat.le_refl _,fun _=>.inr ⟨_,_,rfl,by simp;rfl,by omega,fun _=>by simp⟩⟩
   ·exact hp.elim
 ·exact hp.elim
variable {Q:Exit→AS→Prop}{ops:Array Oper}
end
section
variable {n:Nat}{l:List (Nat × AV)}{vs:Nat→Nat}{cs:List (Nat × RowC)}
end
end Go.Oc

namespace Go.Oc
open Go Go.RowKit
def unl (listed:Array Bool):Nat→Nat
 | 0=>0
 | m+1=>unl listed m+if listed.getD m true then 0 else 1
theorem getD_setT {listed:Array Bool}{i j:Nat}:(listed.setIfInBounds i true).getD j true=if j=i then true else listed.getD j true:=by
 split
 ·rename_i e
  subst e
  simp only[Array.getD_eq_getD_getElem?,Array.getElem?_setIfInBounds]
  split
  ·split<;>simp_all
  ·simp_all
 ·rename_i e
  simp only[Array.getD_eq_getD_getElem?,Array.getElem?_setIfInBounds];rw[if_neg (fun h=>e h.symm)]
theorem unl_same {listed:Array Bool}{i:Nat}:∀ m,m≤i→unl (listed.setIfInBounds i true) m=unl listed m
 | 0,_=>rfl
 | m+1, h=>by
   have e2:m≠i:=by omega
   have e3:=unl_same (listed:=listed) (i:=i) m (by omega)
   simp only[unl,getD_setT,e3,if_neg e2]
theorem unl_set {listed:Array Bool}{i:Nat}(hi:listed.getD i true=false):∀ m,i<m→unl (listed.setIfInBounds i true) m+1=unl listed m
 | 0,h=>by omega
 | m+1, h=>by
   simp only[unl,getD_setT]
   by_cases e:i=m
   ·subst e
    rw[unl_same _ (Nat.le_refl _)]
    simp [hi]
   ·have:=unl_set hi m (by omega)
    have e2:m≠i:=fun h=>e h.symm
    rw[if_neg e2]
    omega
theorem unl_zero {listed:Array Bool}:∀ m,unl listed m=0→∀ j,j<m→listed.getD j true=true
 | 0,_,j,h=>by omega
 | m+1, h, j, hj=>by
   simp only[unl] at h
   by_cases e:j=m
   ·subst e
    by_cases hx:listed.getD j true=true
    ·exact hx
    ·simp [hx] at h
   ·exact unl_zero m (by omega) j (by omega)
def stepAll (P:Program) (ops:Array Oper) (n:Nat) (F:(Nat→Bool)→(Nat→Nat)→List (Nat × AV)) (R:(Nat→Bool)→(Nat→Nat)→List (Nat × RowC)):Nat→List Oper→Prop
 | _,[]=>True
 | k,o::rest=>(∀ b vs,(∀ j e,j<ops.size→(deps ops j).contains e=true→b j=true→b e=true)→b k=false→(∀ e∈deps ops k,b e=true) →
  xop P false o (FitV n (F (upd b k true)) (R (upd b k true))) (st n (F b vs) vs (R b vs)))∧stepAll P ops n F R (k+1) rest
theorem stepAll_get {P:Program}{ops:Array Oper}{n:Nat}{F:(Nat→Bool)→(Nat→Nat)→List (Nat × AV)}{R:(Nat→Bool)→(Nat→Nat)→List (Nat × RowC)}:∀ {l:List Oper}{k i:Nat}{o:Oper},stepAll P ops n F R k l→l[i]? = some o →
 ∀ b vs, (∀ j e, j<ops.size→(deps ops j).contains e=true→b j=true→b e=true)→b (k+i)=false→(∀ e∈deps ops (k+i), b e=true) →
   xop P false o (FitV n (F (upd b (k+i) true)) (R (upd b (k+i) true))) (st n (F b vs) vs (R b vs))
 | [],_,_,_,_,h=>by simp at h
 | x::l, k, 0, o, hs, h=>by
   simp only[List.getElem?_cons_zero,Option.some.injEq] at h
   subst h
   exact hs.1
 | x::l, k, i+1, o, hs, h=>by
   have:=stepAll_get (k:=k+1) (i:=i) hs.2 (by simpa using h)
   rwa [show k+1+i=k+(i+1) by omega] at this
def upOk (ops:Array Oper):Bool:=(List.range ops.size).all fun j=>(deps ops j).all fun e=>decide (e<j)
section
variable {P:Program}{C:Ctx}{s:AS}{a:Act}{w:World}{ops:Array Oper}
theorem ready_nil {listed:Array Bool}(hu:upOk ops=true) (h:Region.ready .any ops listed=[]) (hsz:listed.size=ops.size):∀ j,j<ops.size→listed.getD j true=true:=by
 intro j
 induction j using Nat.strongRecOn with
 | _ j ih =>
   intro hj
   by_cases hx:listed.getD j true=true
   ·exact hx
   ·exfalso
    have ho:ops[j]? = some ops[j]:=Array.getElem?_eq_getElem hj
    have hr:j∈Region.ready .any ops listed:=by
     refine mem_ready.2 ⟨by simpa using hx,ops[j],ho,fun e he hb=>?_⟩
     have hm:e.on∈deps ops j:=by unfold deps;rw[ho];exact List.mem_map.2 ⟨e,List.mem_filter.2 ⟨by simpa using he,hb⟩,rfl⟩
     have hlt:=List.all_eq_true.1 (List.all_eq_true.1 hu j (by simpa using hj)) e.on hm
     simp only[decide_eq_true_eq] at hlt
     have:=ih e.on hlt (by omega)
     have h2:e.on<listed.size:=by omega
     simpa [h2] using this
    rw[h] at hr
    cases hr
theorem inv_any {Q:AS→Prop}{Q':Exit→Act→World→Prop}(hQ:∀ s a w,Q s→SRel C s a w→Q' .normal a w) {n:Nat}{F:(Nat→Bool)→(Nat→Nat)→List (Nat × AV)}{R:(Nat→Bool)→(Nat→Nat)→List (Nat × RowC)}
 (hd:dstOk ops n=true) (hg:ops.all (fun o=>o.guard.isNone)=true) (hu:upOk ops=true) (hstep:stepAll P ops n F R 0 ops.toList)
 (hend:∀ b vs,(∀ j,b j=true)→Q (st n (F b vs) vs (R b vs))) :
 ∀ (fuel:Nat) (vs:Nat→Nat) (listed:Array Bool) (a:Act) (w:World), listed.size=ops.size→down ops listed→unl listed ops.size≤fuel→SRel C (st n (F (fun j=>listed.getD j true) vs) vs (R (fun j=>listed.getD j true) vs)) a w →
   wpAnyIn (fnc C.rd) 0 P .any ops Q' fuel listed a w:=by
 have all:∀ {listed:Array Bool},listed.size=ops.size→(∀ j,j<ops.size→listed.getD j true=true)→∀ j,(fun j=>listed.getD j true) j=true:=fun {listed} hsz h j=>by
  by_cases hj:j<ops.size
  ·exact h j hj
  ·show listed.getD j true=true
   have:¬ j<listed.size:=by omega
   simp [this]
 intro fuel
 induction fuel with
 | zero =>
   intro vs listed a w hsz hdn hf hs
   have h0:=unl_zero (listed:=listed) ops.size (by omega)
   refine⟨List.eq_nil_iff_forall_not_mem.2 fun j hj=>?_,hQ _ _ _ (hend _ _ (all hsz h0)) hs⟩
   obtain⟨h1,o,ho,_⟩:=mem_ready.1 hj
   have:=h0 j (Array.getElem?_eq_some_iff.1 ho).1
   rw[this] at h1
   cases h1
 | succ fuel ih =>
   intro vs listed a w hsz hdn hf hs
   refine⟨fun h0=>hQ _ _ _ (hend _ _ (all hsz (ready_nil hu h0 hsz))) hs,fun i hi=>?_⟩
   obtain⟨hi1,o,ho,hall⟩:=mem_ready.1 hi
   unfold wpOpIn
   rw[ho]
   simp only
   have hil:i<ops.size:=(Array.getElem?_eq_some_iff.1 ho).1
   have hgo:o.guard=none:=by
    have:=Array.all_eq_true_iff_forall_mem.1 hg o (Array.mem_of_getElem? ho)
    simpa using this
   obtain⟨p,hp⟩:=hs
   rw[if_pos (wantA_sound hp (by simp [wantA,hgo]))]
   have hx:=stepAll_get (k:=0) (i:=i) hstep (by rw[Array.getElem?_toList];exact ho) (fun j=>listed.getD j true) vs (fun j e hj he hb=>?_) (by rw[Nat.zero_add];exact hi1) (fun e he=>?_)
   ·rw[Nat.zero_add] at hx
    refine xop_sound hp hx (dstOk_get hd ho) (fun a' w' p' s' hs' hn hK=>?_) (dstOk_nd hd ho)
    obtain⟨vs',hsub⟩:=hK
    have e:upd (fun j=>listed.getD j true) i true=fun j=>(listed.setIfInBounds i true).getD j true:=by
     funext j
     rw[getD_setT]
     rfl
    rw[e] at hsub
    exact ih vs' _ a' w' (by simpa using hsz) (down_set hdn hi) (by have:=unl_set hi1 ops.size hil;omega) (hsub C a' w' ⟨p',hs'⟩)
   ·have hjs:j<listed.size:=by omega
    have hb':listed.getD j true=true:=hb
    have h2:=hdn j (by simpa [hjs] using hb') e (by simpa using he)
    show listed.getD e true=true
    by_cases hes:e<listed.size
    ·simpa [hes] using h2
    ·simp [hes]
   ·have h2:=ready_deps hi e (by simpa using he)
    show listed.getD e true=true
    by_cases hes:e<listed.size
    ·simpa [hes] using h2
    ·simp [hes]
end
theorem awp_inv {P:Program}{C:Ctx}{id:Nat}{l:List Oper}{n:Nat}{Q:Exit→AS→Prop}{s:AS}(F:(Nat→Bool)→(Nat→Nat)→List (Nat × AV)) (R:(Nat→Bool)→(Nat→Nat)→List (Nat × RowC)) (hm:P.follows .mixedOrders=true)
 (hd:dstOk l.toArray n=true) (hg:l.toArray.all (fun o=>o.guard.isNone)=true) (hu:upOk l.toArray=true) (h0:FitV n (F fun j=>decide (l.length≤j)) (R fun j=>decide (l.length≤j)) s)
 (hstep:stepAll P l.toArray n F R 0 l) (hend:∀ b vs,(∀ j,b j=true)→Q .normal (st n (F b vs) vs (R b vs))):awp P C (.region id l.toArray true) Q s:=fun a w hs=>by
 obtain⟨vs,hsub⟩:=h0
 obtain⟨p,hp⟩:=hsub C a w hs
 have hs':SR C p _ a { w with drawn:=w.drawn+1 }:=hp.below (w':=w.drew) ((Below.refl _ _).drew) (fun _ h=>h) (fun _ h=>.inl h) hp.rb
 refine wpIn_region_any hm ?_
 have e:(fun j=>(Array.replicate l.toArray.size false).getD j true)=fun j=>decide (l.length≤j):=by
  funext j
  by_cases h:j<l.length
  ·have:¬ l.length≤j:=by omega
   simp [h,this]
  ·have:l.length≤j:=by omega
   simp [h,this]
 refine inv_any (Q:=fun s=>Q .normal s) (n:=n) (F:=F) (R:=R) (fun s a w hq hs=>⟨s,hs,hq⟩) hd hg hu (by simpa using hstep) hend _ vs _ _ _ (by simp) (fun j hj=>?_) ?_ ?_
 ·exfalso
  simp only[Array.getD_eq_getD_getElem?,Array.getElem?_replicate] at hj
  split at hj<;>simp at hj
 ·have:∀ m,unl (Array.replicate l.toArray.size false) m≤m:=by
   intro m
   induction m with
   | zero=>exact Nat.le_refl _
   | succ m ih=>simp only[unl];split<;>omega
  exact this _
 ·rw[e]
  exact⟨p,hs'⟩
def allB (b:Nat→Bool) (v:Bool):List Nat→Prop
 | []=>True
 | e::es=>b e=v∧allB b v es
def chU (ops:Array Oper) (n:Nat):List Nat→List Nat→Bool
 | _,[]=>true
 | seen,e::es=>((deps ops n).contains e || seen.any fun j=>decide (j<ops.size)&&(deps ops j).contains e)&&chU ops n (e::seen) es
def chD (ops:Array Oper) (n:Nat):List Nat→List Nat→Bool
 | _,[]=>true
 | seen,e::es=>(decide (e<ops.size)&&((deps ops e).contains n || seen.any fun j=>(deps ops e).contains j))&&chD ops n (e::seen) es
theorem upT0 {ops:Array Oper}{b:Nat→Bool}{n:Nat}(hdn:∀ j e,j<ops.size→(deps ops j).contains e=true→b j=true→b e=true) (hde:∀ e∈deps ops n,b e=true):∀ (es seen:List Nat),(∀ j∈seen,b j=true)→chU ops n seen es=true→allB b true es
 | [],_,_,_=>trivial
 | e::es, seen, hs, h=>by
   simp only[chU,Bool.and_eq_true,Bool.or_eq_true,List.any_eq_true,decide_eq_true_eq] at h
   have he:b e=true:=by
    rcases h.1 with h1|⟨j,hj,h1,h2⟩
    ·exact hde e (by simpa using h1)
    ·exact hdn j e h1 h2 (hs j hj)
   refine⟨he,upT0 hdn hde es (e::seen) (fun j hj=>?_) h.2⟩
   rcases List.mem_cons.1 hj with rfl|hj
   ·exact he
   ·exact hs j hj
theorem upT {ops:Array Oper}{b:Nat→Bool}{n:Nat}(hdn:∀ j e,j<ops.size→(deps ops j).contains e=true→b j=true→b e=true) (hde:∀ e∈deps ops n,b e=true) (es:List Nat) (h:chU ops n [] es=true):allB b true es:=upT0 hdn hde es [] (by simp) h
theorem dnT0 {ops:Array Oper}{b:Nat→Bool}{n:Nat}(hdn:∀ j e,j<ops.size→(deps ops j).contains e=true→b j=true→b e=true) (hbk:b n=false):∀ (es seen:List Nat),(∀ j∈seen,b j=false)→chD ops n seen es=true→allB b false es
 | [],_,_,_=>trivial
 | e::es, seen, hs, h=>by
   simp only[chD,Bool.and_eq_true,Bool.or_eq_true,List.any_eq_true,decide_eq_true_eq] at h
   have he:b e=false:=by
    cases hb:b e
    ·rfl
    ·rcases h.1.2 with h1|⟨j,hj,h2⟩
     ·rw[hdn e n h.1.1 h1 hb] at hbk;cases hbk
     ·have:=hs j hj
      rw[hdn e j h.1.1 h2 hb] at this;cases this
   refine⟨he,dnT0 hdn hbk es (e::seen) (fun j hj=>?_) h.2⟩
   rcases List.mem_cons.1 hj with rfl|hj
   ·exact he
   ·exact hs j hj
theorem dnT {ops:Array Oper}{b:Nat→Bool}{n:Nat}(hdn:∀ j e,j<ops.size→(deps ops j).contains e=true→b j=true→b e=true) (hbk:b n=false) (es:List Nat) (h:chD ops n [] es=true):allB b false es:=dnT0 hdn hbk es [] (by simp) h
end Go.Oc

namespace Go.Proofs.YtgfbenanljjgaaaGreat.Du
open Go Go.Oc
set_option maxRecDepth 8000
set_option maxHeartbeats 4000000
abbrev mkL (bs:List Int) (g:Int) (cs:List (List Int)):List (Nat × RowC):=[(1000,.box [.os 1001 0 1 0 bs.length,.r (i64 g),.os 1002 0 1 0 cs.length]),(1001,.arr 140 1 (arrN bs)),(1002,.arr 39 1 (cs.map fun r=>[ints r]))]
theorem last1_ok (bs:List Int) (g:Int) (cs:List (List Int)) (l:List Int) (hl:cs[cs.length-1]? = some l) (h1:1≤cs.length∧cs.length≤100) :
 MCalls Tryz.prog 103 (mkL bs g cs) (mkL bs g cs) [.pt 1000 0 0] (.r (ints l)):=by
 have w1:IntKind.i64.wrap ((cs.length:Int)-1)=(cs.length:Int)-1:=by rw[zI]<;>omega
 have hx:cs[((cs.length:Int)-1).toNat]? = some l:=by rw[show ((cs.length:Int)-1).toNat=cs.length-1 by omega];exact hl
 refine mcalls_st (n:=15) (rs:=[.r (ints l)]) _ _ [.tmp 2] Tryz.func103 rfl (by kernel_rfl) Tryz.ntmps103 rfl (by simp) rfl rfl fun C=>?_
 apply zq
 refine zb fun K hK=>?_;simp only[go_sem];apply hK;apply zw (zk [0]);simp only[go_sem]
 apply zq
 refine awp_dreg3 [(0,some 1000)] [1000] follows (by decide +kernel) (by kernel_rfl) (by simp only[keysOk,List.mem_cons,List.not_mem_nil,forall_eq_or_imp,Oc.keyOf,go_sem];simp) (by intro k hk;simp only[List.mem_cons,List.not_mem_nil,or_false] at hk;first|(subst hk;exact⟨_,rfl⟩)|(rcases hk with rfl|rfl<;>exact⟨_,rfl⟩)|(rcases hk with rfl|rfl|rfl<;>exact⟨_,rfl⟩)) fun K hK=>?_
 simp only[go_sem,w1,hx,List.length_map];repeat first|intro _|refine⟨by omega,?_⟩
 apply hK;apply zw (zk [2]);simp only[go_sem];apply ze;simp only[go_sem]
def wonO (m:Nat):List Int:=1::List.replicate m 0
def rowN (g:Int) (bs:List Int) (m:Nat):Nat→List Int
 | 0=>wonO m
 | k+1=>rowO g bs (rowN g bs m k)
def cntO (g:Int) (bs:List Int) (m k:Nat):List (List Int):=(List.range (k+1)).map (rowN g bs m)
theorem rowN_len (g:Int) (bs:List Int) (m:Nat):∀ k,(rowN g bs m k).length=m+1
 | 0=>by simp [rowN,wonO]
 | k+1=>by simp [rowN,rowO,rowN_len g bs m k]
theorem cnt_len (g:Int) (bs:List Int) (m k:Nat):(cntO g bs m k).length=k+1:=by simp [cntO]
theorem cnt_snoc (g:Int) (bs:List Int) (m k:Nat):cntO g bs m (k+1)=cntO g bs m k++[rowN g bs m (k+1)]:=by
 unfold cntO
 rw[List.range_succ,List.map_append];rfl
theorem cnt_last (g:Int) (bs:List Int) (m k:Nat):(cntO g bs m k)[(cntO g bs m k).length-1]? = some (rowN g bs m k):=by
 rw[cnt_len]
 simp [cntO]
theorem rowN_le (g:Int) (bs:List Int) (hl:bs.length≤82) (m:Nat):∀ k,∀ x∈rowN g bs m k,0≤x∧x≤(82 ^ k:Nat)
 | 0, x, hx=>by
   unfold rowN wonO at hx
   rw[List.mem_cons] at hx
   rcases hx with rfl|hx
   ·simp
   ·rw[List.eq_of_mem_replicate hx];simp
 | k+1, x, hx=>by
   unfold rowN rowO at hx
   obtain⟨s,_,rfl⟩:=List.mem_map.1 hx
   have h:=sumT_le (M:=((82 ^ k:Nat):Int)) (rowN_le g bs hl m k) (Int.natCast_nonneg _) (throwsO g s bs)
   have hlen:=throws_len bs g s
   rw[Nat.pow_succ]
   generalize 82 ^ k=P at *
   have h2:(P:Int)*((throwsO g s bs).length:Int)≤(P:Int)*82:=Int.mul_le_mul_of_nonneg_left (by omega) (by omega)
   refine⟨h.1,?_⟩
   push_cast
   omega
theorem rowN_le6 (g:Int) (bs:List Int) (hl:bs.length≤82) (m:Nat) {k:Nat}(hk:k≤6):∀ x∈rowN g bs m k,0≤x∧x≤1000000000000:=fun x hx=>by
 have h:=rowN_le g bs hl m k x hx
 have h2:82 ^ k≤82 ^ 6:=Nat.pow_le_pow_right (by omega) hk
 have h3:(82:Nat) ^ 6=304006671424:=by decide
 omega
def vY (b:Nat→Bool) (j:Nat) (v:AV):AV:=if b j then v else .r .un
def mkF (dn k:Nat) (la nw:List Int) (b:Nat→Bool) (vs:Nat→Nat):List (Nat × AV) :=
 [(9,.pt 15 (vs 15) 0),(49,.r (i64 (dn:Int))),(50,.r (i64 (k:Int))),
  (52,vY b 0 (.pt 15 (vs 15) 0)),
  (53,vY b 1 (.pt 15 (vs 15) 0)),
  (54,vY b 2 (.pt 15 (vs 15) 0)),
  (55,vY b 3 (.pt 15 (vs 15) 2)),
  (56,vY b 4 (bif b 10 then .r .un else .os 316 (vs 316) 1 0 (k+1))),
  (57,vY b 5 (.pt 15 (vs 15) 0)),
  (58,vY b 6 (.pt 15 (vs 15) 0)),
  (59,vY b 7 (.r (ints la))),
  (60,vY b 8 (.r (ints nw))),
  (61,vY b 9 (.r (.sl 1 [[ints nw]]))),
  (62,vY b 10 (.os 316 (vs 316) 1 0 (k+1+1))),
  (63,vY b 11 (.pt 15 (vs 15) 0)),
  (64,vY b 12 (.pt 15 (vs 15) 2))]
def mkR (bs:List Int) (g:Int) (k:Nat) (cs:List (List Int)) (nw:List Int) (b:Nat→Bool) (vs:Nat→Nat):List (Nat × RowC) :=
 [(15,.box [.os 315 (vs 315) 1 0 bs.length,.r (i64 g),bif b 13 then .os 316 (vs 316) 1 0 (k+1+1) else (bif b 10 then .os 316 (vs 316-1) 1 0 (k+1) else .os 316 (vs 316) 1 0 (k+1))]),(315,.arr 140 1 (arrN bs)),(316,.arr 39 1 (bif b 10 then (cs.map fun r=>[ints r])++[[ints nw]] else cs.map fun r=>[ints r]))]
attribute [go_sem] mkF mkR vY
theorem fitV_subY {n:Nat}{F:(Nat→Nat)→List (Nat × AV)}{R:(Nat→Nat)→List (Nat × RowC)}{s s':AS}(h:Sub s s') (hf:FitV n F R s'):FitV n F R s:=by
 obtain⟨vs,hs⟩:=hf
 exact⟨vs,fun C a w hw=>hs C a w (h C a w hw)⟩
theorem board_ok (bs:List Int) (g:Int) (dn m:Nat) (hb:∀ b∈bs,bedOk b=true∧0≤b∧b≤499) (hbl:bs.length≤82) (hd:dn≤6) (hm:m≤1000) :
 ACalls Tryz.prog 68 [ints bs,i64 g,i64 (dn:Int),i64 (m:Int)] (brdP bs g (cntO g bs m dn)):=by
 have wm:IntKind.i64.wrap ((m:Int)+1)=(m:Int)+1:=by rw[zI]<;>omega
 refine zas (rs:=[brdP bs g (cntO g bs m dn)]) [.tmp 8] Tryz.func68 rfl (by kernel_rfl) Tryz.ntmps68 rfl (by simp) rfl fun C vs=>?_
 apply zq
 refine zb fun K hK=>?_;simp only[go_sem];apply hK;apply zw (zk [0,1,2,3]);simp only[go_sem]
 apply zq
 refine zb fun K hK=>?_;simp only[go_sem];apply hK;refine zw (sub_ownB 15 0 315 140 1 (by omega) (by omega) rfl (by simp only[go_sem,List.getElem?_cons_succ,List.getElem?_cons_zero])) ?_;refine zw (sub_ownB 15 2 316 39 1 (by omega) (by omega) rfl (by simp only[go_sem,List.getElem?_cons_succ,List.getElem?_cons_zero,List.set_cons_zero])) ?_;apply zw (zk [0,2,3,9]);simp only[go_sem]
 repeat apply zq
 refine zb fun K hK=>?_;simp only[go_sem,List.length_map]
 intro _
 apply hK;apply zw (zk [2,3,9,16,17,18]);simp only[go_sem];apply zd
 refine zuv (n:=67) bs.length (fun i vs=>[(2,.r (i64 (dn:Int))),(3,.r (i64 (m:Int))),(9,.pt 15 (vs 15) 0),(16,.r (ints bs)),(17,.r (i64 (bs.length:Int))),(18,.r (i64 (i:Int)))])
  (fun i vs=>[(15,.box [.os 315 (vs 315) 1 0 i,.r (i64 g),.os 316 (vs 316) 1 0 0]),(315,.arr 140 1 (arrN (bs.take i))),(316,.arr 39 1 [])]) (fun _=>True) 0 (zj [] ?_ ?_) (Nat.zero_le _) trivial ?_
 ·try simp only[go_sem]
  try rfl
 ·try simp only[go_sem]
  try rfl
 ·intro i vs hi _
  by_cases hin:i<bs.length
  ·obtain⟨x,hx⟩:=zol hin
   have hlt:(bs.take i).length=i:=by rw[List.length_take];omega
   rw[zto hx]
   apply zq
   refine zb fun K hK=>?_;simp only[go_sem,hin];apply hK;apply zw (zk [2,3,9,16,17,18,19]);simp only[go_sem]
   apply zq
   apply zc rfl<;>intro hc<;>(try simp only[go_sem] at hc)
   apply zx
   try simp only[go_sem]
   apply zq
   apply zd
   apply zq
   refine zb fun K hK=>?_;simp only[go_sem,hx,hin,List.length_map];apply hK;apply zw (zk [2,3,9,11,16,17,18]);simp only[go_sem];refine zb fun K hK=>?_;simp only[go_sem,hlt,List.length_map]
   refine⟨by omega,?_⟩
   apply hK;apply zw (zk [2,3,9,16,17,18]);simp only[go_sem];refine zb fun K hK=>?_;simp only[go_sem];(try simp (disch:=omega) only[zI]);apply hK
   try simp only[go_sem]
   refine⟨by omega,zj [] ?_ ?_⟩
   ·try simp only[go_sem]
   ·try simp only[go_sem]
    try simp
  ·have hie:i=bs.length:=by omega
   subst hie
   apply zq
   refine zb fun K hK=>?_;simp only[go_sem,Nat.lt_irrefl];apply hK;apply zw (zk [2,3,9,19]);simp only[go_sem]
   apply zq
   apply zc rfl<;>intro hc<;>(try simp only[go_sem] at hc)
   apply zf;simp only[go_sem];rw[List.take_length]
   apply zq
   refine zb fun K hK=>?_;simp only[go_sem,wm]
   refine⟨by omega,?_⟩
   apply hK;apply zw (zk [2,9,12]);simp only[go_sem]
   apply zq
   refine zb fun K hK=>?_;simp only[go_sem,List.length_replicate]
   repeat refine⟨by omega,?_⟩
   apply hK
   have hwon:[RV.it IntKind.i64 1]::List.replicate m [RV.it IntKind.i64 0]=arrN (wonO m):=by simp [wonO]
   refine zw (sub_frz (ty:=3) (sz:=1) (off:=0) (m:=m+1) (es:=arrN (wonO m)) 12 36 (by omega) rfl (by simp only[go_sem];rw[hwon]) (by simp [wonO])) ?_
   have tk1:List.take (m+1) (arrN (wonO m))=arrN (wonO m):=List.take_of_length_le (by simp [wonO])
   simp only[go_sem,List.drop_zero,tk1];apply zw (zk [2,9,12]);simp only[go_sem]
   apply zq
   refine zb fun K hK=>?_;simp only[go_sem];apply hK;apply zw (zk [2,9]);simp only[go_sem]
   repeat apply zq
   refine zb fun K hK=>?_;simp only[go_sem];apply hK;apply zw (zk [9,49,50]);simp only[go_sem];apply zd
   refine zuv (n:=67) dn (fun k vs=>[(9,.pt 15 (vs 15) 0),(49,.r (i64 (dn:Int))),(50,.r (i64 (k:Int)))])
    (fun k vs=>[(15,.box [.os 315 (vs 315) 1 0 bs.length,.r (i64 g),.os 316 (vs 316) 1 0 (k+1)]),(315,.arr 140 1 (arrN bs)),(316,.arr 39 1 ((cntO g bs m k).map fun r=>[ints r]))]) (fun _=>True) 0 (zj [] ?_ ?_) (Nat.zero_le _) trivial ?_
   ·try simp only[go_sem]
    try rfl
   ·try simp only[go_sem]
    try rfl
   ·intro k vs hk _
    by_cases hkn:k<dn
    ·have hcl:=cnt_len g bs m k
     have hcla:=cnt_last g bs m k
     have hll:=rowN_len g bs m k
     have hnl:(rowN g bs m (k+1)).length=m+1:=rowN_len g bs m (k+1)
     have hla:=last1_ok bs g (cntO g bs m k) (rowN g bs m k) hcla (by omega)
     have hro:=row_ok bs g (cntO g bs m k) (rowN g bs m k) hb (by omega) hbl (rowN_le6 g bs hbl m (by omega))
     have hnx:rowO g bs (rowN g bs m k)=rowN g bs m (k+1):=rfl
     rw[hnx] at hro
     rw[cnt_snoc]
     generalize hcs:cntO g bs m k=cs at *
     generalize rowN g bs m k=la at *
     generalize rowN g bs m (k+1)=nw at *
     simp only[mkL,hcl] at hla
     have htc:List.take (k+1) (cs.map fun r=>[ints r])=cs.map fun r=>[ints r]:=List.take_of_length_le (by simp [hcl])
     have htk:List.take (m+1) (arrN nw)=arrN nw:=List.take_of_length_le (by simp [hnl])
     apply zq
     refine zb fun K hK=>?_;simp only[go_sem,hkn];apply hK;apply zw (zk [9,49,50,51]);simp only[go_sem]
     apply zq
     apply zc rfl<;>intro hc<;>(try simp only[go_sem] at hc)
     apply zx
     try simp only[go_sem]
     apply zq
     apply zd
     have E:=And.intro hcl (And.intro hnl (And.intro hll htc))
     refine awp_inv (n:=67) (mkF dn k la nw) (mkR bs g k cs nw) follows (by kernel_rfl) (by kernel_rfl) (by decide +kernel) (zj [] ?_ ?_) ?_ ?_
     ·simp only[go_sem,if_true,if_false,Bool.false_eq_true]
     ·simp only[go_sem,List.cons_append,List.nil_append]
     ·refine⟨fun b vs hdn hbk hde=>?_,fun b vs hdn hbk hde=>?_,fun b vs hdn hbk hde=>?_,fun b vs hdn hbk hde=>?_,fun b vs hdn hbk hde=>?_,fun b vs hdn hbk hde=>?_,fun b vs hdn hbk hde=>?_,fun b vs hdn hbk hde=>?_,fun b vs hdn hbk hde=>?_,fun b vs hdn hbk hde=>?_,fun b vs hdn hbk hde=>?_,fun b vs hdn hbk hde=>?_,fun b vs hdn hbk hde=>?_,fun b vs hdn hbk hde=>?_,trivial⟩
      ·skip
       have G:=dnT hdn hbk [11,12,13] (by decide +kernel)
       simp only[allB,and_true] at G
       cases g4:b 4<;>cases g8:b 8<;>cases g10:b 10
       all_goals (simp only[go_sem,upd,if_true,Bool.false_eq_true,if_false,hbk,G,g4,g8,g10,E,List.length_map,Nat.add_sub_cancel,List.length_append,List.length_nil,Nat.zero_add])
       all_goals (refine zj [] ?_ ?_<;>(simp only[go_sem,upd,if_true,Bool.false_eq_true,if_false,hbk,G,g4,g8,g10,E,List.length_map,Nat.add_sub_cancel,List.length_append,List.length_nil,Nat.zero_add]))
      ·skip
       have G:=dnT hdn hbk [2,11,12,13,3,4,10] (by decide +kernel)
       simp only[allB,and_true] at G
       cases g8:b 8
       all_goals (simp only[go_sem,upd,if_true,Bool.false_eq_true,if_false,hbk,G,g8,E,List.length_map,Nat.add_sub_cancel,List.length_append,List.length_nil,Nat.zero_add])
       all_goals (refine zj [] ?_ ?_<;>(simp only[go_sem,upd,if_true,Bool.false_eq_true,if_false,hbk,G,g8,E,List.length_map,Nat.add_sub_cancel,List.length_append,List.length_nil,Nat.zero_add]))
      ·skip
       have H:=upT hdn hde [1] (by decide +kernel)
       have G:=dnT hdn hbk [3,11,12,13,4,10] (by decide +kernel)
       simp only[allB,and_true] at H G
       cases g8:b 8
       all_goals (simp only[go_sem,upd,if_true,Bool.false_eq_true,if_false,hbk,H,G,g8,E,List.length_map,Nat.add_sub_cancel,List.length_append,List.length_nil,Nat.zero_add])
       all_goals (refine zj [] ?_ ?_<;>(simp only[go_sem,upd,if_true,Bool.false_eq_true,if_false,hbk,H,G,g8,E,List.length_map,Nat.add_sub_cancel,List.length_append,List.length_nil,Nat.zero_add]))
      ·skip
       have H:=upT hdn hde [2,1] (by decide +kernel)
       have G:=dnT hdn hbk [4,11,12,13,10] (by decide +kernel)
       simp only[allB,and_true] at H G
       cases g8:b 8
       all_goals (simp only[go_sem,upd,if_true,Bool.false_eq_true,if_false,hbk,H,G,g8,E,List.length_map,Nat.add_sub_cancel,List.length_append,List.length_nil,Nat.zero_add])
       all_goals (refine zj [] ?_ ?_<;>(simp only[go_sem,upd,if_true,Bool.false_eq_true,if_false,hbk,H,G,g8,E,List.length_map,Nat.add_sub_cancel,List.length_append,List.length_nil,Nat.zero_add]))
      ·skip
       have H:=upT hdn hde [3,2,1] (by decide +kernel)
       have G:=dnT hdn hbk [10,11,12,13] (by decide +kernel)
       simp only[allB,and_true] at H G
       cases g8:b 8
       all_goals (simp only[go_sem,upd,if_true,Bool.false_eq_true,if_false,hbk,H,G,g8,E,List.length_map,Nat.add_sub_cancel,List.length_append,List.length_nil,Nat.zero_add])
       all_goals (refine zj [] ?_ ?_<;>(simp only[go_sem,upd,if_true,Bool.false_eq_true,if_false,hbk,H,G,g8,E,List.length_map,Nat.add_sub_cancel,List.length_append,List.length_nil,Nat.zero_add]))
      ·skip
       have G:=dnT hdn hbk [8,11,12,13,9,10] (by decide +kernel)
       simp only[allB,and_true] at G
       cases g4:b 4
       all_goals (simp only[go_sem,upd,if_true,Bool.false_eq_true,if_false,hbk,G,g4,E,List.length_map,Nat.add_sub_cancel,List.length_append,List.length_nil,Nat.zero_add])
       all_goals (refine zj [] ?_ ?_<;>(simp only[go_sem,upd,if_true,Bool.false_eq_true,if_false,hbk,G,g4,E,List.length_map,Nat.add_sub_cancel,List.length_append,List.length_nil,Nat.zero_add]))
      ·skip
       have G:=dnT hdn hbk [7,11,12,13,8,9,10] (by decide +kernel)
       simp only[allB,and_true] at G
       cases g4:b 4
       all_goals (simp only[go_sem,upd,if_true,Bool.false_eq_true,if_false,hbk,G,g4,E,List.length_map,Nat.add_sub_cancel,List.length_append,List.length_nil,Nat.zero_add])
       all_goals (refine zj [] ?_ ?_<;>(simp only[go_sem,upd,if_true,Bool.false_eq_true,if_false,hbk,G,g4,E,List.length_map,Nat.add_sub_cancel,List.length_append,List.length_nil,Nat.zero_add]))
      ·skip
       have H:=upT hdn hde [6] (by decide +kernel)
       have G:=dnT hdn hbk [8,11,12,13,9,10] (by decide +kernel)
       simp only[allB,and_true] at H G
       cases g4:b 4
       all_goals (simp only[go_sem,upd,if_true,Bool.false_eq_true,if_false,hbk,H,G,g4,E,List.length_map,Nat.add_sub_cancel,List.length_append,List.length_nil,Nat.zero_add])
       all_goals (refine xcall_mut hla [(1000,15),(1001,315),(1002,316)] rfl (by simp only[go_sem,i64,ints]) (by simp only[go_sem,i64,ints,hcl,List.length_map];try simp) (by rfl) (by rfl) ?_)
       all_goals (simp only[go_sem,if_true,Bool.false_eq_true,if_false,hbk,H,G,E,List.length_map,Nat.add_sub_cancel,List.length_append,List.length_nil,Nat.zero_add])
       all_goals (refine zj [] ?_ ?_<;>(simp only[go_sem,upd,if_true,Bool.false_eq_true,if_false,hbk,H,G,g4,E,List.length_map,Nat.add_sub_cancel,List.length_append,List.length_nil,Nat.zero_add]))
      ·skip
       have H:=upT hdn hde [5,7,7,6] (by decide +kernel)
       have G:=dnT hdn hbk [9,10,11,12,13] (by decide +kernel)
       simp only[allB,and_true] at H G
       cases g4:b 4
       all_goals (simp only[go_sem,upd,if_true,Bool.false_eq_true,if_false,hbk,H,G,g4,E,List.length_map,Nat.add_sub_cancel,List.length_append,List.length_nil,Nat.zero_add])
       all_goals (refine xcall_own hro rfl (by simp only[go_sem,i64,ints,E,List.length_map,Nat.add_sub_cancel,List.length_append,List.length_nil,Nat.zero_add]) (by simp only[go_sem,i64,ints,brdP,brdC,tabR,E,List.length_map,Nat.add_sub_cancel,List.length_append,List.length_nil,Nat.zero_add]) (by decide) (by intro h;first|(cases h;done)|rfl) ?_)
       all_goals simp only[go_sem,if_true,Bool.false_eq_true,if_false,hbk,H,G,E,List.length_map,Nat.add_sub_cancel,List.length_append,List.length_nil,Nat.zero_add]
       all_goals refine fitV_subY (sub_frz (ty:=3) (sz:=1) (off:=0) (m:=m+1) (es:=arrN nw) 60 60 (by omega) rfl (by rfl) (by simp [hnl,hll])) ?_
       all_goals simp only[go_sem,List.drop_zero,htk]
       all_goals (refine zj [] ?_ ?_<;>(simp only[go_sem,upd,if_true,Bool.false_eq_true,if_false,hbk,H,G,g4,E,List.length_map,Nat.add_sub_cancel,List.length_append,List.length_nil,Nat.zero_add]))
      ·skip
       have H:=upT hdn hde [8,5,7,6] (by decide +kernel)
       have G:=dnT hdn hbk [10,11,12,13] (by decide +kernel)
       simp only[allB,and_true] at H G
       cases g4:b 4
       all_goals (simp only[go_sem,upd,if_true,Bool.false_eq_true,if_false,hbk,H,G,g4,E,List.length_map,Nat.add_sub_cancel,List.length_append,List.length_nil,Nat.zero_add])
       all_goals (refine zj [] ?_ ?_<;>(simp only[go_sem,upd,if_true,Bool.false_eq_true,if_false,hbk,H,G,g4,E,List.length_map,Nat.add_sub_cancel,List.length_append,List.length_nil,Nat.zero_add]))
      ·skip
       have H:=upT hdn hde [4,8,9,3,5,7,2,6,1] (by decide +kernel)
       have G:=dnT hdn hbk [11,12,13] (by decide +kernel)
       simp only[allB,and_true] at H G
       (simp only[go_sem,upd,if_true,Bool.false_eq_true,if_false,hbk,H,G,E,List.length_map,Nat.add_sub_cancel,List.length_append,List.length_nil,Nat.zero_add])
       all_goals (try refine⟨⟨by omega,by omega⟩,?_⟩)
       all_goals refine fitV_subY (zk [9,49,50,52,53,54,55,57,58,59,60,61,62,63,64]) ?_
       all_goals simp only[go_sem]
       all_goals (refine zj [] ?_ ?_<;>(simp only[go_sem,upd,if_true,Bool.false_eq_true,if_false,hbk,H,G,E,List.length_map,Nat.add_sub_cancel,List.length_append,List.length_nil,Nat.zero_add]))
      ·skip
       have H:=upT hdn hde [0,0,1,2,3,4,5,6,7,8,9,10] (by decide +kernel)
       have G:=dnT hdn hbk [12,13] (by decide +kernel)
       simp only[allB,and_true] at H G
       (simp only[go_sem,upd,if_true,Bool.false_eq_true,if_false,hbk,H,G,E,List.length_map,Nat.add_sub_cancel,List.length_append,List.length_nil,Nat.zero_add])
       all_goals (refine zj [] ?_ ?_<;>(simp only[go_sem,upd,if_true,Bool.false_eq_true,if_false,hbk,H,G,E,List.length_map,Nat.add_sub_cancel,List.length_append,List.length_nil,Nat.zero_add]))
      ·skip
       have H:=upT hdn hde [0,1,2,3,4,5,6,7,8,9,10,11] (by decide +kernel)
       have G:=dnT hdn hbk [13] (by decide +kernel)
       simp only[allB,and_true] at H G
       (simp only[go_sem,upd,if_true,Bool.false_eq_true,if_false,hbk,H,G,E,List.length_map,Nat.add_sub_cancel,List.length_append,List.length_nil,Nat.zero_add])
       all_goals (refine zj [] ?_ ?_<;>(simp only[go_sem,upd,if_true,Bool.false_eq_true,if_false,hbk,H,G,E,List.length_map,Nat.add_sub_cancel,List.length_append,List.length_nil,Nat.zero_add]))
      ·skip
       have H:=upT hdn hde [0,1,2,3,4,5,6,7,8,9,10,10,10,12,11] (by decide +kernel)
       simp only[allB,and_true] at H
       (simp only[go_sem,upd,if_true,Bool.false_eq_true,if_false,hbk,H,E,List.length_map,Nat.add_sub_cancel,List.length_append,List.length_nil,Nat.zero_add])
       all_goals (refine zj [] ?_ ?_<;>(simp only[go_sem,upd,if_true,Bool.false_eq_true,if_false,hbk,H,E,List.length_map,Nat.add_sub_cancel,List.length_append,List.length_nil,Nat.zero_add]))
     intro b vs hb
     simp only[go_sem,hb,if_true,List.cons_append,List.nil_append];apply zw (zk [9,49,50]);simp only[go_sem];refine zb fun K hK=>?_;simp only[go_sem];(try simp (disch:=omega) only[zI]);apply hK
     try simp only[go_sem]
     refine⟨by omega,zj [] ?_ ?_⟩
     ·try simp only[go_sem]
     ·try simp only[go_sem]
      try simp
    ·have hke:k=dn:=by omega
     subst hke
     have hcl:=cnt_len g bs m k
     generalize hcs:cntO g bs m k=cs at *
     apply zq
     refine zb fun K hK=>?_;simp only[go_sem,Nat.lt_irrefl];apply hK;apply zw (zk [9,51]);simp only[go_sem]
     apply zq
     apply zc rfl<;>intro hc<;>(try simp only[go_sem] at hc)
     apply zf;simp only[go_sem];refine zw (sub_frzB 15 0 315 (ty:=140) (sz:=1) (off:=0) (m:=bs.length) (es:=arrN bs) (by omega) (by omega) rfl (by simp only[go_sem,List.getElem?_cons_succ,List.getElem?_cons_zero]) (by rfl) (by simp)) ?_
     have tk1:List.take bs.length (arrN bs)=arrN bs:=List.take_of_length_le (by simp)
     simp only[go_sem,List.drop_zero,tk1,List.set_cons_succ,List.set_cons_zero];refine zw (sub_frzB 15 2 316 (ty:=39) (sz:=1) (off:=0) (m:=k+1) (es:=cs.map fun r=>[ints r]) (by omega) (by omega) rfl (by simp only[go_sem,List.getElem?_cons_succ,List.getElem?_cons_zero]) (by rfl) (by simp [hcl])) ?_
     have tk2:List.take (k+1) (cs.map fun r=>[ints r])=cs.map fun r=>[ints r]:=List.take_of_length_le (by simp [hcl])
     simp only[go_sem,List.drop_zero,tk2,List.set_cons_succ,List.set_cons_zero];refine zw (zfP 9 15 (brdC bs g cs) (by omega) rfl rfl) ?_;apply zw (zk [9]);simp only[go_sem]
     apply zq
     refine zb fun K hK=>?_;simp only[go_sem];apply hK;apply zw (zk [8]);simp only[go_sem];apply ze;simp only[go_sem];exact rv_le _
end Go.Proofs.YtgfbenanljjgaaaGreat.Du
