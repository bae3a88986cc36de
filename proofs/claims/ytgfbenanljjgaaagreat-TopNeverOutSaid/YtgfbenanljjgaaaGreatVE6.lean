/- Part 6 of the texts of this claim. -/
import Derived.Test.YtgfbenanljjgaaaGreatVE5
import Derived.Test.YtgfbenanljjgaaaGreatVE4
import Derived.KernelRfl
set_option linter.unusedSimpArgs false
set_option linter.unusedVariables false
namespace Go.Oc
open Go Go.RowKit
def idK (L:List (Nat × RowC)):List (Nat × Nat):=L.map fun x=>(x.1,x.1)
def zP2 (P:Program) (rv:ResultVar) (L:List (Nat × RowC)) (r:AV):Exit→AS→Prop
 | .normal,s=>resC (resA P s rv) fun v=>zBg (idK L) s.ver v=some r∧zC0 (idK L) s (idK L) L
 | .ret,s=>resC (resA P s rv) fun v=>zBg (idK L) s.ver v=some r∧zC0 (idK L) s (idK L) L
 | _,_=>False
theorem zOS {P:Program}{rv:ResultVar}{L:List (Nat × RowC)}{r:AV}{s:AS}:zP2 P rv L r .ret s=resC (resA P s rv) fun v=>zBg (idK L) s.ver v=some r∧zC0 (idK L) s (idK L) L:=rfl
theorem zIm {P:Program}{rv:ResultVar}{L:List (Nat × RowC)}{r:AV}{s:AS}:zP2 P rv L r .normal s=resC (resA P s rv) fun v=>zBg (idK L) s.ver v=some r∧zC0 (idK L) s (idK L) L:=rfl
theorem zDz:∀ {L:List (Nat × RowC)}{k:Nat},(zBt L k=true→zAU (idK L) k=some k)∧(zBt L k=false→zAU (idK L) k=none)
 | [],k=>by simp [zBt,idK,zAU]
 | (j, c)::L, k=>by
   obtain⟨h1,h2⟩:=zDz (L:=L) (k:=k)
   simp only[zBt,List.any_cons,Bool.or_eq_true,beq_iff_eq,Bool.or_eq_false_iff,beq_eq_false_iff_ne] at h1 h2 ⊢
   simp only[idK,List.map_cons,zAU]
   constructor
   ·intro h
    by_cases e:k=j
    ·rw[if_pos e,e]
    ·rw[if_neg e]
     rcases h with h|h
     ·exact absurd h.symm e
     ·exact h1 h
   ·rintro ⟨h,h'⟩
    rw[if_neg (fun e=>h e.symm)]
    exact h2 h'
theorem zKD {P:Program}{f:FuncId}{fn:Func}{c:Code}{n:Nat}{args:List RV}(L:List (Nat × RowC)) (r:AV) (rv:ResultVar) (hf:P.funcs[f]? = some fn) (hb:fn.body=some c) (hc:callable P f=true) (hn:fn.ntmps=n) (hres:fn.results.toList=[rv]) (hargs:args.length≤n)
 (hap:apart (idK L)=true) (hsm:(L.all fun x=>decide (x.1<1000))=true) (h:∀ C:Ctx,C.rd=none∧C.X=XS.none→awp P C c (zP2 P rv L r) (st n (argL 0 args) (fun _=>0) [])):zLK P f args L r:=by
 refine⟨hc,fun w R vs hR hV=>?_⟩
 have hlen:=RV.relV_length hV
 simp only[Array.length_toList] at hlen
 let C:Ctx:={ w0:=w,R0:=R,bor:=fun _=>False,pin:=fun _=>none }
 let p:Plan:={ R:=R,β:=fun _=>none,γ:=fun _=>1 }
 have hs:SR C p (st n (argL 0 args) (fun _=>0) []) { tmps:=vs++Array.replicate (fn.ntmps-vs.size) undef,defers:=[] } w:={
  base:=⟨rfl,rfl,rfl,Nat.le_refl _,fun _ _ _ _=>rfl⟩
  r0:=fun _ h=>h
  rn:=fun _ h=>.inl h
  rb:=hR
  tm:=fun t=>by
   show (look (argL 0 args) t).rel _ _ _ _
   by_cases hmem:∃ x,(t,x)∈argL 0 args
   ·cases e:args[t]? with
    | none =>
      obtain⟨x,hx⟩:=hmem
      obtain⟨i,y,h1,h2⟩:=zB4 _ hx
      simp only[Nat.zero_add,Prod.mk.injEq] at h1
      rw[← h1.1,e] at h2;cases h2
    | some x =>
      obtain⟨u,hu,hx⟩:=RV.relV_get hV e
      have:(vs++Array.replicate (fn.ntmps-vs.size) undef).getD t undef=u:=by
       have ht:t<vs.size:=by have:=(List.getElem?_eq_some_iff.1 hu).1;simpa using this
       rw[Array.getD_eq_getD_getElem?,Array.getElem?_append_left ht]
       simp only[Array.getElem?_toList] at hu
       rw[hu];rfl
      have e2:=zCA (k:=0) e
      rw[Nat.zero_add] at e2
      rw[this,e2]
      simpa only[AV.rel] using hx
   ·rw[zCg hmem]
    exact AV.rel_un _ _ _ _
  sz:=by simp only[Array.size_append,Array.size_replicate,st];omega
  ex:=zFM (fun _ h=>h.elim (fun h=>h.elim) (fun h=>h.elim))
  rw:=fun k=>by simp [st,zAz,zrl,p]
  bl:=fun k b h=>by simp [p] at h
  ij:=fun k k' b h=>by simp [p] at h
  cap:=fun k=>by simp [p,maxLen]
  pn:=fun k x h=>by cases h
  lk:=fun j km n l cur h _=>by cases h }
 refine callsIn_wide.1 (callsIn_of_wp_marks (n:=0) hf hb trivial (wpIn_mono (h C ⟨rfl,rfl⟩ _ w ⟨p,hs⟩) ?_))
 rintro e a' w' ⟨s',⟨p',hs'⟩,hq⟩
 have fin:∀ (a':Act) (w':World) (_:SR C p' s' a' w'),(resC (resA P s' rv) fun v=>zBg (idK L) s'.ver v=some r∧zC0 (idK L) s' (idK L) L)→∃ v,(results fn a'.tmps).run P w' = .ok v w'∧∃ v',∃ q:Plan,Ending.returned v = .returned v'∧Below w.heap.size w w'∧(∀ b,R b→q.R b)∧(∀ b,q.R b→R b∨w.heap.size≤b)∧(∀ b,q.R b→b<w'.heap.size) ∧
  (∀ k b,q.β k=some b→w.heap.size≤b∧b<w'.heap.size∧¬ q.R b∧zBt L k=true)∧(∀ k k' b,q.β k=some b→q.β k'=some b→k=k')∧(∀ k,q.γ k≤maxLen)∧(∀ k,zBt L k=false→q.γ k=1) ∧
  (∀ k,zBt L k=true→zrl w' q (fun _=>0) k (zAG L k))∧r.rel w' q (fun _=>0) v':=fun a' w' hs' ⟨hp,hv,hlo⟩=>by
  obtain⟨u,hu,hrel⟩:=zDD hs' rv hp
  have hm:(fn.results.mapM (zEZ a'.tmps)).run P w' = .ok #[u] w':=by
   rw[Array.mapM_eq_mapM_toList,hres]
   simp only[Sem.run_map,List.mapM_cons,List.mapM_nil,Sem.run_bind,hu,Result.andThen_ok,Sem.run_pure]
  obtain⟨g1,g2⟩:=zFl hlo
  have hβ:∀ k b,(zlp (idK L) p').β k=some b→zBt L k=true∧p'.β k=some b:=fun k b hb=>by
   cases e:zBt L k
   ·simp [zlp,zDz.2 e] at hb
   ·simp only[zlp,zDz.1 e] at hb;exact⟨rfl,hb⟩
  refine⟨u,by rw[zBI,Sem.run_bind,hm];simp,u,zlp (idK L) p',rfl,⟨hs'.base.os,hs'.base.tape,hs'.base.output,hs'.base.size,fun k hk=>hs'.base.block k hk (fun h=>h) (fun h=>h)⟩,hs'.r0,fun b hb=>?_,hs'.rb,fun k b hb=>?_,fun k k' b hb hb'=>hs'.ij k k' b (hβ k b hb).2 (hβ k' b hb').2,fun k=>?_,fun k hk=>?_,fun k hk=>?_,zNK hap _ _ _ hv hrel⟩
  ·rcases hs'.rn b hb with h|h|h
   ·exact .inl h
   ·exact .inr h
   ·exact h.elim
  ·obtain⟨h1,h2⟩:=hβ k b hb
   obtain⟨g3,g4,g5⟩:=hs'.bl k b h2
   exact⟨g5.resolve_right (fun h=>h.elim (fun h=>h.2) fun h=>h),g3,g4,h1⟩
  ·cases e:zBt L k
   ·simp [zlp,zDz.2 e,maxLen]
   ·simp only[zlp,zDz.1 e];exact hs'.cap k
  ·simp [zlp,zDz.2 hk]
  ·exact zKM hap (zDz.1 hk) (g1 k k (zDz.1 hk)) (hs'.rw k)
 cases e with
 | normal=>exact hs'.leave fun a'' w'' _ hs''=>fin a'' w'' hs'' hq
 | ret=>exact hs'.leave fun a'' w'' _ hs''=>fin a'' w'' hs'' hq
 | _=>exact hq.elim
def zHT (vs:Nat→Nat):List (Nat × Nat)→Nat→Nat
 | []=>vs
 | (_,ck)::l=>zHT (upd vs ck (vs ck+1)) l
def zOV (ρ:List (Nat × Nat)) (ver:Nat→Nat) (L:List (Nat × RowC)):List (Nat × Nat)→List (Nat × RowC)→List (Nat × RowC)
 | [],cs=>cs
 | (pk,ck)::l,cs=>zOV ρ ver L l (insc cs ck (zCq ρ ver (zAG L pk)))
theorem zF2:∀ {l:List (Nat × Nat)}{ck:Nat},(zLk l ck).isNone=true→zLk l ck=none:=fun h=>Option.isNone_iff_eq_none.1 h
theorem zIn:∀ {ρ:List (Nat × Nat)}{vs:Nat→Nat},apart ρ=true→zHT vs ρ=zCD ρ vs
 | [],vs,_=>by funext k;rfl
 | (pk, ck)::l, vs, h=>by
   simp only[apart,Bool.and_eq_true] at h
   funext k
   rw[zHT,zIn h.2]
   unfold zCD
   simp only[zLk]
   by_cases e:k=ck
   ·subst e
    rw[if_pos rfl,zF2 h.1.2,zus]
   ·rw[if_neg e,zuo _ _ e]
theorem zNC {σ:List (Nat × Nat)}{ver:Nat→Nat}{L:List (Nat × RowC)}:∀ {ρ:List (Nat × Nat)}{cs:List (Nat × RowC)}{k:Nat},apart ρ=true →
 zAG (zOV σ ver L ρ cs) k=match zLk ρ k with|some pk=>zCq σ ver (zAG L pk)|none=>zAG cs k
 | [],cs,k,_=>rfl
 | (pk, ck)::l, cs, k, h=>by
   simp only[apart,Bool.and_eq_true] at h
   rw[zOV,zNC h.2]
   simp only[zLk]
   by_cases e:k=ck
   ·subst e
    rw[if_pos rfl,zF2 h.1.2]
    simp [zAp]
   ·rw[if_neg e]
    cases zLk l k with
    | none=>simp [zAp,e]
    | some pk'=>rfl
section
variable {n:Nat}{l:List (Nat × AV)}{vs:Nat→Nat}{cs:List (Nat × RowC)}
theorem zJW {P:Program}{F:FuncId}{args:List RV}{L:List (Nat × RowC)}{caps:List AV}{r:AV}{d:Option Nat}{f:AV}{xs:List AV}{K:AS→Prop}(h:zLK P F args L r) (ρ:List (Nat × Nat)) (hf:zAf f=some (F,caps))
 (hp:AV.pureL (xs++caps)=true) (he:zAc (st n l vs cs).rows (xs++caps)=args) (ha:apart ρ=true) (hs:zBM ρ L=true) (hsm:zMq ρ=true)
 (hK:K (AS.put (st n l (zHT vs ρ) (zOV ρ (zHT vs ρ) L ρ cs)) d (zBL ρ (zHT vs ρ) r))):zJX P false (st n l vs cs) d f xs K:=by
 refine .inr (.inl ⟨rfl,.inr (.inr (.inr ⟨F,caps,args,ρ,L,r,hf,hp,he▸zAS _,h,ha,hs,hsm,?_⟩))⟩)
 have e:({ st n l vs cs with rows:=newRows ρ L (st n l vs cs).rows }:AS)=st n l (zHT vs ρ) (zOV ρ (zHT vs ρ) L ρ cs):=by
  unfold st
  simp only[AS.mk.injEq,true_and]
  funext k
  rw[zNC ha,zIn ha]
  unfold newRows zCD
  have hv:vers (fun k=>(⟨vs k,zAG cs k⟩:Row))=vs:=rfl
  rw[hv]
  cases zLk ρ k<;>rfl
 rw[e]
 have hv:zCD ρ (st n l vs cs).ver=zHT vs ρ:=by rw[zIn ha];rfl
 rw[hv]
 exact hK
end
attribute [go_sem] zOS zIm zHT zOV idK
end Go.Oc

namespace Go.Proofs.YtgfbenanljjgaaaGreat.Du
open Go Go.Oc
set_option maxRecDepth 8000
structure Bd where
 b:Int
 lo:Int
 hi:Int
structure Am where
 at_:Int
 beds:List Bd
def bedR (x:Bd):List RV:=[i64 x.b,i64 x.lo,i64 x.hi]
abbrev bedV (x:Bd):RV:=.ag [i64 x.b,i64 x.lo,i64 x.hi]
abbrev zBJ (l:List Bd):RV:=.sl 3 (l.map bedR)
def aimR (a:Am):List RV:=[i64 a.at_,zBJ a.beds]
abbrev aimV (a:Am):RV:=.ag [i64 a.at_,zBJ a.beds]
abbrev zAl (l:List Am):RV:=.sl 2 (l.map aimR)
abbrev lawV (d:Int) (l:List Am):RV:=.ag [i64 d,zAl l]
abbrev chV (a:Am) (d:Int):RV:=.ag [i64 a.at_,zBJ a.beds,i64 d]
def I64 (n:Int):Prop:=-9223372036854775808≤n∧n≤9223372036854775807
theorem zOA (n a b:Int):zAA Tryz.prog 132 [i64 n,.rp [i64 a],.rp [i64 b]] (.bo (decide (n<a) || decide (b<n))):=by
 refine zas (rs:=[.bo (decide (n<a) || decide (b<n))]) [.tmp 4] Tryz.func132 rfl (by kernel_rfl) Tryz.ntmps132 rfl (by simp) rfl fun C vs=>?_
 apply zq
 refine zb fun K hK=>?_;simp only[go_sem];apply hK
 apply zq
 refine zb fun K hK=>?_;simp only[go_sem]
 refine⟨fun h=>?_,fun h=>?_⟩ <;>
 ·skip
  apply hK;apply ze;simp only[go_sem]
  try simp [h]
theorem zNQ (p:Int→Bool) (f:Nat) (caps:List RV) (l:List Int) (h:∀ x∈l,zAA Tryz.prog f (i64 x::caps) (.bo (p x))):zAA Tryz.prog 159 [ints l,.fn f caps] (i64 (zAh p l)):=by
 refine zas (rs:=[i64 (zAh p l)]) [.tmp 4] Tryz.func159 rfl (by kernel_rfl) Tryz.ntmps159 rfl (by simp) rfl fun C vs=>?_
 apply zq
 refine zb fun K hK=>?_;simp only[go_sem];apply hK
 repeat apply zq
 refine zb fun K hK=>?_;simp only[go_sem]
 intro hl
 apply hK;apply zd
 refine zup (n:=19) l.length (fun i vs=>[(0,.r (ints l)),(1,.r (.fn f caps)),(7,.r (i64 l.length)),(8,.r (i64 i))]) (fun _=>[])
  (fun i=>zAh p l=if zAh p (l.drop i)<0 then -1 else i+zAh p (l.drop i)) 0 (zfo [] ?_ rfl) (Nat.zero_le _) ?_ ?_
 ·try simp only[go_sem]
 ·simp only[List.drop_zero]
  have:=zCh p l
  split
  ·omega
  ·simp
 ·intro i vs hi hI
  apply zq
  refine zb fun K hK=>?_;simp only[go_sem];apply hK
  apply zq
  apply zc rfl<;>intro hc<;>(try simp only[go_sem] at hc)
  ·obtain⟨x,hx⟩:=zol hc
   rw[zAH hx] at hI
   apply zx
   apply zq
   apply zd
   apply zq
   refine zb fun K hK=>?_;simp only[go_sem];apply hK
   apply zq
   refine zb fun K hK=>?_;simp only[go_sem,hx,hc,bedR,aimR]
   refine zh (h x (zmo hx)) rfl (by simp only[go_sem,i64,ints]) (by simp only[go_sem,i64,ints]) ?_
   (try simp only[go_sem]);apply hK
   apply zc rfl<;>intro hc<;>(try simp only[go_sem] at hc)
   ·apply zq
    refine zb fun K hK=>?_;simp only[go_sem];apply hK;apply ze;simp only[go_sem]
    simp [hI,zAh,hc]
   ·apply zx
    try simp only[go_sem]
    refine zb fun K hK=>?_;simp only[go_sem];(try simp (disch:=omega) only[zI]);apply hK
    try simp only[go_sem]
    refine⟨‹_›,?_,zfo [] ?_ rfl⟩
    ·rw[hI]
     simp only[zAh,hc,Bool.false_eq_true,if_false]
     have:=zCh p (l.drop (i+1))
     (repeat' split)<;>omega
    ·try simp only[go_sem]
  ·apply zf;simp only[go_sem]
   apply zq
   refine zb fun K hK=>?_;simp only[go_sem];apply hK;apply ze;simp only[go_sem]
   have:l.drop i=[]:=List.drop_eq_nil_of_le (by omega)
   simp [hI,this,zAh]
theorem zEj (p:Int→Bool) (f:Nat) (caps:List RV) (l:List Int) (h:∀ x∈l,zAA Tryz.prog f (i64 x::caps) (.bo (p x))):zAA Tryz.prog 116 [ints l,.fn f caps] (.bo (l.any p)):=by
 refine zas (rs:=[.bo (l.any p)]) [.tmp 4] Tryz.func116 rfl (by kernel_rfl) Tryz.ntmps116 rfl (by simp) rfl fun C vs=>?_
 apply zq
 refine zb fun K hK=>?_;simp only[go_sem];apply hK
 apply zq
 refine zb fun K hK=>?_;simp only[go_sem]
 refine zh (zNQ p f caps l h) rfl (by simp only[go_sem,i64,ints]) (by simp only[go_sem,i64,ints]) ?_
 (try simp only[go_sem]);apply hK;apply ze;simp only[go_sem];rw[← zEJ]
def zAT (a b:Int) (l:List Int):Bool:=l.all fun n=>decide (a≤n)&&decide (n≤b)
theorem zEV (a b:Int) (l:List Int):(!(l.any fun n=>decide (n<a) || decide (b<n)))=zAT a b l:=by
 unfold zAT
 rw[List.not_any_eq_all_not]
 congr 1
 funext n
 by_cases h1:n<a<;>by_cases h2:b<n<;>simp [h1,h2]<;>omega
theorem zDl (a b:Int) (l:List Int):zAA Tryz.prog 94 [i64 a,i64 b,ints l] (.bo (zAT a b l)):=by
 refine zas (rs:=[.bo (zAT a b l)]) [.tmp 6] Tryz.func94 rfl (by kernel_rfl) Tryz.ntmps94 rfl (by simp) rfl fun C vs=>?_
 apply zq
 refine zb fun K hK=>?_;simp only[go_sem];apply hK
 apply zq
 refine zb fun K hK=>?_;simp only[go_sem]
 refine zh (zEj (fun n=>decide (n<a) || decide (b<n)) 132 [.rp [i64 a],.rp [i64 b]] l fun x _=>zOA x a b) rfl (by simp only[go_sem,i64,ints]) (by simp only[go_sem,i64,ints]) ?_
 (try simp only[go_sem]);apply hK;apply ze;simp only[go_sem];rw[← zEV]
theorem zQO (p:Bd→Bool) (f:Nat) (caps:List RV) (l:List Bd) (h:∀ x∈l,zAA Tryz.prog f (bedV x::caps) (.bo (p x))):zAA Tryz.prog 166 [zBJ l,.fn f caps] (i64 (zAh p l)):=by
 refine zas (rs:=[i64 (zAh p l)]) [.tmp 4] Tryz.func166 rfl (by kernel_rfl) Tryz.ntmps166 rfl (by simp) rfl fun C vs=>?_
 apply zq
 refine zb fun K hK=>?_;simp only[go_sem];apply hK
 repeat apply zq
 refine zb fun K hK=>?_;simp only[go_sem]
 intro hl
 apply hK;apply zd
 refine zup (n:=19) l.length (fun i vs=>[(0,.r (zBJ l)),(1,.r (.fn f caps)),(7,.r (i64 l.length)),(8,.r (i64 i))]) (fun _=>[])
  (fun i=>zAh p l=if zAh p (l.drop i)<0 then -1 else i+zAh p (l.drop i)) 0 (zfo [] ?_ rfl) (Nat.zero_le _) ?_ ?_
 ·try simp only[go_sem]
 ·simp only[List.drop_zero]
  have:=zCh p l
  split
  ·omega
  ·simp
 ·intro i vs hi hI
  apply zq
  refine zb fun K hK=>?_;simp only[go_sem];apply hK
  apply zq
  apply zc rfl<;>intro hc<;>(try simp only[go_sem] at hc)
  ·obtain⟨x,hx⟩:=zol hc
   rw[zAH hx] at hI
   apply zx
   apply zq
   apply zd
   apply zq
   refine zb fun K hK=>?_;simp only[go_sem];apply hK
   apply zq
   refine zb fun K hK=>?_;simp only[go_sem,hx,hc,bedR,aimR]
   refine zh (h x (zmo hx)) rfl (by simp only[go_sem,i64,ints]) (by simp only[go_sem,i64,ints]) ?_
   (try simp only[go_sem]);apply hK
   apply zc rfl<;>intro hc<;>(try simp only[go_sem] at hc)
   ·apply zq
    refine zb fun K hK=>?_;simp only[go_sem];apply hK;apply ze;simp only[go_sem]
    simp [hI,zAh,hc]
   ·apply zx
    try simp only[go_sem]
    refine zb fun K hK=>?_;simp only[go_sem];(try simp (disch:=omega) only[zI]);apply hK
    try simp only[go_sem]
    refine⟨‹_›,?_,zfo [] ?_ rfl⟩
    ·rw[hI]
     simp only[zAh,hc,Bool.false_eq_true,if_false]
     have:=zCh p (l.drop (i+1))
     (repeat' split)<;>omega
    ·try simp only[go_sem]
  ·apply zf;simp only[go_sem]
   apply zq
   refine zb fun K hK=>?_;simp only[go_sem];apply hK;apply ze;simp only[go_sem]
   have:l.drop i=[]:=List.drop_eq_nil_of_le (by omega)
   simp [hI,this,zAh]
theorem zKr (p:Bd→Bool) (f:Nat) (caps:List RV) (l:List Bd) (h:∀ x∈l,zAA Tryz.prog f (bedV x::caps) (.bo (p x))):zAA Tryz.prog 134 [zBJ l,.fn f caps] (.bo (l.any p)):=by
 refine zas (rs:=[.bo (l.any p)]) [.tmp 4] Tryz.func134 rfl (by kernel_rfl) Tryz.ntmps134 rfl (by simp) rfl fun C vs=>?_
 apply zq
 refine zb fun K hK=>?_;simp only[go_sem];apply hK
 apply zq
 refine zb fun K hK=>?_;simp only[go_sem]
 refine zh (zQO p f caps l h) rfl (by simp only[go_sem,i64,ints]) (by simp only[go_sem,i64,ints]) ?_
 (try simp only[go_sem]);apply hK;apply ze;simp only[go_sem];rw[← zEJ]
theorem zQP (p:Am→Bool) (f:Nat) (caps:List RV) (l:List Am) (h:∀ x∈l,zAA Tryz.prog f (aimV x::caps) (.bo (p x))):zAA Tryz.prog 131 [zAl l,.fn f caps] (i64 (zAh p l)):=by
 refine zas (rs:=[i64 (zAh p l)]) [.tmp 4] Tryz.func131 rfl (by kernel_rfl) Tryz.ntmps131 rfl (by simp) rfl fun C vs=>?_
 apply zq
 refine zb fun K hK=>?_;simp only[go_sem];apply hK
 repeat apply zq
 refine zb fun K hK=>?_;simp only[go_sem]
 intro hl
 apply hK;apply zd
 refine zup (n:=19) l.length (fun i vs=>[(0,.r (zAl l)),(1,.r (.fn f caps)),(7,.r (i64 l.length)),(8,.r (i64 i))]) (fun _=>[])
  (fun i=>zAh p l=if zAh p (l.drop i)<0 then -1 else i+zAh p (l.drop i)) 0 (zfo [] ?_ rfl) (Nat.zero_le _) ?_ ?_
 ·try simp only[go_sem]
 ·simp only[List.drop_zero]
  have:=zCh p l
  split
  ·omega
  ·simp
 ·intro i vs hi hI
  apply zq
  refine zb fun K hK=>?_;simp only[go_sem];apply hK
  apply zq
  apply zc rfl<;>intro hc<;>(try simp only[go_sem] at hc)
  ·obtain⟨x,hx⟩:=zol hc
   rw[zAH hx] at hI
   apply zx
   apply zq
   apply zd
   apply zq
   refine zb fun K hK=>?_;simp only[go_sem];apply hK
   apply zq
   refine zb fun K hK=>?_;simp only[go_sem,hx,hc,bedR,aimR]
   refine zh (h x (zmo hx)) rfl (by simp only[go_sem,i64,ints]) (by simp only[go_sem,i64,ints]) ?_
   (try simp only[go_sem]);apply hK
   apply zc rfl<;>intro hc<;>(try simp only[go_sem] at hc)
   ·apply zq
    refine zb fun K hK=>?_;simp only[go_sem];apply hK;apply ze;simp only[go_sem]
    simp [hI,zAh,hc]
   ·apply zx
    try simp only[go_sem]
    refine zb fun K hK=>?_;simp only[go_sem];(try simp (disch:=omega) only[zI]);apply hK
    try simp only[go_sem]
    refine⟨‹_›,?_,zfo [] ?_ rfl⟩
    ·rw[hI]
     simp only[zAh,hc,Bool.false_eq_true,if_false]
     have:=zCh p (l.drop (i+1))
     (repeat' split)<;>omega
    ·try simp only[go_sem]
  ·apply zf;simp only[go_sem]
   apply zq
   refine zb fun K hK=>?_;simp only[go_sem];apply hK;apply ze;simp only[go_sem]
   have:l.drop i=[]:=List.drop_eq_nil_of_le (by omega)
   simp [hI,this,zAh]
theorem zKs (p:Am→Bool) (f:Nat) (caps:List RV) (l:List Am) (h:∀ x∈l,zAA Tryz.prog f (aimV x::caps) (.bo (p x))):zAA Tryz.prog 92 [zAl l,.fn f caps] (.bo (l.any p)):=by
 refine zas (rs:=[.bo (l.any p)]) [.tmp 4] Tryz.func92 rfl (by kernel_rfl) Tryz.ntmps92 rfl (by simp) rfl fun C vs=>?_
 apply zq
 refine zb fun K hK=>?_;simp only[go_sem];apply hK
 apply zq
 refine zb fun K hK=>?_;simp only[go_sem]
 refine zh (zQP p f caps l h) rfl (by simp only[go_sem,i64,ints]) (by simp only[go_sem,i64,ints]) ?_
 (try simp only[go_sem]);apply hK;apply ze;simp only[go_sem];rw[← zEJ]
def zAb (b:Int):Bool:=decide (b=125) || decide (b=225) || (decide (100≤b)&&decide (b≤499)&&decide (1≤b % 100)&&decide (b % 100≤20))
theorem zUu {b:Int}(h:b≤0):b.tdiv 100 = -((-b) / 100):=by
 rw[← Int.tdiv_eq_ediv_of_nonneg (by omega),Int.neg_tdiv,Int.neg_neg]
theorem zPX {b:Int}(h:I64 b):IntKind.i64.wrap (b.tdiv 100)=b.tdiv 100:=by
 unfold I64 at h
 by_cases h0:0≤b
 ·rw[Int.tdiv_eq_ediv_of_nonneg h0,zI]<;>omega
 ·rw[zUu (by omega),zI]<;>omega
theorem zTd {b:Int}(h:b<100):b.tdiv 100≤0:=by
 by_cases h0:0≤b
 ·rw[Int.tdiv_eq_ediv_of_nonneg h0];omega
 ·rw[zUu (by omega)];omega
theorem zK3 (b:Int):(zAT 1 4 [b.tdiv 100]&&zAT 1 20 [b.tmod 100] || b == 125 || b == 225)=zAb b:=by
 unfold zAb zAT
 by_cases h:b<100
 ·have h1:=zTd h
  have e1:decide (1≤b.tdiv 100)=false:=by simp;omega
  have e2:decide (100≤b)=false:=by simp;omega
  have e3:decide (b=125)=false:=by simp;omega
  have e4:decide (b=225)=false:=by simp;omega
  have e5:(b == 125)=false:=by simp;omega
  have e6:(b == 225)=false:=by simp;omega
  simp [e1,e2,e3,e4,e5,e6]
 ·rw[Int.tdiv_eq_ediv_of_nonneg (by omega),Int.tmod_eq_emod_of_nonneg (by omega)]
  have e:(decide (1≤b / 100)&&decide (b / 100≤4))=(decide (100≤b)&&decide (b≤499)):=by
   by_cases h2:b≤499
   ·have:b / 100≤4:=by omega
    have:1≤b / 100:=by omega
    have:100≤b:=by omega
    simp [*]
   ·have:¬ b / 100≤4:=by omega
    simp [*]
  simp only[List.all_cons,List.all_nil,Bool.and_true,e]
  have e1:(b == 125)=decide (b=125):=by rw[Bool.eq_iff_iff];simp
  have e2:(b == 225)=decide (b=225):=by rw[Bool.eq_iff_iff];simp
  rw[e1,e2]
  cases decide (b=125)<;>cases decide (b=225)<;>simp [Bool.and_assoc]
theorem zNO (b:Int) (hb:I64 b):zAA Tryz.prog 165 [i64 b] (.bo (zAb b)):=by
 have hq:=zPX hb
 refine zas (rs:=[.bo (zAb b)]) [.tmp 2] Tryz.func165 rfl (by kernel_rfl) Tryz.ntmps165 rfl (by simp) rfl fun C vs=>?_
 repeat apply zq
 refine zb fun K hK=>?_;simp only[go_sem];(try simp (disch:=omega) only[zI]);repeat first|intro _|refine⟨by omega,?_⟩
 apply hK;clear hK K
 repeat apply zq
 refine zb fun K hK=>?_;simp only[go_sem,hq];(try simp (disch:=omega) only[zI]);repeat first|intro _|refine⟨by omega,?_⟩
 apply hK;clear hK K
 repeat apply zq
 refine zb fun K hK=>?_;simp only[go_sem];(try simp (disch:=omega) only[zI])
 refine zh (zDl 1 4 [b.tdiv 100]) rfl (by simp only[go_sem,i64,ints]) (by simp only[go_sem,i64,ints]) ?_
 (try simp only[go_sem]);(try simp (disch:=omega) only[zI])
 have hw:=zK3 b
 refine⟨fun h1=>?_,fun h1=>?_⟩
 ·refine zh (zDl 1 20 [b.tmod 100]) rfl (by simp only[go_sem,i64,ints]) (by simp only[go_sem,i64,ints]) ?_
  (try simp only[go_sem]);(try simp (disch:=omega) only[zI])
  repeat' first|intro _|refine And.intro ?_ ?_
  all_goals first|omega|skip
  all_goals (refine hK _ ?_;clear hK K)
  all_goals (apply ze;simp only[go_sem])
  all_goals (rw[← hw];clear hw;simp [*])
 ·repeat' first|intro _|refine And.intro ?_ ?_
  all_goals first|omega|skip
  all_goals (refine hK _ ?_;clear hK K)
  all_goals (apply ze;simp only[go_sem])
  all_goals (rw[← hw];clear hw;simp [*])
def zAD (b:Int):Int:=b / 100*(b % 100)
theorem zIZ {b:Int}(h0:0≤b) (h1:b≤499):0≤zAD b∧zAD b≤396:=by
 unfold zAD
 have h2:0≤b / 100:=by omega
 have h3:b / 100≤4:=by omega
 refine⟨Int.mul_nonneg h2 (by omega),?_⟩
 have:=Int.mul_le_mul h3 (show b % 100≤99 by omega) (by omega) (by omega)
 omega
theorem zPk {b:Int}(h0:0≤b) (h1:b≤499):IntKind.i64.wrap (b.tdiv 100*b.tmod 100)=zAD b:=by
 have:=zIZ h0 h1
 rw[Int.tdiv_eq_ediv_of_nonneg h0,Int.tmod_eq_emod_of_nonneg h0]
 show IntKind.i64.wrap (zAD b)=_
 rw[zI]<;>omega
def loS (l:List Bd):Int:=(l.map (·.lo)).sum
def hiS (l:List Bd):Int:=(l.map (·.hi)).sum
theorem zEI (l:List Bd) (x:Bd):loS (l++[x])=loS l+x.lo:=by simp [loS]
theorem zI2 (l:List Bd) (x:Bd):hiS (l++[x])=hiS l+x.hi:=by simp [hiS]
def Small (l:List Bd):Prop:=∀ x∈l,(0≤x.lo∧x.lo≤6000)∧0≤x.hi∧x.hi≤6000
theorem zCY:∀ {l:List Bd},Small l→(0≤loS l∧loS l≤6000*l.length)∧0≤hiS l∧hiS l≤6000*l.length
 | [],_=>by simp [loS,hiS]
 | x::l, h=>by
   have h1:=h x (by simp)
   have h2:=zCY (l:=l) fun y hy=>h y (by simp [hy])
   simp only[loS,hiS,List.map_cons,List.sum_cons,List.length_cons] at h2 ⊢
   omega
theorem Small.take {l:List Bd}(h:Small l) (i:Nat):Small (l.take i):=fun x hx=>h x (List.mem_of_mem_take hx)
theorem zPZ (a:Int) (l:List Bd) (d:Int) (hs:Small l) (hl:l.length≤1000):zAA Tryz.prog 97 [.ag [i64 a,zBJ l,i64 d]] (.ag [i64 (loS l),i64 (hiS l)]):=by
 refine zas (rs:=[.ag [i64 (loS l),i64 (hiS l)]]) [.cell 2 48] Tryz.func97 rfl (by kernel_rfl) Tryz.ntmps97 rfl (by simp) rfl fun C vs=>?_
 apply zq
 refine zb fun K hK=>?_;simp only[go_sem];apply hK;apply zw (zk [1,2]);simp only[go_sem]
 repeat apply zq
 refine zb fun K hK=>?_;simp only[go_sem]
 intro _
 apply hK;apply zw (zk [2,7,8,9]);simp only[go_sem];apply zd
 refine zup (n:=29) l.length (fun i vs=>[(2,.pt 2 (vs 2) 0),(7,.r (zBJ l)),(8,.r (i64 l.length)),(9,.r (i64 i))])
  (fun i=>[(2,.box [.r (i64 (loS (l.take i))),.r (i64 (hiS (l.take i)))])]) (fun _=>True) 0 (zfo [1] ?_ ?_) (Nat.zero_le _) trivial ?_
 ·try simp only[go_sem]
 ·try simp only[go_sem]
  simp [loS,hiS]
 ·intro i vs hi _
  apply zq
  refine zb fun K hK=>?_;simp only[go_sem];apply hK
  apply zq
  apply zc rfl<;>intro hc<;>(try simp only[go_sem] at hc)
  ·obtain⟨x,hx⟩:=zol hc
   have hb:=zCY (hs.take (i+1))
   have ht:=zto hx
   have hlt:(l.take (i+1)).length≤1000:=by rw[List.length_take];omega
   rw[ht,zEI,zI2] at hb
   rw[ht] at hlt
   apply zx
   apply zq
   apply zd
   apply zq
   refine zb fun K hK=>?_;simp only[go_sem,hx,hc,bedR];apply hK;apply zw (zk [2,4,7,8,9]);simp only[go_sem]
   refine zAF [(2,some 2),(4,some 4)] follows (by decide +kernel) (by kernel_rfl) (by simp only[zAO,List.mem_cons,List.not_mem_nil,forall_eq_or_imp,Oc.keyOf,go_sem];simp) fun K hK=>?_
   simp only[go_sem];(try simp (disch:=omega) only[zI]);apply hK;apply zw (zk [2,7,8,9]);simp only[go_sem];refine zb fun K hK=>?_;simp only[go_sem];(try simp (disch:=omega) only[zI]);apply hK
   try simp only[go_sem]
   refine⟨hc,zfo [4] ?_ ?_⟩
   ·try simp only[go_sem]
   ·try simp only[go_sem]
    rw[ht,zEI,zI2]
  ·apply zf;simp only[go_sem]
   apply zq
   refine zb fun K hK=>?_;simp only[go_sem];apply hK;apply zw (zk [2]);simp only[go_sem];apply ze;simp only[go_sem]
   have:l.take i=l:=List.take_of_length_le (by omega)
   simp [this]
def zCK:Option Int→List Bd→Bool
 | _,[]=>true
 | p,x::l=>(decide (x.b=0) || zAb x.b)&&(match p with|none=>true|some q=>decide (q<x.b))&&zCK (some x.b) l
def zGG (l:List Bd):Nat→Option Int
 | 0=>none
 | i+1=>(l[i]?).map (·.b)
def Wf (l:List Bd):Prop:=∀ x∈l,I64 x.b∧I64 x.lo∧I64 x.hi
theorem zO7 (a:Int) (l:List Bd) (d:Int) (ha:I64 a) (hw:Wf l):zAA Tryz.prog 133 [.ag [i64 a,zBJ l,i64 d]] (.bo (zAb a && !l.isEmpty&&zCK none l)):=by
 refine zas (rs:=[.bo (zAb a && !l.isEmpty&&zCK none l)]) [.tmp 2] Tryz.func133 rfl (by kernel_rfl) Tryz.ntmps133 rfl (by simp) rfl fun C vs=>?_
 apply zq
 refine zb fun K hK=>?_;simp only[go_sem];apply hK;apply zw (zk [1]);simp only[go_sem]
 repeat apply zq
 refine zb fun K hK=>?_;simp only[go_sem]
 refine zh (zNO a ha) rfl (by simp only[go_sem,i64,ints]) (by simp only[go_sem,i64,ints]) ?_
 (try simp only[go_sem])
 cases hA:zAb a
 ·try simp only[go_sem]
  apply hK
  apply zc rfl<;>intro hc<;>(try simp only[go_sem] at hc)
  apply zq
  refine zb fun K hK=>?_;simp only[go_sem];apply hK;apply ze;simp only[go_sem]
  simp [hA]
 try simp only[go_sem]
 intro _
 cases hE:l.isEmpty
 case true =>
  have h0:l=[]:=List.isEmpty_iff.1 hE
  subst h0
  try simp only[go_sem]
  apply hK
  apply zc rfl<;>intro hc<;>(try simp only[go_sem] at hc)
  apply zq
  refine zb fun K hK=>?_;simp only[go_sem];apply hK;apply ze;simp only[go_sem]
  simp
 have hne:((l.length:Int) == 0)=false:=by
  cases l with
  | nil=>simp at hE
  | cons=>simp;omega
 rw[hne]
 apply hK;apply zw (zk [1,16]);simp only[go_sem]
 apply zc rfl<;>intro hc<;>(try simp only[go_sem] at hc)
 apply zx
 try simp only[go_sem]
 repeat apply zq
 refine zb fun K hK=>?_;simp only[go_sem]
 intro hl9
 apply hK;apply zw (zk [1,19,20,21]);simp only[go_sem];apply zd
 refine zup (n:=53) l.length (fun i vs=>[(1,.pt 1 (vs 1) 0),(19,.r (zBJ l)),(20,.r (i64 l.length)),(21,.r (i64 i))])
  (fun i=>[(1,.box [.r (i64 a),.r (zBJ l),.r (i64 d)])]) (fun i=>zCK none l=zCK (zGG l i) (l.drop i)) 0 (zfo [] ?_ ?_) (Nat.zero_le _) rfl ?_
 ·try simp only[go_sem]
 ·try simp only[go_sem]
 ·intro i vs hi hI
  apply zq
  refine zb fun K hK=>?_;simp only[go_sem];apply hK
  apply zq
  apply zc rfl<;>intro hc<;>(try simp only[go_sem] at hc)
  ·obtain⟨x,hx⟩:=zol hc
   rw[zAH hx] at hI
   obtain⟨hxb,_,_⟩:=hw x (zmo hx)
   have hB:zAA Tryz.prog 165 [i64 x.b] (.bo (zAb x.b)):=zNO x.b hxb
   apply zx
   apply zq
   apply zd
   apply zq
   refine zb fun K hK=>?_;simp only[go_sem,hx,hc,bedR];apply hK;apply zw (zk [1,3,4,19,20,21]);simp only[go_sem]
   have hp:∀ q,zGG l i=some q→∃ y j,i=j+1∧l[j]? = some y∧q=y.b:=fun q hq=>by
    cases i with
    | zero=>cases hq
    | succ j =>
      obtain⟨y,hy⟩:=zol (l:=l) (i:=j) (by omega)
      simp only[zGG,hy,Option.map_some,Option.some.injEq] at hq
      exact⟨y,j,rfl,hy,hq.symm⟩
   cases hb0:decide (x.b=0) || zAb x.b
   ·have h0:(x.b != 0)=true:=by simp_all
    have h1:zAb x.b=false:=by simp_all
    rw[h1] at hB
    apply zq
    refine zAF [(1,some 1),(3,none),(4,some 4)] follows (by decide +kernel) (by kernel_rfl) (by simp only[zAO,List.mem_cons,List.not_mem_nil,forall_eq_or_imp,Oc.keyOf,go_sem];simp) fun K hK=>?_
    simp only[go_sem,h0]
    refine zh (hB) rfl (by simp only[go_sem,i64,ints]) (by simp only[go_sem,i64,ints]) ?_
    (try simp only[go_sem]);apply hK;apply zw (zk [1,19,20,21,51]);simp only[go_sem]
    apply zc rfl<;>intro hc<;>(try simp only[go_sem] at hc)
    apply zq
    refine zb fun K hK=>?_;simp only[go_sem];apply hK;apply ze;simp only[go_sem]
    simp [hI,zCK,hb0]
   have hnx:zGG l (i+1)=some x.b:=by simp [zGG,hx]
   have hstep:zCK none l=((match zGG l i with|none=>true|some q=>decide (q<x.b))&&zCK (zGG l (i+1)) (l.drop (i+1))):=by
    rw[hI,hnx]
    simp only[zCK,hb0,Bool.true_and]
   cases i with
   | zero =>
     have hp0:zCK none l=zCK (zGG l 1) (l.drop 1):=by simpa [zGG] using hstep
     by_cases h0:x.b=0
     ·have e0:(x.b != 0)=false:=by simp [h0]
      apply zq
      refine zAF [(1,some 1),(3,none),(4,some 4)] follows (by decide +kernel) (by kernel_rfl) (by simp only[zAO,List.mem_cons,List.not_mem_nil,forall_eq_or_imp,Oc.keyOf,go_sem];simp) fun K hK=>?_
      simp only[go_sem,e0];apply hK;apply zw (zk [1,19,20,21,51]);simp only[go_sem]
      apply zc rfl<;>intro hc<;>(try simp only[go_sem] at hc)
      apply zx
      try simp only[go_sem]
      refine zb fun K hK=>?_;simp only[go_sem];(try simp (disch:=omega) only[zI]);apply hK
      try simp only[go_sem]
      exact⟨by omega,hp0,zfo [4] (by try simp only[go_sem]) (by try simp only[go_sem])⟩
     ·have e0:(x.b != 0)=true:=by simp [h0]
      have e1:zAb x.b=true:=by simpa [h0] using hb0
      rw[e1] at hB
      apply zq
      refine zAF [(1,some 1),(3,none),(4,some 4)] follows (by decide +kernel) (by kernel_rfl) (by simp only[zAO,List.mem_cons,List.not_mem_nil,forall_eq_or_imp,Oc.keyOf,go_sem];simp) fun K hK=>?_
      simp only[go_sem,e0]
      refine zh (hB) rfl (by simp only[go_sem,i64,ints]) (by simp only[go_sem,i64,ints]) ?_
      (try simp only[go_sem]);apply hK;apply zw (zk [1,19,20,21,51]);simp only[go_sem]
      apply zc rfl<;>intro hc<;>(try simp only[go_sem] at hc)
      apply zx
      try simp only[go_sem]
      refine zb fun K hK=>?_;simp only[go_sem];(try simp (disch:=omega) only[zI]);apply hK
      try simp only[go_sem]
      exact⟨by omega,hp0,zfo [4] (by try simp only[go_sem]) (by try simp only[go_sem])⟩
   | succ j =>
     obtain⟨y,hy⟩:=zol (l:=l) (i:=j) (by omega)
     have hpy:zGG l (j+1)=some y.b:=by simp [zGG,hy]
     rw[hpy] at hstep
     have hj1:IntKind.i64.wrap ((j:Int)+1-1)=(j:Int):=by rw[zI]<;>omega
     have hj2:j<l.length:=by omega
     have hj0:(0<(j:Int)+1)=True:=by simp
     have go:∀ (e:Bool),decide (x.b≤y.b)=e→(e=true→zCK none l=false)∧(e=false→zCK none l=zCK (zGG l (j+1+1)) (l.drop (j+1+1))):=fun e he=>by
      refine⟨fun h=>?_,fun h=>?_⟩
      ·have:decide (y.b<x.b)=false:=by simp_all
       rw[hstep];simp [this]
      ·have:decide (y.b<x.b)=true:=by simp_all
       rw[hstep];simp [this]
     obtain⟨go1,go2⟩:=go _ rfl
     by_cases h0:x.b=0
     ·have e0:(x.b != 0)=false:=by simp [h0]
      apply zq
      refine zAF [(1,some 1),(3,none),(4,some 4)] follows (by decide +kernel) (by kernel_rfl) (by simp only[zAO,List.mem_cons,List.not_mem_nil,forall_eq_or_imp,Oc.keyOf,go_sem];simp) fun K hK=>?_
      simp only[go_sem,e0,hj1,hj0,hy,bedR]
      refine⟨by omega,?_⟩
      apply hK;apply zw (zk [1,19,20,21,51]);simp only[go_sem]
      cases hle:decide (x.b≤y.b)
      ·skip
       apply zc rfl<;>intro hc<;>(try simp only[go_sem] at hc)
       apply zx
       try simp only[go_sem]
       refine zb fun K hK=>?_;simp only[go_sem];(try simp (disch:=omega) only[zI]);apply hK
       try simp only[go_sem]
       exact⟨by omega,go2 hle,zfo [4] (by try simp only[go_sem]) (by try simp only[go_sem])⟩
      ·skip
       apply zc rfl<;>intro hc<;>(try simp only[go_sem] at hc)
       apply zq
       refine zb fun K hK=>?_;simp only[go_sem];apply hK;apply ze;simp only[go_sem]
       simp [go1 hle]
     ·have e0:(x.b != 0)=true:=by simp [h0]
      have e1:zAb x.b=true:=by simpa [h0] using hb0
      rw[e1] at hB
      apply zq
      refine zAF [(1,some 1),(3,none),(4,some 4)] follows (by decide +kernel) (by kernel_rfl) (by simp only[zAO,List.mem_cons,List.not_mem_nil,forall_eq_or_imp,Oc.keyOf,go_sem];simp) fun K hK=>?_
      simp only[go_sem,e0,hj1,hj0,hy,bedR]
      refine zh (hB) rfl (by simp only[go_sem,i64,ints,hj1,hj0,hy,bedR]) (by simp only[go_sem,i64,ints,hj1,hj0,hy,bedR]) ?_
      (try simp only[go_sem,hj1,hj0,hy,bedR])
      refine⟨by omega,?_⟩
      apply hK;apply zw (zk [1,19,20,21,51]);simp only[go_sem]
      cases hle:decide (x.b≤y.b)
      ·skip
       apply zc rfl<;>intro hc<;>(try simp only[go_sem] at hc)
       apply zx
       try simp only[go_sem]
       refine zb fun K hK=>?_;simp only[go_sem];(try simp (disch:=omega) only[zI]);apply hK
       try simp only[go_sem]
       exact⟨by omega,go2 hle,zfo [4] (by try simp only[go_sem]) (by try simp only[go_sem])⟩
      ·skip
       apply zc rfl<;>intro hc<;>(try simp only[go_sem] at hc)
       apply zq
       refine zb fun K hK=>?_;simp only[go_sem];apply hK;apply ze;simp only[go_sem]
       simp [go1 hle]
  ·apply zf;simp only[go_sem]
   apply zq
   refine zb fun K hK=>?_;simp only[go_sem];apply hK;apply zw (zk [2]);simp only[go_sem];apply ze;simp only[go_sem]
   have:l.drop i=[]:=List.drop_eq_nil_of_le (by omega)
   have h0:l≠[]:=fun e=>by rw[e] at hE;simp at hE
   simp [hI,this,zCK,hA,h0]
def zK4 (d:Int) (x:Bd):Bool:=!zAT 0 d [x.lo,x.hi] || decide (x.hi<x.lo)
theorem zPP (a:Int) (l:List Bd) (d:Int) (x:Bd):zAA Tryz.prog 135 [bedV x,.rp [i64 a,zBJ l,i64 d]] (.bo (zK4 d x)):=by
 refine zas (rs:=[.bo (zK4 d x)]) [.tmp 3] Tryz.func135 rfl (by kernel_rfl) Tryz.ntmps135 rfl (by simp) rfl fun C vs=>?_
 apply zq
 refine zb fun K hK=>?_;simp only[go_sem];apply hK;clear hK K
 apply zq
 refine zb fun K hK=>?_;simp only[go_sem]
 refine zh (zDl 0 d [x.lo,x.hi]) rfl (by simp only[go_sem,i64,ints]) (by simp only[go_sem,i64,ints]) ?_
 (try simp only[go_sem])
 refine⟨fun h=>?_,fun h=>?_⟩
 ·skip
  apply hK;clear hK K;apply ze;simp only[go_sem]
  simp [zK4,h]
 ·skip
  apply hK;clear hK K;apply ze;simp only[go_sem]
  simp [zK4,h]
def chOk (d:Int) (l:List Bd):Bool:=l.all fun x=>decide (0≤x.lo)&&decide (x.lo≤x.hi)&&decide (x.hi≤d)
theorem zSz (d:Int) (l:List Bd):(!(l.any (zK4 d)))=chOk d l:=by
 unfold chOk
 rw[List.not_any_eq_all_not]
 congr 1
 funext x
 unfold zK4 zAT
 simp only[List.all_cons,List.all_nil,Bool.and_true]
 by_cases h1:0≤x.lo<;>by_cases h2:x.lo≤d<;>by_cases h3:0≤x.hi<;>by_cases h4:x.hi≤d<;>by_cases h5:x.hi<x.lo<;>by_cases h6:x.lo≤x.hi<;>simp [h1,h2,h3,h4,h5,h6]<;>omega
theorem zEN {d:Int}{l:List Bd}(h:chOk d l=true) (hd:d≤6000):Small l:=fun x hx=>by
 have:=List.all_eq_true.1 h x hx
 simp only[Bool.and_eq_true,decide_eq_true_eq] at this
 omega
def zC9 (d:Int) (a:Am):Bool:=zAb a.at_ && !a.beds.isEmpty&&zCK none a.beds&&chOk d a.beds&&decide (loS a.beds≤d)&&decide (d≤hiS a.beds)
def WfA (a:Am):Prop:=I64 a.at_∧Wf a.beds
theorem zOe (a:Am) (d:Int) (hw:WfA a) (hd:d≤6000) (hl:a.beds.length≤1000):zAA Tryz.prog 95 [chV a d] (.bo (zC9 d a)):=by
 refine zas (rs:=[.bo (zC9 d a)]) [.tmp 2] Tryz.func95 rfl (by kernel_rfl) Tryz.ntmps95 rfl (by simp) rfl fun C vs=>?_
 apply zq
 refine zb fun K hK=>?_;simp only[go_sem];apply hK;clear hK K;apply zw (zk [1]);simp only[go_sem]
 repeat apply zq
 refine zb fun K hK=>?_;simp only[go_sem]
 refine zh (zO7 a.at_ a.beds d hw.1 hw.2) rfl (by simp only[go_sem,i64,ints]) (by simp only[go_sem,i64,ints]) ?_
 (try simp only[go_sem])
 cases h1:(zAb a.at_ && !a.beds.isEmpty&&zCK none a.beds)
 ·try simp only[go_sem]
  apply hK;clear hK K
  apply zc rfl<;>intro hc<;>(try simp only[go_sem] at hc)
  apply zq
  refine zb fun K hK=>?_;simp only[go_sem];apply hK;clear hK K;apply ze;simp only[go_sem]
  simp [zC9,h1]
 try simp only[go_sem]
 refine zh (zKr (zK4 d) 135 [.rp [i64 a.at_,zBJ a.beds,i64 d]] a.beds fun x _=>zPP a.at_ a.beds d x) rfl (by simp only[go_sem,i64,ints]) (by simp only[go_sem,i64,ints]) ?_
 (try simp only[go_sem]);apply hK;clear hK K;apply zw (zk [1,13]);simp only[go_sem]
 have h2:=zSz d a.beds
 cases h3:a.beds.any (zK4 d)
 ·rw[h3] at h2
  have h4:chOk d a.beds=true:=by simpa using h2.symm
  apply zc rfl<;>intro hc<;>(try simp only[go_sem] at hc)
  apply zx
  try simp only[go_sem]
  apply zq
  refine zb fun K hK=>?_;simp only[go_sem]
  refine zh (zPZ a.at_ a.beds d (zEN h4 hd) hl) rfl (by simp only[go_sem,i64,ints]) (by simp only[go_sem,i64,ints]) ?_
  (try simp only[go_sem]);apply hK;clear hK K;apply zw (zk [1,3]);simp only[go_sem]
  apply zq
  refine zb fun K hK=>?_;simp only[go_sem]
  refine zh (zDl (loS a.beds) (hiS a.beds) [d]) rfl (by simp only[go_sem,i64,ints]) (by simp only[go_sem,i64,ints]) ?_
  (try simp only[go_sem]);apply hK;clear hK K;apply ze;simp only[go_sem]
  simp [zC9,h1,h4,zAT]
 ·rw[h3] at h2
  have h4:chOk d a.beds=false:=by simpa using h2.symm
  apply zc rfl<;>intro hc<;>(try simp only[go_sem] at hc)
  apply zq
  refine zb fun K hK=>?_;simp only[go_sem];apply hK;clear hK K;apply ze;simp only[go_sem]
  simp [zC9,h4]
def zDM (d:Int) (l:List Am):List (List RV):=l.zipIdx.map fun x=>[i64 x.2,chV x.1 d]
theorem zFO {d:Int}{l:List Am}{i:Nat}{e:List RV}(h:(zDM d l)[i]? = some e):∃ x,l[i]? = some x∧e=[i64 i,chV x d]:=by
 simp only[zDM,List.getElem?_map,List.getElem?_zipIdx,Nat.zero_add] at h
 cases hx:l[i]? with
 | none=>rw[hx] at h;cases h
 | some x=>rw[hx] at h;simp only[Option.map_some,Option.some.injEq] at h;exact⟨x,rfl,h.symm⟩
theorem zHA {d:Int}{l:List Am}{e:List RV}(h:e∈zDM d l):e.length=2:=by
 obtain⟨i,hi⟩:=List.getElem?_of_mem h
 obtain⟨x,_,rfl⟩:=zFO hi
 rfl
theorem zA1 {n:Nat}{l:List (Nat × AV)}{vs:Nat→Nat}{cs:List (Nat × RowC)}{P:Program}{d:Option Nat}{ll:Nat}{z:Bool}{e:List RV}{rest:List (List RV)}{xs:List AV}{K:AS→Prop}(hrow:zAG cs 999 = .gh P ll z (some (e::rest)))
 (hp:AV.pureL xs=true) (he:zAc (st n l vs cs).rows xs=e) (hfl:RV.flatL e=true∨z=false) (hK1:K ((st n l vs (insc cs 999 (.gh P ll z (some rest)))).put d (.r (.bo true)))) (hK2:K ((st n l vs (insc cs 999 (.gh P ll z none))).put d (.r (.bo false)))) :
 zJX P false (st n l vs cs) d (.r (.yl ll)) xs K:=by
 have hr:∀ c,(st n l vs cs).row 999 ⟨((st n l vs cs).rows 999).ver,c⟩=st n l vs (insc cs 999 c):=fun c=>by
  rw[zJt]
  congr 1
  exact zCt vs 999
 exact .inr (.inl ⟨rfl,.inr (.inr (.inl ⟨ll,z,e,rest,rfl,hrow,hp,he▸zAS _,hfl,by rw[hr];exact hK1,by rw[hr];exact hK2⟩))⟩)
theorem zMT (d:Int) (l:List Am):zGD Tryz.prog false 96 [.rp [i64 d,zAl l]] (zDM d l):=by
 refine zGx Tryz.func96 rfl (by kernel_rfl) Tryz.ntmps96 rfl (by simp) fun C ll=>?_
 apply zq
 refine zb fun K hK=>?_;simp only[go_sem,argL]
 intro hl7
 apply hK;clear hK K;apply zw (zk [0,1,6,7,8]);simp only[go_sem];apply zd
 refine zup (n:=22) l.length (fun i vs=>[(0,.r (.yl ll)),(1,.r (.rp [i64 d,zAl l])),(6,.r (zAl l)),(7,.r (i64 l.length)),(8,.r (i64 i))])
  (fun i=>[(999,.gh Tryz.prog ll false (some ((zDM d l).drop i)))]) (fun _=>True) 0 (zfo [] ?_ ?_) (Nat.zero_le _) trivial ?_
 ·try simp only[go_sem]
 ·try simp only[go_sem]
 ·intro i vs hi _
  apply zq
  refine zb fun K hK=>?_;simp only[go_sem];apply hK;clear hK K
  apply zq
  apply zc rfl<;>intro hc<;>(try simp only[go_sem] at hc)
  ·obtain⟨x,hx⟩:=zol hc
   have hci:=hc
   have he:(zDM d l).drop i=[i64 i,chV x d]::(zDM d l).drop (i+1):=by
    refine zAH ?_
    simp [zDM,hx]
   apply zx
   apply zq
   apply zd
   apply zq
   refine zb fun K hK=>?_;simp only[go_sem,hx,hc,aimR];apply hK;clear hK K;apply zw (zk [0,1,3,4,6,7,8]);simp only[go_sem]
   apply zq
   refine zb fun K hK=>?_;simp only[go_sem]
   refine zA1 (e:=[i64 i,chV x d]) (rest:=(zDM d l).drop (i+1)) (by simp only[go_sem,he]) rfl (by simp only[go_sem]) (.inr rfl) ?_ ?_
   ·simp only[go_sem];apply hK;clear hK K;apply zw (zk [0,1,6,7,8,20]);simp only[go_sem]
    apply zc rfl<;>intro hc<;>(try simp only[go_sem] at hc)
    apply zx
    try simp only[go_sem]
    refine zb fun K hK=>?_;simp only[go_sem];(try simp (disch:=omega) only[zI]);apply hK;clear hK K
    try simp only[go_sem]
    exact⟨hci,zfo [4] (by try simp only[go_sem]) (by try simp only[go_sem])⟩
   ·simp only[go_sem];apply hK;clear hK K;apply zw (zk [20]);simp only[go_sem]
    apply zc rfl<;>intro hc<;>(try simp only[go_sem] at hc)
    apply ze;simp only[go_sem];exact⟨_,_,.inr rfl⟩
  ·apply zf;simp only[go_sem]
   have h0:(zDM d l).drop i=[]:=List.drop_eq_nil_of_le (by simp [zDM];omega)
   exact⟨ll,false,.inl (by simp only[go_sem,h0])⟩
theorem zRO (d:Int) (l:List Am):zAA Tryz.prog 64 [lawV d l] (.fn 96 [.rp [i64 d,zAl l]]):=by
 refine zas (rs:=[.fn 96 [.rp [i64 d,zAl l]]]) [.tmp 2] Tryz.func64 rfl (by kernel_rfl) Tryz.ntmps64 rfl (by simp) rfl fun C vs=>?_
 apply zq
 refine zb fun K hK=>?_;simp only[go_sem];apply hK;clear hK K
 apply zq
 refine zb fun K hK=>?_;simp only[go_sem];apply hK;clear hK K;apply ze;simp only[go_sem]
 simp [RV.le,zAS.le_refl,zAS]
theorem zQt (a:Am):zAA Tryz.prog 93 [aimV a] (.bo (decide (10<a.beds.length))):=by
 refine zas (rs:=[.bo (decide (10<a.beds.length))]) [.tmp 2] Tryz.func93 rfl (by kernel_rfl) Tryz.ntmps93 rfl (by simp) rfl fun C vs=>?_
 apply zq
 refine zb fun K hK=>?_;simp only[go_sem];apply hK;clear hK K
 apply zq
 refine zb fun K hK=>?_;simp only[go_sem]
 intro _
 apply hK;clear hK K;apply ze;simp only[go_sem]
 simp
 omega
def zAe (d:Int) (l:List Am):Int :=
 if (decide (20<l.length) || l.any fun a=>decide (10<a.beds.length))=true then 5
 else if (l.isEmpty || !(decide (1≤d)&&decide (d≤3000)))=true then 2
 else if l.all (zC9 d)=true then 0 else 2
def WfL (d:Int) (l:List Am):Prop:=I64 d∧∀ a∈l,WfA a
theorem zJH (d:Int) (l:List Am) (hw:WfL d l):zAA Tryz.prog 63 [lawV d l] (i64 (zAe d l)):=by
 refine zAx (rs:=[i64 (zAe d l)]) [.cell 2 33] Tryz.func63 rfl (by kernel_rfl) Tryz.ntmps63 rfl (by simp) rfl fun C hC vs=>?_
 apply zq
 refine zb fun K hK=>?_;simp only[go_sem];apply hK;clear hK K;apply zw (zk [1,2]);simp only[go_sem]
 repeat apply zq
 refine zb fun K hK=>?_;simp only[go_sem]
 intro hl8
 refine⟨fun h1=>?_,fun h1=>?_⟩
 rotate_left
 ·skip
  apply hK;clear hK K
  apply zc rfl<;>intro hc<;>(try simp only[go_sem] at hc)
  apply zq
  refine zb fun K hK=>?_;simp only[go_sem];apply hK;clear hK K;apply ze;simp only[go_sem]
  have h1':20<l.length:=by omega
  simp [zAe,h1']
 have h1':¬ 20<l.length:=by omega
 refine zh (zKs (fun a=>decide (10<a.beds.length)) 93 [] l fun x _=>zQt x) rfl (by simp only[go_sem,i64,ints]) (by simp only[go_sem,i64,ints]) ?_
 (try simp only[go_sem]);apply hK;clear hK K;apply zw (zk [1,2,13]);simp only[go_sem]
 cases h2:l.any fun a=>decide (10<a.beds.length)
 case true =>
  apply zc rfl<;>intro hc<;>(try simp only[go_sem] at hc)
  apply zq
  refine zb fun K hK=>?_;simp only[go_sem];apply hK;clear hK K;apply ze;simp only[go_sem]
  simp [zAe,h2]
 have hlen:∀ a∈l,a.beds.length≤10:=fun a ha=>by
  have:=List.any_eq_false.1 h2 a ha
  simpa using this
 apply zc rfl<;>intro hc<;>(try simp only[go_sem] at hc)
 apply zx
 try simp only[go_sem]
 repeat apply zq
 refine zb fun K hK=>?_;simp only[go_sem]
 intro _
 have h12:(decide (20<l.length) || l.any fun a=>decide (10<a.beds.length))=false:=by simp only[h2,Bool.or_false];simpa using h1'
 have hV:zAe d l=if (l.isEmpty || !(decide (1≤d)&&decide (d≤3000)))=true then 2 else if l.all (zC9 d)=true then 0 else 2:=by
  unfold zAe
  rw[h12]
  rfl
 refine⟨fun h3=>?_,fun h3=>?_⟩
 rotate_left
 ·have h4:l=[]:=List.length_eq_zero_iff.1 (by omega)
  apply hK;clear hK K
  apply zc rfl<;>intro hc<;>(try simp only[go_sem] at hc)
  apply zq
  refine zb fun K hK=>?_;simp only[go_sem];apply hK;clear hK K;apply ze;simp only[go_sem];rw[hV,h4]
  rfl
 have h4:l.isEmpty=false:=by
  cases l with
  | nil=>simp at h3
  | cons=>rfl
 rw[h4,Bool.false_or] at hV
 refine zh (zDl 1 3000 [d]) rfl (by simp only[go_sem,i64,ints]) (by simp only[go_sem,i64,ints]) ?_
 (try simp only[go_sem]);apply hK;clear hK K;apply zw (zk [1,2,24]);simp only[go_sem]
 have hwd:zAT 1 3000 [d]=(decide (1≤d)&&decide (d≤3000)):=by simp [zAT]
 rw[hwd]
 cases h5:(decide (1≤d)&&decide (d≤3000))
 ·skip
  apply zc rfl<;>intro hc<;>(try simp only[go_sem] at hc)
  apply zq
  refine zb fun K hK=>?_;simp only[go_sem];apply hK;clear hK K;apply ze;simp only[go_sem];rw[hV,h5]
  rfl
 rw[h5] at hV
 have hd:d≤6000:=by simp at h5;omega
 apply zc rfl<;>intro hc<;>(try simp only[go_sem] at hc)
 apply zx
 try simp only[go_sem]
 repeat apply zq
 refine zb fun K hK=>?_;simp only[go_sem]
 refine zh (zRO d l) rfl (by simp only[go_sem,i64,ints]) (by simp only[go_sem,i64,ints]) ?_
 (try simp only[go_sem]);apply hK;clear hK K;apply zw (zk [2,26]);simp only[go_sem];apply zd
 refine zCU hC (zDM d l) (zMT d l) [2,26] (by decide) (fun vs=>[(2,.pt 2 (vs 2) 0),(26,.r (.fn 96 [.rp [i64 d,zAl l]]))]) (fun i vs=>[(2,.box [.r (i64 0)])])
  (fun i=>(l.take i).all (zC9 d)=true) (zj [1] ?_ ?_) (by simp) (fun _=>rfl) (fun _=>rfl) (fun _ _=>rfl) (by simp) (fun e he=>zHA he) ?_ ?_
 ·try simp only[go_sem]
 ·try simp only[go_sem]
 ·intro i e vs us C he hI
  obtain⟨x,hx,rfl⟩:=zFO he
  refine zb fun K hK=>?_;simp only[go_sem];apply hK;clear hK K
  refine⟨rfl,fun C'=>?_⟩
  apply zw (zk [2,4,26]);simp only[go_sem];apply zd
  apply zq
  refine zb fun K hK=>?_;simp only[go_sem]
  refine zh (zOe x d (hw.2 x (zmo hx)) hd (by have:=hlen x (zmo hx);omega)) rfl (by simp only[go_sem,i64,ints]) (by simp only[go_sem,i64,ints]) ?_
  (try simp only[go_sem]);apply hK;clear hK K;apply zw (zk [2,26,31]);simp only[go_sem]
  cases h6:zC9 d x
  ·skip
   apply zc rfl<;>intro hc<;>(try simp only[go_sem] at hc)
   apply zq
   refine zb fun K hK=>?_;simp only[go_sem];apply hK;clear hK K;apply ze;simp only[go_sem]
   refine zUy (by simp only[go_sem];rfl) ?_
   try simp only[go_sem]
   rw[hV]
   have:l.all (zC9 d)=false:=List.all_eq_false.2 ⟨x,zmo hx,by simp [h6]⟩
   rw[this]
   rfl
  ·skip
   apply zc rfl<;>intro hc<;>(try simp only[go_sem] at hc)
   apply zx
   try simp only[go_sem]
   refine⟨?_,zj (F:=fun _=>[]) [4] (by try simp only[go_sem]) (by try simp only[go_sem])⟩
   rw[zto hx];simp [hI,h6]
 ·intro vs us hI
  try simp only[go_sem]
  refine zw (zBk rfl) ?_
  apply zq
  refine zb fun K hK=>?_;simp only[go_sem];apply hK;clear hK K;apply ze;simp only[go_sem];rw[hV]
  have:(zDM d l).length=l.length:=by simp [zDM]
  rw[this,List.take_length] at hI
  rw[hI]
  rfl
abbrev tabR (T:List (List Int)):RV:=.sl 1 (T.map fun row=>[ints row])
def zE8 (out b:Int):Bool:=if out=1 then decide (b / 100=2) else if out=2 then decide (2≤b / 100) else true
set_option maxRecDepth 8000
set_option maxHeartbeats 4000000
theorem zLe (n a b:Int):zAA Tryz.prog 142 [i64 n,.rp [i64 a],.rp [i64 b]] (.bo (decide (n<a) || decide (b<n))):=by
 refine zas (rs:=[.bo (decide (n<a) || decide (b<n))]) [.tmp 4] Tryz.func142 rfl (by kernel_rfl) Tryz.ntmps142 rfl (by simp) rfl fun C vs=>?_
 apply zq
 refine zb fun K hK=>?_;simp only[go_sem];apply hK
 apply zq
 refine zb fun K hK=>?_;simp only[go_sem]
 refine⟨fun h=>?_,fun h=>?_⟩ <;>
 ·skip
  apply hK;apply ze;simp only[go_sem]
  try simp [h]
theorem zCR (a b:Int) (l:List Int):zAA Tryz.prog 101 [i64 a,i64 b,ints l] (.bo (zAT a b l)):=by
 refine zas (rs:=[.bo (zAT a b l)]) [.tmp 6] Tryz.func101 rfl (by kernel_rfl) Tryz.ntmps101 rfl (by simp) rfl fun C vs=>?_
 apply zq
 refine zb fun K hK=>?_;simp only[go_sem];apply hK
 apply zq
 refine zb fun K hK=>?_;simp only[go_sem]
 refine zh (zEj (fun n=>decide (n<a) || decide (b<n)) 142 [.rp [i64 a],.rp [i64 b]] l fun x _=>zLe x a b) rfl (by simp only[go_sem,i64,ints]) (by simp only[go_sem,i64,ints]) ?_
 (try simp only[go_sem]);apply hK;apply ze;simp only[go_sem];rw[← zEV]
theorem zG6 (b:Int) (hb:0≤b∧b≤499):zAA Tryz.prog 170 [.ag [i64 b]] (i64 (b / 100)):=by
 have e1:Int.tdiv b 100=b / 100:=Int.tdiv_eq_ediv_of_nonneg hb.1
 have w1:IntKind.i64.wrap (b / 100)=b / 100:=by rw[zI]<;>omega
 refine zas (rs:=[i64 (b / 100)]) [.tmp 2] Tryz.func170 rfl (by kernel_rfl) Tryz.ntmps170 rfl (by simp) rfl fun C vs=>?_
 apply zq
 refine zb fun K hK=>?_;simp only[go_sem];apply hK;apply zw (zk [1]);simp only[go_sem]
 apply zq
 refine zb fun K hK=>?_;simp only[go_sem,e1,w1];apply hK;apply zw (zk [2]);simp only[go_sem];apply ze;simp only[go_sem]
theorem zJ9 (b:Int) (hb:0≤b∧b≤499):zAA Tryz.prog 171 [.ag [i64 b]] (i64 (b % 100)):=by
 have e1:Int.tmod b 100=b % 100:=Int.tmod_eq_emod_of_nonneg hb.1
 have w1:IntKind.i64.wrap (b % 100)=b % 100:=by rw[zI]<;>omega
 refine zas (rs:=[i64 (b % 100)]) [.tmp 2] Tryz.func171 rfl (by kernel_rfl) Tryz.ntmps171 rfl (by simp) rfl fun C vs=>?_
 apply zq
 refine zb fun K hK=>?_;simp only[go_sem];apply hK;apply zw (zk [1]);simp only[go_sem]
 apply zq
 refine zb fun K hK=>?_;simp only[go_sem,e1,w1];apply hK;apply zw (zk [2]);simp only[go_sem];apply ze;simp only[go_sem]
theorem zQu (b:Int) (hb:0≤b∧b≤499):zAA Tryz.prog 143 [.ag [i64 b]] (i64 (zAD b)):=by
 have hf:=zG6 b hb
 have hn:=zJ9 b hb
 have h1:0≤b / 100∧b / 100≤4:=by omega
 have h2:0≤b % 100∧b % 100≤99:=by omega
 have h3:=Int.mul_nonneg h1.1 h2.1
 have h4:=Int.mul_le_mul h1.2 h2.2 h2.1 (show (0:Int)≤4 by omega)
 have w3:IntKind.i64.wrap (b / 100*(b % 100))=b / 100*(b % 100):=by rw[zI]<;>omega
 have hs:zAD b=b / 100*(b % 100):=rfl
 rw[hs]
 refine zas (rs:=[i64 (b / 100*(b % 100))]) [.tmp 2] Tryz.func143 rfl (by kernel_rfl) Tryz.ntmps143 rfl (by simp) rfl fun C vs=>?_
 apply zq
 refine zb fun K hK=>?_;simp only[go_sem];apply hK;refine zw (zfP 1 1 [i64 b] (by omega) rfl rfl) ?_;apply zw (zk [1]);simp only[go_sem]
 apply zq
 refine zg follows (by decide +kernel) (by kernel_rfl) fun K hK=>?_;simp only[go_sem,w3]
 refine zh (hf) rfl (by simp only[go_sem,i64,ints]) (by simp only[go_sem,i64,ints]) ?_
 (try simp only[go_sem])
 refine zh (hn) rfl (by simp only[go_sem,i64,ints,w3]) (by simp only[go_sem,i64,ints,w3]) ?_
 (try simp only[go_sem,w3]);apply hK;apply zw (zk [2]);simp only[go_sem];apply ze;simp only[go_sem]
theorem zQx (b g:Int) (hb:0≤b∧b≤499):zAA Tryz.prog 144 [.ag [i64 b],i64 g] (.bo (zE8 g b)):=by
 have hf:=zG6 b hb
 refine zas (rs:=[.bo (zE8 g b)]) [.tmp 4] Tryz.func144 rfl (by kernel_rfl) Tryz.ntmps144 rfl (by simp) rfl fun C vs=>?_
 apply zq
 refine zb fun K hK=>?_;simp only[go_sem];apply hK;refine zw (zfP 2 2 [i64 b] (by omega) rfl rfl) ?_;apply zw (zk [1,2]);simp only[go_sem]
 repeat apply zq
 refine zb fun K hK=>?_;simp only[go_sem];apply hK;apply zw (zk [2,5]);simp only[go_sem];apply zd
 apply zq
 refine zb fun K hK=>?_;simp only[go_sem];apply hK;apply zw (zk [2,5,6]);simp only[go_sem]
 by_cases h1:g=1
 ·subst h1
  apply zc rfl<;>intro hc<;>(try simp only[go_sem] at hc)
  apply zq
  refine zb fun K hK=>?_;simp only[go_sem]
  refine zh (hf) rfl (by simp only[go_sem,i64,ints]) (by simp only[go_sem,i64,ints]) ?_
  (try simp only[go_sem]);apply hK;apply zw (zk [4]);simp only[go_sem];apply ze;simp only[go_sem];rw[Bool.eq_iff_iff]
  simp [zE8]
 ·have e1:(g == 1)=false:=by simpa using h1
  rw[e1]
  apply zc rfl<;>intro hc<;>(try simp only[go_sem] at hc)
  apply zq
  refine zb fun K hK=>?_;simp only[go_sem];apply hK;apply zw (zk [2,5,11]);simp only[go_sem]
  by_cases h2:g=2
  ·subst h2
   apply zc rfl<;>intro hc<;>(try simp only[go_sem] at hc)
   apply zq
   refine zb fun K hK=>?_;simp only[go_sem]
   refine zh (hf) rfl (by simp only[go_sem,i64,ints]) (by simp only[go_sem,i64,ints]) ?_
   (try simp only[go_sem]);apply hK;apply zw (zk [4]);simp only[go_sem];apply ze;simp only[go_sem]
   simp [zE8]
  ·have e2:(g == 2)=false:=by simpa using h2
   rw[e2]
   apply zc rfl<;>intro hc<;>(try simp only[go_sem] at hc)
   apply zx
   try simp only[go_sem]
   apply zq
   refine zb fun K hK=>?_;simp only[go_sem];apply hK;apply zw (zk [4]);simp only[go_sem];apply ze;simp only[go_sem]
   simp [zE8,h1,h2]
theorem zTu (b:Int) (hb:0≤b∧b≤499) (hv:zAb b=true):zAA Tryz.prog 169 [.ag [i64 b]] (.bo true):=by
 have hf:=zG6 b hb
 have hn:=zJ9 b hb
 have hv':=hv
 simp only[zAb,Bool.or_eq_true,Bool.and_eq_true,decide_eq_true_eq] at hv'
 refine zas (rs:=[.bo true]) [.tmp 2] Tryz.func169 rfl (by kernel_rfl) Tryz.ntmps169 rfl (by simp) rfl fun C vs=>?_
 apply zq
 refine zb fun K hK=>?_;simp only[go_sem];apply hK;refine zw (zfP 1 1 [i64 b] (by omega) rfl rfl) ?_;apply zw (zk [1]);simp only[go_sem]
 cases h1:(b == 125)
 ·cases h2:(b == 225)
  ·have n1:b≠125:=by simpa using h1
   have n2:b≠225:=by simpa using h2
   have w1:zAT 1 4 [b / 100]=true:=by simp [zAT];omega
   have w2:zAT 1 20 [b % 100]=true:=by simp [zAT];omega
   have c1:=zCR 1 4 [b / 100]
   have c2:=zCR 1 20 [b % 100]
   rw[w1] at c1
   rw[w2] at c2
   apply zq
   refine zb fun K hK=>?_;simp only[go_sem,h1,h2]
   refine zh (hf) rfl (by simp only[go_sem,i64,ints]) (by simp only[go_sem,i64,ints]) ?_
   (try simp only[go_sem])
   refine zh (c1) rfl (by simp only[go_sem,i64,ints]) (by simp only[go_sem,i64,ints]) ?_
   (try simp only[go_sem])
   refine zh (hn) rfl (by simp only[go_sem,i64,ints]) (by simp only[go_sem,i64,ints]) ?_
   (try simp only[go_sem])
   refine zh (c2) rfl (by simp only[go_sem,i64,ints]) (by simp only[go_sem,i64,ints]) ?_
   (try simp only[go_sem]);apply hK;apply zw (zk [2]);simp only[go_sem];apply ze;simp only[go_sem]
  ·apply zq
   refine zb fun K hK=>?_;simp only[go_sem,h1,h2];apply hK;apply zw (zk [2]);simp only[go_sem];apply ze;simp only[go_sem]
 ·apply zq
  refine zb fun K hK=>?_;simp only[go_sem,h1];apply hK;apply zw (zk [2]);simp only[go_sem];apply ze;simp only[go_sem]
structure BdsO (bs:List Int):Prop where
 asc:bs.Pairwise (· < ·)
 ne:1≤bs.length
 len:bs.length≤82
 bed:∀ b∈bs,zAb b=true∧0≤b∧b≤499
theorem zMN (bs:List Int) (h:BdsO bs):zAA Tryz.prog 140 [ints bs] (.bo true):=by
 have hne:=h.ne
 have hlen:=h.len
 refine zas (rs:=[.bo true]) [.tmp 2] Tryz.func140 rfl (by kernel_rfl) Tryz.ntmps140 rfl (by simp) rfl fun C vs=>?_
 apply zq
 refine zb fun K hK=>?_;simp only[go_sem];apply hK;apply zw (zk [0]);simp only[go_sem]
 repeat apply zq
 refine zb fun K hK=>?_;simp only[go_sem,List.length_map]
 intro _
 apply hK;apply zw (zk [0,5,6,7]);simp only[go_sem];apply zd
 refine zup (n:=34) bs.length (fun i vs=>[(0,.r (ints bs)),(5,.r (ints bs)),(6,.r (i64 (bs.length:Int))),(7,.r (i64 (i:Int)))])
  (fun i=>[]) (fun _=>True) 0 (zfo [] ?_ ?_) (Nat.zero_le _) trivial ?_
 ·try simp only[go_sem]
 ·try simp only[go_sem]
 ·intro i vs hi _
  by_cases hin:i<bs.length
  ·obtain⟨b,hb⟩:=zol hin
   obtain⟨q1,q2⟩:=h.bed b (zmo hb)
   have hq:=zTu b q2 q1
   apply zq
   refine zb fun K hK=>?_;simp only[go_sem,hin];apply hK;apply zw (zk [0,5,6,7,8]);simp only[go_sem]
   apply zq
   apply zc rfl<;>intro hc<;>(try simp only[go_sem] at hc)
   apply zx
   try simp only[go_sem]
   apply zq
   apply zd
   apply zq
   refine zb fun K hK=>?_;simp only[go_sem,hb,hin,List.length_map];apply hK;apply zw (zk [0,3,4,5,6,7]);simp only[go_sem]
   apply zq
   by_cases h0:i=0
   ·subst h0
    refine zb fun K hK=>?_;simp only[go_sem]
    refine zh (hq) rfl (by simp only[go_sem,i64,ints]) (by simp only[go_sem,i64,ints]) ?_
    (try simp only[go_sem]);apply hK;apply zw (zk [0,5,6,7,28]);simp only[go_sem]
    apply zc rfl<;>intro hc<;>(try simp only[go_sem] at hc)
    apply zx
    try simp only[go_sem]
    refine zb fun K hK=>?_;simp only[go_sem];(try simp (disch:=omega) only[zI]);apply hK
    try simp only[go_sem]
    refine⟨by omega,zfo [] ?_ ?_⟩
    ·try simp only[go_sem]
    ·try simp only[go_sem]
   ·obtain⟨c,hc⟩:=zol (l:=bs) (i:=i-1) (by omega)
    have hlt:c<b:=by
     have:=List.pairwise_iff_getElem.1 h.asc (i-1) i (by omega) hin (by omega)
     rw[List.getElem?_eq_getElem (by omega)] at hc
     rw[List.getElem?_eq_getElem hin] at hb
     injection hc with hc
     injection hb with hb
     omega
    have g0:decide ((0:Int)<(i:Int))=true:=decide_eq_true (by omega)
    have g0':0<i:=by omega
    have g1:decide (b≤c)=false:=decide_eq_false (by omega)
    have g2:IntKind.i64.wrap ((i:Int)-1)=(i:Int)-1:=by rw[zI]<;>omega
    have g3:i-1<bs.length:=by omega
    have hcx:bs[((i:Int)-1).toNat]? = some c:=by rw[show ((i:Int)-1).toNat=i-1 by omega];exact hc
    refine zb fun K hK=>?_;simp only[go_sem,hcx,g1,g2]
    refine zh (hq) rfl (by simp only[go_sem,i64,ints,g0,g0',g2,hcx,g1]) (by simp only[go_sem,i64,ints,g0,g0',g2,hcx,g1]) ?_
    (try simp only[go_sem,g0,g0',g2,hcx,g1])
    refine⟨by omega,?_⟩
    apply hK;apply zw (zk [0,5,6,7,28]);simp only[go_sem]
    apply zc rfl<;>intro hc<;>(try simp only[go_sem] at hc)
    apply zx
    try simp only[go_sem]
    refine zb fun K hK=>?_;simp only[go_sem];(try simp (disch:=omega) only[zI]);apply hK
    try simp only[go_sem]
    refine⟨by omega,zfo [] ?_ ?_⟩
    ·try simp only[go_sem]
    ·try simp only[go_sem]
  ·have hie:i=bs.length:=by omega
   subst hie
   have w1:zAT 1 82 [(bs.length:Int)]=true:=by simp [zAT];omega
   have c1:=zCR 1 82 [(bs.length:Int)]
   rw[w1] at c1
   apply zq
   refine zb fun K hK=>?_;simp only[go_sem,Nat.lt_irrefl];apply hK;apply zw (zk [0,8]);simp only[go_sem]
   apply zq
   apply zc rfl<;>intro hc<;>(try simp only[go_sem] at hc)
   apply zf;simp only[go_sem]
   apply zq
   refine zb fun K hK=>?_;simp only[go_sem,List.length_map]
   intro _
   refine zh (c1) rfl (by simp only[go_sem,i64,ints]) (by simp only[go_sem,i64,ints]) ?_
   (try simp only[go_sem]);apply hK;apply zw (zk [2]);simp only[go_sem];apply ze;simp only[go_sem]
abbrev ouR (bs:List Int) (g k:Int):RV:=.ag [ints bs,i64 g,i64 k]
theorem zSb (g:Int) (h:0≤g∧g≤2):zAA Tryz.prog 141 [i64 g] (.bo true):=by
 have g1:decide ((0:Int)≤g)=true:=decide_eq_true h.1
 have g2:decide (g≤(2:Int))=true:=decide_eq_true h.2
 refine zas (rs:=[.bo true]) [.tmp 2] Tryz.func141 rfl (by kernel_rfl) Tryz.ntmps141 rfl (by simp) rfl fun C vs=>?_
 apply zq
 refine zb fun K hK=>?_;simp only[go_sem];apply hK;apply zw (zk [0]);simp only[go_sem]
 apply zq
 refine zb fun K hK=>?_;simp only[go_sem,g1,g2];apply hK;apply zw (zk [2]);simp only[go_sem];apply ze;simp only[go_sem]
theorem zJ7 (bs:List Int) (g k:Int) (h:BdsO bs) (hg:0≤g∧g≤2) (hk:1≤k∧k≤9):zAA Tryz.prog 100 [ouR bs g k] (i64 0):=by
 have h1:=zMN bs h
 have h2:=zSb g hg
 have w1:zAT 1 9 [k]=true:=by simp [zAT];omega
 have c1:=zCR 1 9 [k]
 rw[w1] at c1
 refine zas (rs:=[i64 0]) [.tmp 2] Tryz.func100 rfl (by kernel_rfl) Tryz.ntmps100 rfl (by simp) rfl fun C vs=>?_
 apply zq
 refine zb fun K hK=>?_;simp only[go_sem];apply hK;refine zw (zfP 1 1 [ints bs,i64 g,i64 k] (by omega) rfl rfl) ?_;apply zw (zk [1]);simp only[go_sem]
 repeat apply zq
 refine zb fun K hK=>?_;simp only[go_sem]
 refine zh (h1) rfl (by simp only[go_sem,i64,ints]) (by simp only[go_sem,i64,ints]) ?_
 (try simp only[go_sem])
 refine zh (h2) rfl (by simp only[go_sem,i64,ints]) (by simp only[go_sem,i64,ints]) ?_
 (try simp only[go_sem])
 refine zh (c1) rfl (by simp only[go_sem,i64,ints]) (by simp only[go_sem,i64,ints]) ?_
 (try simp only[go_sem]);apply hK;apply zw (zk [19]);simp only[go_sem]
 apply zc rfl<;>intro hc<;>(try simp only[go_sem] at hc)
 apply zx
 try simp only[go_sem]
 apply zq
 refine zb fun K hK=>?_;simp only[go_sem];apply hK;apply zw (zk [2]);simp only[go_sem];apply ze;simp only[go_sem]
theorem zKv (bs:List Int) (g k m:Int) (h:BdsO bs) (hg:0≤g∧g≤2) (hk:1≤k∧k≤9) (hm:0≤m∧m≤1001):zAA Tryz.prog 67 [ouR bs g k,i64 m] (i64 0):=by
 have h1:=zJ7 bs g k h hg hk
 have w1:zAT 0 1001 [m]=true:=by simp [zAT];omega
 have c1:=zCR 0 1001 [m]
 rw[w1] at c1
 refine zas (rs:=[i64 0]) [.tmp 4] Tryz.func67 rfl (by kernel_rfl) Tryz.ntmps67 rfl (by simp) rfl fun C vs=>?_
 apply zq
 refine zb fun K hK=>?_;simp only[go_sem];apply hK;refine zw (zfP 2 2 [ints bs,i64 g,i64 k] (by omega) rfl rfl) ?_;apply zw (zk [1,2]);simp only[go_sem]
 apply zq
 apply zd
 apply zq
 refine zb fun K hK=>?_;simp only[go_sem]
 have z0:((0:Int) != 0)=false:=rfl
 refine zh (h1) rfl (by simp only[go_sem,i64,ints,z0]) (by simp only[go_sem,i64,ints,z0]) ?_
 (try simp only[go_sem,z0]);apply hK;apply zw (zk [1,2,5]);simp only[go_sem]
 apply zc rfl<;>intro hc<;>(try simp only[go_sem] at hc)
 apply zq
 refine zb fun K hK=>?_;simp only[go_sem]
 refine zh (c1) rfl (by simp only[go_sem,i64,ints]) (by simp only[go_sem,i64,ints]) ?_
 (try simp only[go_sem]);apply hK;apply zw (zk [9]);simp only[go_sem]
 apply zc rfl<;>intro hc<;>(try simp only[go_sem] at hc)
 apply zx
 try simp only[go_sem]
 apply zq
 refine zb fun K hK=>?_;simp only[go_sem];apply hK;apply zw (zk [4]);simp only[go_sem];apply ze;simp only[go_sem]
abbrev brdC (bs:List Int) (g:Int) (cs:List (List Int)):List RV:=[ints bs,i64 g,tabR cs]
abbrev brdP (bs:List Int) (g:Int) (cs:List (List Int)):RV:=.rp (brdC bs g cs)
def zBu (g s b:Int):Int × Bool:=if s-zAD b=0 then (0,zE8 g b) else if s-zAD b=1 then (1,g == 0) else (s-zAD b,decide (1<s-zAD b))
theorem zP1 (bs:List Int) (g:Int) (cs:List (List Int)) (s b:Int) (hs:0≤s∧s≤2000) (hb:0≤b∧b≤499) :
 zAA Tryz.prog 105 [brdP bs g cs,i64 s,.ag [i64 b]] (.tu [i64 (zBu g s b).1,.bo (zBu g s b).2]):=by
 have hw:=zQu b hb
 have ho:=zQx b g hb
 have hsc:=zIZ hb.1 hb.2
 have w1:IntKind.i64.wrap (s-zAD b)=s-zAD b:=by rw[zI]<;>omega
 refine zas (rs:=[i64 (zBu g s b).1,.bo (zBu g s b).2]) [.tmp 6,.tmp 7] Tryz.func105 rfl (by kernel_rfl) Tryz.ntmps105 rfl (by simp) rfl fun C vs=>?_
 apply zq
 refine zb fun K hK=>?_;simp only[go_sem];apply hK;refine zw (zfP 5 5 [i64 b] (by omega) rfl rfl) ?_;apply zw (zk [0,1,5]);simp only[go_sem]
 apply zq
 refine zb fun K hK=>?_;simp only[go_sem]
 refine zh (hw) rfl (by simp only[go_sem,i64,ints,w1]) (by simp only[go_sem,i64,ints,w1]) ?_
 (try simp only[go_sem,w1]);apply hK;apply zw (zk [0,5,6]);simp only[go_sem]
 unfold zBu
 generalize s-zAD b=left at *
 apply zq
 apply zd
 apply zq
 refine zb fun K hK=>?_;simp only[go_sem];apply hK;apply zw (zk [0,5,6,12]);simp only[go_sem]
 by_cases h0:left=0
 ·subst h0
  apply zc rfl<;>intro hc<;>(try simp only[go_sem] at hc)
  apply zq
  refine zg follows (by decide +kernel) (by kernel_rfl) fun K hK=>?_;simp only[go_sem]
  refine zh (ho) rfl (by simp only[go_sem,i64,ints]) (by simp only[go_sem,i64,ints]) ?_
  (try simp only[go_sem]);apply hK;apply zw (zk [6,7]);simp only[go_sem];apply ze;simp only[go_sem]
  try simp
 ·have e0:(left == 0)=false:=by simpa using h0
  rw[e0]
  apply zc rfl<;>intro hc<;>(try simp only[go_sem] at hc)
  apply zq
  refine zb fun K hK=>?_;simp only[go_sem];apply hK;apply zw (zk [0,5,6,21]);simp only[go_sem]
  by_cases h1:left=1
  ·subst h1
   apply zc rfl<;>intro hc<;>(try simp only[go_sem] at hc)
   apply zq
   refine zg follows (by decide +kernel) (by kernel_rfl) fun K hK=>?_;simp only[go_sem];apply hK;apply zw (zk [6,7]);simp only[go_sem];apply ze;simp only[go_sem]
   try simp
  ·have e1:(left == 1)=false:=by simpa using h1
   rw[e1]
   apply zc rfl<;>intro hc<;>(try simp only[go_sem] at hc)
   apply zx
   try simp only[go_sem]
   apply zq
   refine zb fun K hK=>?_;simp only[go_sem];apply hK;apply zw (zk [6,7]);simp only[go_sem];apply ze;simp only[go_sem]
   try simp [h0,h1]
def zAJ (g s:Int) (bs:List Int):List (Int × Int):=bs.filterMap fun b=>if ((zBu g s b).2&&decide (0<s))=true then some (b,(zBu g s b).1) else none
abbrev thrR (x:Int × Int):List RV:=[.ag [i64 x.1],i64 x.2]
theorem zFX (bs:List Int) (g:Int) (cs:List (List Int)) (s:Int) (hs:0≤s∧s≤2000) (hb:∀ b∈bs,0≤b∧b≤499) :
 zGD Tryz.prog true 104 [.rp [brdP bs g cs],.rp [i64 s]] ((zAJ g s bs).map thrR):=by
 refine zGx Tryz.func104 rfl (by kernel_rfl) Tryz.ntmps104 rfl (by simp) fun C ll=>?_
 apply zq
 refine zb fun K hK=>?_;simp only[go_sem,argL]
 intro hl7
 apply hK;apply zw (zk [0,1,2,11,12,13]);simp only[go_sem];apply zd
 refine zup (n:=37) bs.length (fun i vs=>[(0,.r (.yl ll)),(1,.r (.rp [brdP bs g cs])),(2,.r (.rp [i64 s])),(11,.r (ints bs)),(12,.r (i64 bs.length)),(13,.r (i64 i))])
  (fun i=>[(999,.gh Tryz.prog ll true (some ((zAJ g s (bs.drop i)).map thrR)))]) (fun _=>True) 0 (zfo [] ?_ ?_) (Nat.zero_le _) trivial ?_
 ·try simp only[go_sem]
 ·try simp only[go_sem]
 ·intro i vs hi _
  by_cases hin:i<bs.length
  ·obtain⟨b,hbi⟩:=zol hin
   have hbq:=hb b (zmo hbi)
   have hdr:bs.drop i=b::bs.drop (i+1):=zAH hbi
   have haf:=zP1 bs g cs s b hs hbq
   have hcons:zAJ g s (bs.drop i)=if ((zBu g s b).2&&decide (0<s))=true then (b,(zBu g s b).1)::zAJ g s (bs.drop (i+1)) else zAJ g s (bs.drop (i+1)):=by
    rw[hdr]
    unfold zAJ
    rw[List.filterMap_cons]
    by_cases hq:((zBu g s b).2&&decide (0<s))=true
    ·rw[if_pos hq,if_pos hq]
    ·rw[if_neg hq,if_neg hq]
   rw[hcons]
   generalize zBu g s b=x at *
   apply zq
   refine zb fun K hK=>?_;simp only[go_sem,hin];apply hK
   apply zq
   apply zc rfl<;>intro hc<;>(try simp only[go_sem] at hc)
   apply zx
   apply zq
   apply zd
   apply zq
   refine zb fun K hK=>?_;simp only[go_sem,hbi,hin,List.length_map];apply hK;apply zw (zk [0,1,2,5,11,12,13]);simp only[go_sem]
   apply zq
   refine zb fun K hK=>?_;simp only[go_sem]
   refine zh (haf) rfl (by simp only[go_sem,i64,ints]) (by simp only[go_sem,i64,ints]) ?_
   (try simp only[go_sem]);apply hK;apply zw (zk [0,1,2,5,6,7,11,12,13]);simp only[go_sem]
   obtain⟨lf,ok⟩:=x
   cases ok with
   | false =>
     have hgo:(((lf,false):Int × Bool).2&&decide (0<s))=true↔False:=by simp
     simp only[hgo,if_false]
     apply zq
     refine zb fun K hK=>?_;simp only[go_sem];apply hK;apply zw (zk [0,1,2,11,12,13,35]);simp only[go_sem]
     apply zc rfl<;>intro hc<;>(try simp only[go_sem] at hc)
     apply zx
     try simp only[go_sem]
     refine zb fun K hK=>?_;simp only[go_sem];(try simp (disch:=omega) only[zI]);apply hK
     try simp only[go_sem]
     refine⟨by omega,zfo [5] ?_ ?_⟩
     ·try simp only[go_sem]
     ·try simp only[go_sem]
   | true =>
     by_cases hs0:0<s
     ·have hgo:(((lf,true):Int × Bool).2&&decide (0<s))=true:=by simp [hs0]
      simp only[hgo,if_true,List.map_cons]
      have hd0:decide (0<s)=true:=decide_eq_true hs0
      apply zq
      refine zb fun K hK=>?_;simp only[go_sem,hd0,hs0]
      refine zA1 (z:=true) (e:=thrR (b,lf)) (rest:=(zAJ g s (bs.drop (i+1))).map thrR) (by simp only[go_sem]) rfl (by simp only[go_sem]) (.inl rfl) ?_ ?_
      ·simp only[go_sem];apply hK;apply zw (zk [0,1,2,11,12,13,35]);simp only[go_sem]
       apply zc rfl<;>intro hc<;>(try simp only[go_sem] at hc)
       apply zx
       try simp only[go_sem]
       refine zb fun K hK=>?_;simp only[go_sem];(try simp (disch:=omega) only[zI]);apply hK
       try simp only[go_sem]
       refine⟨by omega,zfo [5] ?_ ?_⟩
       ·try simp only[go_sem]
       ·try simp only[go_sem]
      ·simp only[go_sem];apply hK;apply zw (zk [35]);simp only[go_sem]
       apply zc rfl<;>intro hc<;>(try simp only[go_sem] at hc)
       apply ze;simp only[go_sem];exact⟨_,_,.inr rfl⟩
     ·have hgo:(((lf,true):Int × Bool).2&&decide (0<s))=true↔False:=by simp [hs0]
      simp only[hgo,if_false]
      have hd0:decide (0<s)=false:=decide_eq_false hs0
      apply zq
      refine zb fun K hK=>?_;simp only[go_sem,hd0,hs0];apply hK;apply zw (zk [0,1,2,11,12,13,35]);simp only[go_sem]
      apply zc rfl<;>intro hc<;>(try simp only[go_sem] at hc)
      apply zx
      try simp only[go_sem]
      refine zb fun K hK=>?_;simp only[go_sem];(try simp (disch:=omega) only[zI]);apply hK
      try simp only[go_sem]
      refine⟨by omega,zfo [5] ?_ ?_⟩
      ·try simp only[go_sem]
      ·try simp only[go_sem]
  ·have hie:i=bs.length:=by omega
   subst hie
   apply zq
   refine zb fun K hK=>?_;simp only[go_sem,Nat.lt_irrefl];apply hK
   apply zq
   apply zc rfl<;>intro hc<;>(try simp only[go_sem] at hc)
   apply zf;simp only[go_sem]
   have h0:(zAJ g s (bs.drop bs.length)).map thrR=[]:=by simp [zAJ]
   exact⟨ll,true,.inl (by simp only[go_sem,h0])⟩
theorem zGb (bs:List Int) (g:Int) (cs:List (List Int)) (s:Int):zAA Tryz.prog 69 [brdP bs g cs,i64 s] (.fn 104 [.rp [brdP bs g cs],.rp [i64 s]]):=by
 refine zas (rs:=[.fn 104 [.rp [brdP bs g cs],.rp [i64 s]]]) [.tmp 4] Tryz.func69 rfl (by kernel_rfl) Tryz.ntmps69 rfl (by simp) rfl fun C vs=>?_
 apply zq
 refine zb fun K hK=>?_;simp only[go_sem];apply hK
 apply zq
 refine zb fun K hK=>?_;simp only[go_sem];apply hK;apply ze;simp only[go_sem]
 simp [RV.le,zAS.le_refl,zAS]
mutual
theorem zEX:∀ x:RV,RV.le x x
 | .sl _ _=>by simp only[RV.le];exact .inl trivial
 | .ag xs=>by simp only[RV.le];exact zMt xs
 | .fn _ xs=>by simp only[RV.le];exact⟨trivial,zMt xs⟩
 | .rp xs=>by simp only[RV.le];exact zMt xs
 | .un | .bo _ | .it _ _ | .ns | .np | .nf | .tu _ | .st _ | .ud | .yl _ | .sx _ _ | .vl _ | .bf _ _=>by simp only[RV.le]
theorem zMt:∀ xs:List RV,RV.leL xs xs
 | []=>by simp only[RV.leL]
 | x::xs=>by simp only[RV.leL];exact⟨zEX x,zMt xs⟩
end
theorem zQ0 {b:Int}(h:zAb b=true):0<zAD b:=by
 simp only[zAb,Bool.or_eq_true,Bool.and_eq_true,decide_eq_true_eq] at h
 unfold zAD
 refine Int.mul_pos (by omega) (by omega)
set_option maxHeartbeats 4000000
theorem zEC {bs:List Int}(hB:∀ b∈bs,zAb b=true) {g s:Int}{x:Int × Int}(hx:x∈zAJ g s bs):x.1∈bs∧0≤x.2∧x.2<s∧x.2=s-zAD x.1:=by
 unfold zAJ at hx
 obtain⟨b,hb,e⟩:=List.mem_filterMap.1 hx
 split at e
 ·rename_i hc
  injection e with e
  subst e
  have hp:=zQ0 (hB b hb)
  simp only[Bool.and_eq_true,decide_eq_true_eq] at hc
  obtain⟨h1,h2⟩:=hc
  unfold zBu at h1 ⊢
  refine⟨hb,?_⟩
  by_cases q0:s-zAD b=0
  ·simp only[if_pos q0];omega
  ·by_cases q1:s-zAD b=1
   ·simp only[if_neg q0,if_pos q1];omega
   ·simp only[if_neg q0,if_neg q1,decide_eq_true_eq] at h1 ⊢
    exact⟨by omega,by omega,trivial⟩
 ·cases e
theorem zFW (bs:List Int) (g s:Int):(zAJ g s bs).length≤bs.length:=List.length_filterMap_le _ _
def sumT (before:List Int) (l:List (Int × Int)):Int:=(l.map fun x=>before.getD x.2.toNat 0).sum
theorem sumT_snoc (before:List Int) (l:List (Int × Int)) (x:Int × Int):sumT before (l++[x])=sumT before l+before.getD x.2.toNat 0:=by simp [sumT]
def rowO (g:Int) (bs before:List Int):List Int:=(List.range before.length).map fun s:Nat=>sumT before (zAJ g s bs)
def rowS (g:Int) (bs before:List Int) (k:Nat):List Int:=(List.range before.length).map fun s:Nat=>if s<k then sumT before (zAJ g s bs) else 0
theorem zRm (g:Int) (bs before:List Int) (k:Nat):(rowS g bs before k).length=before.length:=by simp [rowS]
theorem zPn (g:Int) (bs before:List Int):rowS g bs before 0=List.replicate before.length 0:=by
 refine List.ext_getElem (by simp [rowS]) fun i h1 h2=>?_
 simp [rowS]
theorem zRn (g:Int) (bs before:List Int):rowS g bs before before.length=rowO g bs before:=by
 unfold rowS rowO
 refine List.map_congr_left fun s hs=>?_
 rw[if_pos (List.mem_range.1 hs)]
theorem zRl (g:Int) (bs before:List Int) (k:Nat):(rowS g bs before k).set k (sumT before (zAJ g k bs))=rowS g bs before (k+1):=by
 refine List.ext_getElem (by simp [rowS]) fun i h1 h2=>?_
 have hi:i<before.length:=by simpa [rowS] using h2
 rw[List.getElem_set]
 simp only[rowS,List.getElem_map,List.getElem_range]
 split
 ·rename_i e;subst e;rw[if_pos (by omega)]
 ·split<;>split<;>first|rfl|omega
theorem zTn (g:Int) (bs before:List Int) (k:Nat) (h:k<before.length):(rowS g bs before k).set k 0=rowS g bs before k:=by
 refine List.ext_getElem (by simp) fun i h1 h2=>?_
 rw[List.getElem_set]
 split
 ·rename_i e;subst e;simp [rowS]
 ·rfl
theorem zLO {before:List Int}{M:Int}(h:∀ x∈before,0≤x∧x≤M) (hM:0≤M):∀ l:List (Int × Int),0≤sumT before l∧sumT before l≤M*l.length
 | []=>by simp [sumT]
 | x::l=>by
   have ih:=zLO h hM l
   have hx:0≤before.getD x.2.toNat 0∧before.getD x.2.toNat 0≤M:=by
    rw[List.getD_eq_getElem?_getD]
    cases e:before[x.2.toNat]? with
    | none=>simp;omega
    | some y=>exact h y (zmo e)
   have e1:sumT before (x::l)=before.getD x.2.toNat 0+sumT before l:=by simp [sumT]
   rw[e1,List.length_cons]
   have:M*((l.length+1:Nat):Int)=M*l.length+M:=by push_cast;rw[Int.mul_add];omega
   omega
abbrev arrN (l:List Int):List (List RV):=l.map fun n=>[i64 n]
theorem zUx (bs:List Int) (g:Int) (cs:List (List Int)) (before:List Int) (hb:∀ b∈bs,zAb b=true∧0≤b∧b≤499) (hl:1≤before.length∧before.length≤1001) (hbl:bs.length≤82) (hM:∀ x∈before,0≤x∧x≤1000000000000) :
 zHO Tryz.prog 102 [brdP bs g cs,ints before] 3 1 (arrN (rowO g bs before)) before.length:=by
 have hth:=zGb bs g cs
 refine zJ8 (n:=34) (.tmp 4) Tryz.func102 rfl (by kernel_rfl) Tryz.ntmps102 rfl (by simp) (fun e he=>by obtain⟨x,_,rfl⟩:=List.mem_map.1 he;rfl) fun C hC=>?_
 apply zq
 refine zb fun K hK=>?_;simp only[go_sem];apply hK;refine zw (zfP 3 3 [ints before] (by omega) rfl rfl) ?_;apply zw (zk [0,3]);simp only[go_sem]
 apply zq
 refine zb fun K hK=>?_;simp only[go_sem,List.length_map];repeat first|intro _|refine⟨by omega,?_⟩
 apply hK;apply zw (zk [0,3,5]);simp only[go_sem]
 repeat apply zq
 refine zb fun K hK=>?_;simp only[go_sem,List.length_map,List.length_replicate]
 intro _
 apply hK;apply zw (zk [0,3,5,13,14]);simp only[go_sem];apply zd
 refine zuv (n:=34) before.length (fun i vs=>[(0,.r (brdP bs g cs)),(3,.r (.rp [ints before])),(5,.pt 5 (vs 5) 0),(13,.r (i64 (before.length:Int))),(14,.r (i64 (i:Int)))])
  (fun i vs=>[(5,.box [.os 11 (vs 11) 1 0 before.length]),(11,.arr 3 1 (arrN (rowS g bs before i)))]) (fun _=>True) 0 (zj [] ?_ ?_) (Nat.zero_le _) trivial ?_
 ·try simp only[go_sem]
  try rfl
 ·try simp only[go_sem]
  rw[zPn]
  try simp
 ·intro i vs hi _
  by_cases hin:i<before.length
  ·apply zq
   refine zb fun K hK=>?_;simp only[go_sem,hin];apply hK;apply zw (zk [0,3,5,13,14,15]);simp only[go_sem]
   apply zq
   apply zc rfl<;>intro hc<;>(try simp only[go_sem] at hc)
   apply zx
   try simp only[go_sem]
   apply zq
   apply zd
   apply zq
   refine zb fun K hK=>?_;simp only[go_sem];apply hK;refine zw (zfP 6 6 [i64 (i:Int)] (by omega) rfl rfl) ?_;apply zw (zk [0,3,5,6,13,14]);simp only[go_sem]
   apply zq
   refine zb fun K hK=>?_;simp only[go_sem]
   refine zh (hth (i:Int)) rfl (by simp only[go_sem,i64,ints]) (by simp only[go_sem,i64,ints]) ?_
   (try simp only[go_sem]);apply hK;apply zw (zk [0,3,5,6,13,14,19]);simp only[go_sem]
   have hB:∀ b∈bs,zAb b=true:=fun b h=>(hb b h).1
   have hmem:=fun x (hx:x∈zAJ g (i:Int) bs)=>zEC hB hx
   have htl:=zFW bs g (i:Int)
   have hsn:=sumT_snoc before
   have hle:=zLO hM (by omega)
   have hset:=zRl g bs before i
   have hat:=zTn g bs before i hin
   have hLl:=zRm g bs before i
   rw[← hset]
   have hit:=zFX bs g cs (i:Int) (by omega) (fun b h=>(hb b h).2)
   generalize hT:zAJ g (i:Int) bs=T at *
   generalize hL:rowS g bs before i=L at *
   apply zd
   refine zCU hC (T.map thrR) hit [0,3,5,6,13,14,19] (by decide) (fun vs=>[(0,.r (brdP bs g cs)),(3,.r (.rp [ints before])),(5,.pt 5 (vs 5) 0),(6,.r (.rp [i64 (i:Int)])),(13,.r (i64 (before.length:Int))),(14,.r (i64 (i:Int))),(19,.r (.fn 104 [.rp [brdP bs g cs],.rp [i64 (i:Int)]]))])
    (fun j vs=>[(5,.box [.os 11 (vs 11) 1 0 before.length]),(11,.arr 3 1 (arrN (L.set i (sumT before (T.take j)))))]) (fun _=>True) (zj [] ?_ ?_) trivial (fun _=>rfl) (fun _=>rfl) (fun _ _=>rfl) (by simp) (fun e he=>by obtain⟨x,_,rfl⟩:=List.mem_map.1 he;rfl) ?_ ?_
   ·try simp only[go_sem]
    try rfl
   ·try simp only[go_sem]
    have e0:L.set i (sumT before [])=L:=hat
    try simp only[List.take_zero,e0]
   ·intro j e vs us C' he _
    rw[List.getElem?_map] at he
    obtain⟨x,hx,rfl⟩:=Option.map_eq_some_iff.1 he
    obtain⟨m1,m2,m3,m4⟩:=hmem x (zmo hx)
    have hj:=(List.getElem?_eq_some_iff.1 hx).1
    refine zb fun K hK=>?_;simp only[go_sem];apply hK
    refine⟨rfl,fun C'=>?_⟩
    apply zw (zk [0,3,5,6,8,13,14,19]);simp only[go_sem];rw[zto hx,hsn]
    have hv:=hle (T.take j)
    have htk:(T.take j).length≤T.length:=by rw[List.length_take];omega
    obtain⟨y,hy⟩:=zol (l:=before) (i:=x.2.toNat) (by omega)
    have hyM:=hM y (zmo hy)
    have hgy:before.getD x.2.toNat 0=y:=by rw[List.getD_eq_getElem?_getD,hy];rfl
    rw[hgy]
    generalize sumT before (T.take j)=v at *
    have hvM:v≤82000000000000:=by
     have h1:(1000000000000:Int)*((T.take j).length:Int)≤1000000000000*82:=Int.mul_le_mul_of_nonneg_left (by omega) (by omega)
     omega
    have w1:IntKind.i64.wrap (v+y)=v+y:=by rw[zI]<;>omega
    have hiL:i<(L.set i v).length:=by rw[List.length_set];omega
    have hgL:(L.set i v)[i]? = some v:=by rw[List.getElem?_set,if_pos rfl,if_pos (by omega)]
    have hss:(L.set i v).set i (v+y)=L.set i (v+y):=by simp
    obtain⟨X,hX⟩:∃ X,X=L.set i v:=⟨_,rfl⟩
    have hXl:X.length=before.length:=by rw[hX,List.length_set];exact hLl
    rw[← hX] at hgL hss ⊢
    rw[← hss]
    have hx2:x.2=((x.2.toNat:Nat):Int):=by omega
    have hx3:x.2.toNat<before.length:=by omega
    rw[hx2]
    generalize x.2.toNat=q at *
    apply zd
    refine zDQ [(5,some 5),(3,none),(6,none),(8,none)] [5] follows (by decide +kernel) (by kernel_rfl) (by simp only[zAO,List.mem_cons,List.not_mem_nil,forall_eq_or_imp,Oc.keyOf,go_sem];simp) (by intro k hk;simp only[List.mem_cons,List.not_mem_nil,or_false] at hk;first|(subst hk;exact⟨_,rfl⟩)|(rcases hk with rfl|rfl<;>exact⟨_,rfl⟩)|(rcases hk with rfl|rfl|rfl<;>exact⟨_,rfl⟩)) fun K hK=>?_
    simp only[go_sem,hy,hx3,hgL,hXl,hin,w1,List.length_map];apply hK
    try simp only[go_sem]
    have hms:(arrN X).set i [RV.it IntKind.i64 (v+y)]=arrN (X.set i (v+y)):=by simp only[arrN,List.map_set]
    rw[hms]
    refine zj (F:=fun _=>[]) [] ?_ ?_
    ·try simp only[go_sem]
    ·try simp only[go_sem]
   ·intro vs us _
    have hTl:(T.map thrR).length=T.length:=List.length_map _
    try simp only[go_sem]
    refine zw (zBk rfl) ?_
    try simp only[List.length_map,List.take_length]
    refine zb fun K hK=>?_;simp only[go_sem];(try simp (disch:=omega) only[zI]);apply hK
    try simp only[go_sem]
    refine⟨by omega,zj [] ?_ ?_⟩
    ·try simp only[go_sem]
    ·try simp only[go_sem]
  ·have hie:i=before.length:=by omega
   subst hie
   rw[zRn]
   apply zq
   refine zb fun K hK=>?_;simp only[go_sem,Nat.lt_irrefl];apply hK;apply zw (zk [5,15]);simp only[go_sem]
   apply zq
   apply zc rfl<;>intro hc<;>(try simp only[go_sem] at hc)
   apply zf;simp only[go_sem]
   apply zq
   refine zb fun K hK=>?_;simp only[go_sem];apply hK;apply zw (zk [4]);simp only[go_sem];apply ze;simp only[go_sem];exact⟨11,vs 11,rfl,rfl⟩
end Go.Proofs.YtgfbenanljjgaaaGreat.Du

namespace Go.Proofs.YtgfbenanljjgaaaGreat.Du.Th
open Go Go.Oc
set_option maxRecDepth 8000
def zMc (d L H:Int) (x:Bd):Bd:=⟨x.b,max x.lo (d-(H-x.hi)),min x.hi (d-(L-x.lo))⟩
def zBj (d:Int) (l:List Bd):List Bd:=l.map (zMc d (loS l) (hiS l))
theorem zEm {d:Int}{a:Am}(h:zC9 d a=true):zAb a.at_=true∧a.beds≠[]∧zCK none a.beds=true∧chOk d a.beds=true∧loS a.beds≤d∧d≤hiS a.beds:=by
 simp only[zC9,Bool.and_eq_true,decide_eq_true_eq,Bool.not_eq_true'] at h
 obtain⟨⟨⟨⟨⟨h1,h2⟩,h3⟩,h4⟩,h5⟩,h6⟩:=h
 exact⟨h1,fun e=>(by rw[e] at h2;cases h2),h3,h4,h5,h6⟩
theorem zEk {d:Int}{l:List Am}(h:zAe d l=0):l.length≤20∧(∀ a∈l,a.beds.length≤10)∧l≠[]∧(1≤d∧d≤3000)∧∀ a∈l,zC9 d a=true:=by
 unfold zAe at h
 split at h
 ·cases h
 rename_i h1
 split at h
 ·cases h
 rename_i h2
 split at h
 ·rename_i h3
  simp only[Bool.or_eq_true,decide_eq_true_eq,List.any_eq_true,not_or,not_exists,not_and,Nat.not_lt,Bool.not_eq_true,Bool.not_eq_false',Bool.and_eq_true] at h1 h2
  refine⟨h1.1,h1.2,fun e=>?_,by simpa using h2.2,List.all_eq_true.1 h3⟩
  rw[e] at h2
  simp at h2
 ·cases h
def zCX (d:Int) (a:Am):Am:=⟨a.at_,zBj d a.beds⟩
def cmpI (x y:Int):Int:=if x<y then -1 else if y<x then 1 else 0
theorem zTL (n:Int):zAA Tryz.prog 79 [i64 n] (.bo false):=by
 refine zas (rs:=[.bo false]) [.tmp 2] Tryz.func79 rfl (by kernel_rfl) Tryz.ntmps79 rfl (by simp) rfl fun C vs=>?_
 apply zq
 refine zb fun K hK=>?_;simp only[go_sem];apply hK;clear hK K
 apply zq
 refine zb fun K hK=>?_;simp only[go_sem];apply hK;clear hK K;apply ze;simp only[go_sem]
 simp
theorem zEM (x y:Int):zAA Tryz.prog 52 [i64 x,i64 y] (i64 (cmpI x y)):=by
 refine zas (rs:=[i64 (cmpI x y)]) [.tmp 4] Tryz.func52 rfl (by kernel_rfl) Tryz.ntmps52 rfl (by simp) rfl fun C vs=>?_
 apply zq
 refine zb fun K hK=>?_;simp only[go_sem];apply hK;clear hK K
 apply zq
 refine zb fun K hK=>?_;simp only[go_sem]
 refine zh (zTL x) rfl (by simp only[go_sem,i64,ints]) (by simp only[go_sem,i64,ints]) ?_
 (try simp only[go_sem]);apply hK;clear hK K
 apply zq
 refine zb fun K hK=>?_;simp only[go_sem]
 refine zh (zTL y) rfl (by simp only[go_sem,i64,ints]) (by simp only[go_sem,i64,ints]) ?_
 (try simp only[go_sem]);apply hK;clear hK K
 repeat apply zq
 refine zb fun K hK=>?_;simp only[go_sem];apply hK;clear hK K
 apply zc rfl<;>intro hc<;>(try simp only[go_sem] at hc)
 apply zx
 try simp only[go_sem]
 repeat apply zq
 refine zb fun K hK=>?_;simp only[go_sem];apply hK;clear hK K
 apply zc rfl<;>intro hc<;>(try simp only[go_sem] at hc)
 apply zx
 try simp only[go_sem]
 repeat apply zq
 refine zb fun K hK=>?_;simp only[go_sem];apply hK;clear hK K
 apply zc rfl<;>intro hc<;>(try simp only[go_sem] at hc)
 ·apply zq
  refine zb fun K hK=>?_;simp only[go_sem];apply hK;clear hK K;apply ze;simp only[go_sem]
  simp [cmpI,hc]
 apply zx
 try simp only[go_sem]
 repeat apply zq
 refine zb fun K hK=>?_;simp only[go_sem];apply hK;clear hK K
 have h1:=hc
 apply zc rfl<;>intro hc<;>(try simp only[go_sem] at hc)
 ·apply zq
  refine zb fun K hK=>?_;simp only[go_sem];apply hK;clear hK K;apply ze;simp only[go_sem]
  have:¬ x<y:=by omega
  simp [cmpI,hc,this]
 apply zx
 try simp only[go_sem]
 apply zq
 refine zb fun K hK=>?_;simp only[go_sem];apply hK;clear hK K;apply ze;simp only[go_sem]
 have h2:¬ x<y:=by omega
 have h3:¬ y<x:=by omega
 simp [cmpI,h2,h3]
def insB (lt:Nat→Nat→Bool) (x:Nat):List Nat→List Nat
 | []=>[x]
 | y::ys=>if lt x y then y::insB lt x ys else x::y::ys
def sortB (lt:Nat→Nat→Bool):List Nat→List Nat→List Nat
 | [],R=>R
 | x::xs,R=>sortB lt xs (insB lt x R)
def zBq (lt:Nat→Nat→Bool) (l:List Nat):List Nat:=(sortB lt l []).reverse
theorem zNP (lt:Nat→Nat→Bool) (x:Nat):∀ R,(insB lt x R).length=R.length+1
 | []=>rfl
 | y::R=>by
   unfold insB
   split
   ·simp [zNP lt x R]
   ·rfl
theorem zGw (lt:Nat→Nat→Bool) (x:Nat):∀ (R:List Nat) (k:Nat),(∀ y∈R.take k,lt x y=true)→insB lt x R=R.take k++insB lt x (R.drop k)
 | R,0,_=>by simp
 | [],k+1,_=>by simp
 | y::R, k+1, h=>by
   have hy:lt x y=true:=h y (by simp)
   have ih:=zGw lt x R k fun z hz=>h z (by simp [hz])
   simp only[List.take_succ_cons,List.drop_succ_cons,List.cons_append];rw[← ih]
   simp [insB,hy]
theorem zFb (lt:Nat→Nat→Bool):∀ (l:List Nat) (x:Nat) (R:List Nat),sortB lt (l++[x]) R=insB lt x (sortB lt l R)
 | [],_,_=>rfl
 | y::l,x,R=>by simp only[List.cons_append,sortB];exact zFb lt l x _
theorem zEt (lt:Nat→Nat→Bool):∀ (l R:List Nat),(sortB lt l R).length=l.length+R.length
 | [],R=>by simp [sortB]
 | x::l,R=>by simp only[sortB];rw[zEt lt l,zNP];simp;omega
theorem zIt (lt:Nat→Nat→Bool) (x z:Nat):∀ R,z∈insB lt x R↔z=x∨z∈R
 | []=>by simp [insB]
 | y::R=>by
   unfold insB
   split
   ·simp only[List.mem_cons,zIt lt x z R]
    constructor
    ·rintro (h|h|h)<;>simp [h]
    ·rintro (h|h|h)<;>simp [h]
   ·simp
theorem zFA (lt:Nat→Nat→Bool) (z:Nat):∀ l R,z∈sortB lt l R↔z∈l∨z∈R
 | [],R=>by simp [sortB]
 | x::l, R=>by
   simp only[sortB];rw[zFA lt z l,zIt]
   simp only[List.mem_cons]
   constructor
   ·rintro (h|h|h)<;>simp [h]
   ·rintro ((h|h)|h)<;>simp [h]
def zBi (R:List Nat) (x k:Nat) (rest:List Nat):List Nat:=(R.drop k).reverse++x::((R.take k).reverse++rest)
theorem zNR (R:List Nat) (x k:Nat) (rest:List Nat) (hk:k≤R.length):(zBi R x k rest).length=R.length+1+rest.length:=by
 simp [zBi];omega
theorem zQS (R:List Nat) (x k:Nat) (rest:List Nat) (hk:k≤R.length):(zBi R x k rest)[R.length-k]? = some x:=by
 unfold zBi
 rw[List.getElem?_append_right (by simp)]
 simp
theorem zGy {R:List Nat}{x k y:Nat}{rest:List Nat}(hy:R[k]? = some y):(zBi R x k rest)[R.length-k-1]? = some y∧(zBi R x k rest)=(R.drop (k+1)).reverse++y::x::((R.take k).reverse++rest)∧zBi R x (k+1) rest=(R.drop (k+1)).reverse++x::y::((R.take k).reverse++rest):=by
 have hk:=(List.getElem?_eq_some_iff.1 hy).1
 have hd:=zAH hy
 have ht:=zto hy
 have e1:(zBi R x k rest)=(R.drop (k+1)).reverse++y::x::((R.take k).reverse++rest):=by
  unfold zBi;rw[hd];simp
 refine⟨?_,e1,by unfold zBi;rw[ht];simp⟩
 rw[e1,List.getElem?_append_right (by simp;omega)]
 have:R.length-k-1-(R.drop (k+1)).reverse.length=0:=by simp;omega
 rw[this];rfl
theorem zKV {α:Type}(g:Nat→α) {R:List Nat}{x k y:Nat}{rest:List Nat}(hy:R[k]? = some y) :
 (((zBi R x k rest).map g).set (R.length-k) (g y)).set (R.length-k-1) (g x)=(zBi R x (k+1) rest).map g:=by
 obtain⟨_,e1,e2⟩:=zGy (x:=x) (rest:=rest) hy
 have hk:=(List.getElem?_eq_some_iff.1 hy).1
 rw[e1,e2,← List.map_set,← List.map_set]
 congr 1
 have hl:(R.drop (k+1)).reverse.length=R.length-k-1:=by simp;omega
 generalize (R.drop (k+1)).reverse=A at hl
 generalize (R.take k).reverse++rest=B
 have e3:R.length-k=A.length+1:=by omega
 rw[e3,Nat.add_sub_cancel]
 rw[List.set_append_right _ _ (by omega)]
 simp only[Nat.add_sub_cancel_left,List.set_cons_succ,List.set_cons_zero];rw[List.set_append_right _ _ (by omega)]
 simp
theorem zGO {vs:Nat→Nat}{k:Nat}(h:Lent vs):Lent (upd vs k 0):=fun j hj=>by
 unfold upd;split
 ·rfl
 ·exact h j hj
abbrev idx (l:List Nat):List (List RV):=l.map fun (x:Nat)=>[i64 (x:Int)]
theorem zKS (lt:Nat→Nat→Bool) (c:Nat→Nat→Int) (f:Nat) (caps:List RV) (l:List Nat) (hl:l.length≤1000) (hlt:∀ x y,lt x y=decide (c x y<0))
 (hcc:∀ x∈l,∀ y∈l,zAA Tryz.prog f (i64 (x:Int)::i64 (y:Int)::caps) (i64 (c x y))) :
 zA6 Tryz.prog 200 [(1000,.arr 3 1 (idx l))] [(1000,.arr 3 1 (idx (zBq lt l)))] [.os 1000 0 1 0 l.length,.r (i64 0),.r (i64 l.length),.r (.fn f caps)] (.tu []):=by
 refine zAd (n:=53) (rs:=[]) _ _ [] Tryz.func200 rfl (by kernel_rfl) Tryz.ntmps200 rfl (by simp) rfl rfl fun C=>?_
 have hmem:∀ i z,z∈sortB lt (l.take i) []→z∈l:=fun i z hz=>by
  rw[zFA] at hz
  rcases hz with hz|hz
  ·exact List.mem_of_mem_take hz
  ·cases hz
 apply zq
 refine zb fun K hK=>?_;simp only[go_sem];(try simp (disch:=omega) only[zI]);apply hK;clear hK K;apply zw (zk [0,1,2,3,8]);simp only[go_sem];apply zd
 refine zBR (n:=53) (max l.length 1) (fun i vs=>[(0,.os 1000 0 1 0 l.length),(1,.r (i64 0)),(2,.r (i64 l.length)),(3,.r (.fn f caps)),(8,.r (i64 i))])
  (fun i=>[(1000,.arr 3 1 (idx ((sortB lt (l.take i) []).reverse++l.drop i)))]) (fun i=>1≤i) 1 (zAY [] zDy ?_ ?_) (by omega) (Nat.le_refl _) ?_
 ·try simp only[go_sem]
 ·simp only[go_sem]
  cases l with
  | nil=>rfl
  | cons x l=>simp [sortB,insB]
 ·intro i vs hv hi hi1
  have hv0:=hv 1000 (by omega)
  repeat apply zq
  refine zb fun K hK=>?_;simp only[go_sem];apply hK;clear hK K;apply zw (zk [0,1,2,3,8,14]);simp only[go_sem]
  apply zc rfl<;>intro hc<;>(try simp only[go_sem] at hc)
  ·have hci:i<l.length:=by omega
   obtain⟨x,hx⟩:=zol hci
   obtain⟨R,hR⟩:∃ R,R=sortB lt (l.take i) []:=⟨_,rfl⟩
   have hRl:R.length=i:=by rw[hR,zEt];simp;omega
   have hRm:∀ z∈R,z∈l:=fun z hz=>hmem i z (hR▸hz)
   have hnx:sortB lt (l.take (i+1)) []=insB lt x R:=by rw[zto hx,zFb,hR]
   have hst:(sortB lt (l.take i) []).reverse++l.drop i=zBi R x 0 (l.drop (i+1)):=by rw[← hR,zAH hx];simp [zBi]
   rw[hst]
   apply zx
   apply zq
   apply zd
   apply zq
   refine zb fun K hK=>?_;simp only[go_sem];apply hK;clear hK K;apply zw (zk [0,1,2,3,8,9]);simp only[go_sem];apply zd
   refine zBR (n:=53) i (fun k vs=>[(0,.os 1000 0 1 0 l.length),(1,.r (i64 0)),(2,.r (i64 l.length)),(3,.r (.fn f caps)),(8,.r (i64 i)),(9,.r (i64 (i-k:Nat)))])
    (fun k=>[(1000,.arr 3 1 (idx (zBi R x k (l.drop (i+1)))))]) (fun k=>∀ y∈R.take k,lt x y=true) 0 (zAY [] hv ?_ ?_) (Nat.zero_le _) (by simp) ?_
   ·try simp only[go_sem]
   ·try simp only[go_sem]
   ·intro k vs hv hk hI
    have hv0:=hv 1000 (by omega)
    have hins:=zGw lt x R k hI
    have done:insB lt x (R.drop k)=x::R.drop k→sortB lt (l.take (i+1)) []=R.take k++x::R.drop k:=fun h=>by rw[hnx,hins,h]
    by_cases hk0:k=i
    ·have e0:i-k=0:=by omega
     repeat apply zq
     refine zAF [(0,some 1000)] follows (by decide +kernel) (by kernel_rfl) (by simp only[zAO,List.mem_cons,List.not_mem_nil,forall_eq_or_imp,Oc.keyOf,go_sem];simp) fun K hK=>?_
     simp only[go_sem,hv0,e0];apply hK;clear hK K;apply zw (zk [0,1,2,3,8,9,34]);simp only[go_sem]
     apply zc rfl<;>intro hc<;>(try simp only[go_sem] at hc)
     apply zf;simp only[go_sem];refine zb fun K hK=>?_;simp only[go_sem];(try simp (disch:=omega) only[zI]);apply hK;clear hK K
     try simp only[go_sem]
     refine⟨by omega,zAY [] hv ?_ ?_⟩
     ·try simp only[go_sem]
     ·have hd0:R.drop k=[]:=List.drop_eq_nil_of_le (by omega)
      have:=done (by rw[hd0];rfl)
      simp only[go_sem,this]
      simp [zBi]
    ·obtain⟨y,hy⟩:=zol (l:=R) (i:=k) (by omega)
     obtain⟨j,hj⟩:∃ j,i-k=j+1:=⟨i-k-1,by omega⟩
     have hjs:IntKind.i64.wrap ((j:Int)+1-1)=j:=by rw[zI]<;>omega
     have hlen:(zBi R x k (l.drop (i+1))).length=l.length:=by rw[zNR _ _ _ _ (by omega),List.length_drop];omega
     have hxa:(zBi R x k (l.drop (i+1)))[j+1]? = some x:=by rw[← hj,← hRl];exact zQS R x k _ (by omega)
     have hya:(zBi R x k (l.drop (i+1)))[j]? = some y:=by
      have:=(zGy (x:=x) (rest:=l.drop (i+1)) hy).1
      rw[hRl,hj] at this
      exact this
     have hcall:=hcc x (zmo hx) y (hRm y (zmo hy))
     have hpos:(0<(j:Int)+1)=True:=by simp
     have hlxy:=hlt x y
     repeat apply zq
     refine zAF [(0,some 1000)] follows (by decide +kernel) (by kernel_rfl) (by simp only[zAO,List.mem_cons,List.not_mem_nil,forall_eq_or_imp,Oc.keyOf,go_sem];simp) fun K hK=>?_
     simp only[go_sem,hv0,hj,hjs,hxa,hya,hlen,hpos]
     refine⟨by omega,by omega,?_⟩
     refine zh (hcall) rfl (by simp only[go_sem,i64,ints,hv0]) (by simp only[go_sem,i64,ints,hv0]) ?_
     (try simp only[go_sem,hv0]);apply hK;clear hK K;apply zw (zk [0,1,2,3,8,9,34]);simp only[go_sem]
     cases hcx:decide (c x y<0)
     ·skip
      apply zc rfl<;>intro hc<;>(try simp only[go_sem] at hc)
      apply zf;simp only[go_sem];refine zb fun K hK=>?_;simp only[go_sem];(try simp (disch:=omega) only[zI]);apply hK;clear hK K
      try simp only[go_sem]
      refine⟨by omega,zAY [] hv ?_ ?_⟩
      ·try simp only[go_sem]
      ·have:=done (by rw[zAH hy];simp [insB,hlxy,hcx])
       simp only[go_sem,this]
       simp [zBi]
     ·skip
      apply zc rfl<;>intro hc<;>(try simp only[go_sem] at hc)
      apply zx
      try simp only[go_sem]
      apply zq
      apply zd
      have hset:((idx (zBi R x k (l.drop (i+1)))).set (j+1) [i64 (y:Int)]).getD j []=[i64 (y:Int)]:=by
       rw[List.getD_eq_getElem?_getD,List.getElem?_set_ne (by omega),List.getElem?_map,hya];rfl
      have hsw:=zKV (fun (x:Nat)=>[i64 (x:Int)]) (x:=x) (rest:=l.drop (i+1)) hy
      rw[hRl,hj] at hsw
      simp only[Nat.add_sub_cancel] at hsw
      refine zAF [(0,some 1000)] follows (by decide +kernel) (by kernel_rfl) (by simp only[zAO,List.mem_cons,List.not_mem_nil,forall_eq_or_imp,Oc.keyOf,go_sem];simp) fun K hK=>?_
      simp only[go_sem,hv0,hj,hjs,hxa,hya,hlen,hset,List.length_set]
      repeat' first|intro _|refine And.intro ?_ ?_
      all_goals first|omega|skip
      all_goals (refine hK _ ?_;clear hK K)
      apply zw (zk [0,1,2,3,8,9]);simp only[go_sem];refine zb fun K hK=>?_;simp only[go_sem,hjs];apply hK;clear hK K
      try simp only[go_sem]
      have hj2:i-(k+1)=j:=by omega
      refine⟨by omega,?_,zAY [] (zGO (zGO hv)) ?_ ?_⟩
      ·rw[zto hy]
       intro z hz
       rcases List.mem_append.1 hz with hz|hz
       ·exact hI z hz
       ·simp only[List.mem_singleton] at hz
        subst hz
        rw[hlxy,hcx]
      ·simp only[go_sem,hj2]
      ·simp only[go_sem];exact congrArg (fun z=>[(1000,RowC.arr 3 1 z)]) hsw
  ·apply zf;simp only[go_sem]
   have h1:l.take i=l:=List.take_of_length_le (by omega)
   have h2:l.drop i=[]:=List.drop_eq_nil_of_le (by omega)
   rw[h1,h2,List.append_nil]
   rfl
end Go.Proofs.YtgfbenanljjgaaaGreat.Du.Th

namespace Go.Proofs.YtgfbenanljjgaaaGreat.Du.Th.Ai
open Go Go.Oc
set_option maxRecDepth 8000
abbrev arrV (l:List Int):List (List RV):=l.map fun n=>[i64 n]
abbrev fnS (s:Bool):AV:=.fn 186 [.r (.rp [.bo s]),.pt 1001 0 0]
abbrev zLX (l:List Nat) (vals:List Int):List (Nat × RowC):=[(1000,.arr 3 1 (idx l)),(1001,.box [.os 1002 0 1 0 vals.length]),(1002,.arr 3 1 (arrV vals))]
theorem zI1 (lt:Nat→Nat→Bool) (c:Nat→Nat→Int) (s:Bool) (vals:List Int) (l:List Nat) (hl:l.length≤1000) (hlt:∀ x y,lt x y=decide (c x y<0))
 (hcc:∀ x∈l,∀ y∈l,zAA Tryz.prog 186 [i64 (x:Int),i64 (y:Int),.rp [.bo s],.rp [ints vals]] (i64 (c x y))) :
 zA6 Tryz.prog 200 (zLX l vals) (zLX (zBq lt l) vals) [.os 1000 0 1 0 l.length,.r (i64 0),.r (i64 l.length),fnS s] (.tu []):=by
 refine zAd (n:=53) (rs:=[]) _ _ [] Tryz.func200 rfl (by kernel_rfl) Tryz.ntmps200 rfl (by simp) rfl rfl fun C=>?_
 have hmem:∀ i z,z∈sortB lt (l.take i) []→z∈l:=fun i z hz=>by
  rw[zFA] at hz
  rcases hz with hz|hz
  ·exact List.mem_of_mem_take hz
  ·cases hz
 apply zq
 refine zb fun K hK=>?_;simp only[go_sem];(try simp (disch:=omega) only[zI]);apply hK;clear hK K;apply zw (zk [0,1,2,3,8]);simp only[go_sem];apply zd
 refine zBR (n:=53) (max l.length 1) (fun i vs=>[(0,.os 1000 0 1 0 l.length),(1,.r (i64 0)),(2,.r (i64 l.length)),(3,fnS s),(8,.r (i64 i))])
  (fun i=>[(1000,.arr 3 1 (idx ((sortB lt (l.take i) []).reverse++l.drop i))),(1001,.box [.os 1002 0 1 0 vals.length]),(1002,.arr 3 1 (arrV vals))]) (fun i=>1≤i) 1 (zAY [] zDy ?_ ?_) (by omega) (Nat.le_refl _) ?_
 ·try simp only[go_sem]
 ·simp only[go_sem]
  cases l with
  | nil=>rfl
  | cons x l=>simp [sortB,insB]
 ·intro i vs hv hi hi1
  have hv0:=hv 1000 (by omega)
  have hv1:=hv 1001 (by omega)
  have hv2:=hv 1002 (by omega)
  repeat apply zq
  refine zb fun K hK=>?_;simp only[go_sem];apply hK;clear hK K;apply zw (zk [0,1,2,3,8,14]);simp only[go_sem]
  apply zc rfl<;>intro hc<;>(try simp only[go_sem] at hc)
  ·have hci:i<l.length:=by omega
   obtain⟨x,hx⟩:=zol hci
   obtain⟨R,hR⟩:∃ R,R=sortB lt (l.take i) []:=⟨_,rfl⟩
   have hRl:R.length=i:=by rw[hR,zEt];simp;omega
   have hRm:∀ z∈R,z∈l:=fun z hz=>hmem i z (hR▸hz)
   have hnx:sortB lt (l.take (i+1)) []=insB lt x R:=by rw[zto hx,zFb,hR]
   have hst:(sortB lt (l.take i) []).reverse++l.drop i=zBi R x 0 (l.drop (i+1)):=by rw[← hR,zAH hx];simp [zBi]
   rw[hst]
   apply zx
   apply zq
   apply zd
   apply zq
   refine zb fun K hK=>?_;simp only[go_sem];apply hK;clear hK K;apply zw (zk [0,1,2,3,8,9]);simp only[go_sem];apply zd
   refine zBR (n:=53) i (fun k vs=>[(0,.os 1000 0 1 0 l.length),(1,.r (i64 0)),(2,.r (i64 l.length)),(3,fnS s),(8,.r (i64 i)),(9,.r (i64 (i-k:Nat)))])
    (fun k=>[(1000,.arr 3 1 (idx (zBi R x k (l.drop (i+1))))),(1001,.box [.os 1002 0 1 0 vals.length]),(1002,.arr 3 1 (arrV vals))]) (fun k=>∀ y∈R.take k,lt x y=true) 0 (zAY [] hv ?_ ?_) (Nat.zero_le _) (by simp) ?_
   ·try simp only[go_sem]
   ·try simp only[go_sem]
   ·intro k vs hv hk hI
    have hv0:=hv 1000 (by omega)
    have hv1:=hv 1001 (by omega)
    have hv2:=hv 1002 (by omega)
    have hins:=zGw lt x R k hI
    have done:insB lt x (R.drop k)=x::R.drop k→sortB lt (l.take (i+1)) []=R.take k++x::R.drop k:=fun h=>by rw[hnx,hins,h]
    by_cases hk0:k=i
    ·have e0:i-k=0:=by omega
     repeat apply zq
     refine zAF [(0,some 1000)] follows (by decide +kernel) (by kernel_rfl) (by simp only[zAO,List.mem_cons,List.not_mem_nil,forall_eq_or_imp,Oc.keyOf,go_sem];simp) fun K hK=>?_
     simp only[go_sem,hv0,hv1,hv2,e0];apply hK;clear hK K;apply zw (zk [0,1,2,3,8,9,34]);simp only[go_sem]
     apply zc rfl<;>intro hc<;>(try simp only[go_sem] at hc)
     apply zf;simp only[go_sem];refine zb fun K hK=>?_;simp only[go_sem];(try simp (disch:=omega) only[zI]);apply hK;clear hK K
     try simp only[go_sem]
     refine⟨by omega,zAY [] hv ?_ ?_⟩
     ·try simp only[go_sem]
     ·have hd0:R.drop k=[]:=List.drop_eq_nil_of_le (by omega)
      have:=done (by rw[hd0];rfl)
      simp only[go_sem,this]
      simp [zBi]
    ·obtain⟨y,hy⟩:=zol (l:=R) (i:=k) (by omega)
     obtain⟨j,hj⟩:∃ j,i-k=j+1:=⟨i-k-1,by omega⟩
     have hjs:IntKind.i64.wrap ((j:Int)+1-1)=j:=by rw[zI]<;>omega
     have hlen:(zBi R x k (l.drop (i+1))).length=l.length:=by rw[zNR _ _ _ _ (by omega),List.length_drop];omega
     have hxa:(zBi R x k (l.drop (i+1)))[j+1]? = some x:=by rw[← hj,← hRl];exact zQS R x k _ (by omega)
     have hya:(zBi R x k (l.drop (i+1)))[j]? = some y:=by
      have:=(zGy (x:=x) (rest:=l.drop (i+1)) hy).1
      rw[hRl,hj] at this
      exact this
     have hcall:=hcc x (zmo hx) y (hRm y (zmo hy))
     have hpos:(0<(j:Int)+1)=True:=by simp
     have hlxy:=hlt x y
     repeat apply zq
     refine zAF [(0,some 1000)] follows (by decide +kernel) (by kernel_rfl) (by simp only[zAO,List.mem_cons,List.not_mem_nil,forall_eq_or_imp,Oc.keyOf,go_sem];simp) fun K hK=>?_
     simp only[go_sem,hv0,hv1,hv2,hj,hjs,hxa,hya,hlen,hpos]
     refine⟨by omega,by omega,?_⟩
     refine zh (hcall) rfl (by simp only[go_sem,i64,ints,hv0,hv1,hv2,fnS]) (by simp only[go_sem,i64,ints,hv0,hv1,hv2,fnS]) ?_
     (try simp only[go_sem,hv0,hv1,hv2,fnS]);apply hK;clear hK K;apply zw (zk [0,1,2,3,8,9,34]);simp only[go_sem]
     cases hcx:decide (c x y<0)
     ·skip
      apply zc rfl<;>intro hc<;>(try simp only[go_sem] at hc)
      apply zf;simp only[go_sem];refine zb fun K hK=>?_;simp only[go_sem];(try simp (disch:=omega) only[zI]);apply hK;clear hK K
      try simp only[go_sem]
      refine⟨by omega,zAY [] hv ?_ ?_⟩
      ·try simp only[go_sem]
      ·have:=done (by rw[zAH hy];simp [insB,hlxy,hcx])
       simp only[go_sem,this]
       simp [zBi]
     ·skip
      apply zc rfl<;>intro hc<;>(try simp only[go_sem] at hc)
      apply zx
      try simp only[go_sem]
      apply zq
      apply zd
      have hset:((idx (zBi R x k (l.drop (i+1)))).set (j+1) [i64 (y:Int)]).getD j []=[i64 (y:Int)]:=by
       rw[List.getD_eq_getElem?_getD,List.getElem?_set_ne (by omega),List.getElem?_map,hya];rfl
      have hsw:=zKV (fun (x:Nat)=>[i64 (x:Int)]) (x:=x) (rest:=l.drop (i+1)) hy
      rw[hRl,hj] at hsw
      simp only[Nat.add_sub_cancel] at hsw
      refine zAF [(0,some 1000)] follows (by decide +kernel) (by kernel_rfl) (by simp only[zAO,List.mem_cons,List.not_mem_nil,forall_eq_or_imp,Oc.keyOf,go_sem];simp) fun K hK=>?_
      simp only[go_sem,hv0,hv1,hv2,hj,hjs,hxa,hya,hlen,hset,List.length_set]
      repeat' first|intro _|refine And.intro ?_ ?_
      all_goals first|omega|skip
      all_goals (refine hK _ ?_;clear hK K)
      apply zw (zk [0,1,2,3,8,9]);simp only[go_sem];refine zb fun K hK=>?_;simp only[go_sem,hjs];apply hK;clear hK K
      try simp only[go_sem]
      have hj2:i-(k+1)=j:=by omega
      refine⟨by omega,?_,zAY [] (zGO (zGO hv)) ?_ ?_⟩
      ·rw[zto hy]
       intro z hz
       rcases List.mem_append.1 hz with hz|hz
       ·exact hI z hz
       ·simp only[List.mem_singleton] at hz
        subst hz
        rw[hlxy,hcx]
      ·simp only[go_sem,hj2]
      ·simp only[go_sem];exact congrArg (fun z=>[(1000,RowC.arr 3 1 z),(1001,RowC.box [.os 1002 0 1 0 vals.length]),(1002,RowC.arr 3 1 (arrV vals))]) hsw
  ·apply zf;simp only[go_sem]
   have h1:l.take i=l:=List.take_of_length_le (by omega)
   have h2:l.drop i=[]:=List.drop_eq_nil_of_le (by omega)
   rw[h1,h2,List.append_nil]
   rfl
set_option maxHeartbeats 4000000
theorem zQ7 (b:Int) (hb:0≤b∧b≤499):zAA Tryz.prog 182 [i64 b] (i64 (zAD b)):=by
 have e1:Int.tdiv b 100=b / 100:=Int.tdiv_eq_ediv_of_nonneg hb.1
 have e2:Int.tmod b 100=b % 100:=Int.tmod_eq_emod_of_nonneg hb.1
 have h1:0≤b / 100∧b / 100≤4:=by omega
 have h2:0≤b % 100∧b % 100≤99:=by omega
 have h3:=Int.mul_nonneg h1.1 h2.1
 have h4:=Int.mul_le_mul h1.2 h2.2 h2.1 (show (0:Int)≤4 by omega)
 have w1:IntKind.i64.wrap (b / 100)=b / 100:=by rw[zI]<;>omega
 have w2:IntKind.i64.wrap (b % 100)=b % 100:=by rw[zI]<;>omega
 have w3:IntKind.i64.wrap (b / 100*(b % 100))=b / 100*(b % 100):=by rw[zI]<;>omega
 have hs:zAD b=b / 100*(b % 100):=rfl
 rw[hs]
 refine zas (rs:=[i64 (b / 100*(b % 100))]) [.tmp 2] Tryz.func182 rfl (by kernel_rfl) Tryz.ntmps182 rfl (by simp) rfl fun C vs=>?_
 apply zq
 refine zb fun K hK=>?_;simp only[go_sem];apply hK;apply zw (zk [0]);simp only[go_sem]
 apply zq
 refine zb fun K hK=>?_;simp only[go_sem,e1,e2,w1,w2,w3];apply hK;apply zw (zk [2]);simp only[go_sem];apply ze;simp only[go_sem]
def opA (g b:Int):Bool:=if g=1 then decide (b / 100=2) else if g=2 then decide (2≤b / 100) else decide (b≠0)
theorem zRE (b g:Int) (hb:0≤b∧b≤499):zAA Tryz.prog 183 [i64 b,i64 g] (.bo (opA g b)):=by
 have e1:Int.tdiv b 100=b / 100:=Int.tdiv_eq_ediv_of_nonneg hb.1
 have w1:IntKind.i64.wrap (b / 100)=b / 100:=by rw[zI]<;>omega
 refine zas (rs:=[.bo (opA g b)]) [.tmp 4] Tryz.func183 rfl (by kernel_rfl) Tryz.ntmps183 rfl (by simp) rfl fun C vs=>?_
 apply zq
 refine zb fun K hK=>?_;simp only[go_sem];apply hK;apply zw (zk [0,1]);simp only[go_sem]
 apply zq
 refine zb fun K hK=>?_;simp only[go_sem,e1,w1];apply hK;apply zw (zk [0,1,5]);simp only[go_sem]
 repeat apply zq
 refine zb fun K hK=>?_;simp only[go_sem];apply hK;apply zw (zk [0,5,8]);simp only[go_sem];apply zd
 apply zq
 refine zb fun K hK=>?_;simp only[go_sem];apply hK;apply zw (zk [0,5,8,9]);simp only[go_sem]
 by_cases h1:g=1
 ·subst h1
  apply zc rfl<;>intro hc<;>(try simp only[go_sem] at hc)
  apply zq
  refine zb fun K hK=>?_;simp only[go_sem];apply hK;apply zw (zk [4]);simp only[go_sem];apply ze;simp only[go_sem];rw[Bool.eq_iff_iff]
  simp [opA]
 ·have e1:(g == 1)=false:=by simpa using h1
  rw[e1]
  apply zc rfl<;>intro hc<;>(try simp only[go_sem] at hc)
  apply zq
  refine zb fun K hK=>?_;simp only[go_sem];apply hK;apply zw (zk [0,5,13]);simp only[go_sem]
  by_cases h2:g=2
  ·subst h2
   apply zc rfl<;>intro hc<;>(try simp only[go_sem] at hc)
   apply zq
   refine zb fun K hK=>?_;simp only[go_sem];apply hK;apply zw (zk [4]);simp only[go_sem];apply ze;simp only[go_sem]
   simp [opA]
  ·have e2:(g == 2)=false:=by simpa using h2
   rw[e2]
   apply zc rfl<;>intro hc<;>(try simp only[go_sem] at hc)
   apply zx
   try simp only[go_sem]
   apply zq
   refine zb fun K hK=>?_;simp only[go_sem];apply hK;apply zw (zk [4]);simp only[go_sem];apply ze;simp only[go_sem];rw[Bool.eq_iff_iff]
   simp [opA,h1,h2]
def lowG (g:Int):Int:=if g=0 then 1 else 2
theorem zJT (g:Int):zAA Tryz.prog 110 [i64 g] (i64 (lowG g)):=by
 refine zas (rs:=[i64 (lowG g)]) [.tmp 2] Tryz.func110 rfl (by kernel_rfl) Tryz.ntmps110 rfl (by simp) rfl fun C vs=>?_
 apply zq
 refine zb fun K hK=>?_;simp only[go_sem];apply hK;apply zw (zk [0]);simp only[go_sem]
 repeat apply zq
 refine zb fun K hK=>?_;simp only[go_sem];apply hK;apply zw (zk [4]);simp only[go_sem]
 by_cases h:g=0
 ·subst h
  apply zc rfl<;>intro hc<;>(try simp only[go_sem] at hc)
  apply zq
  refine zb fun K hK=>?_;simp only[go_sem];apply hK;apply ze;simp only[go_sem]
  rfl
 ·have e:(g == 0)=false:=by simpa using h
  rw[e]
  apply zc rfl<;>intro hc<;>(try simp only[go_sem] at hc)
  apply zx
  try simp only[go_sem]
  apply zq
  refine zb fun K hK=>?_;simp only[go_sem];apply hK;apply ze;simp only[go_sem]
  simp [lowG,h]
theorem zMM (n a b:Int):zAA Tryz.prog 117 [i64 n,.rp [i64 a],.rp [i64 b]] (.bo (decide (n<a) || decide (b<n))):=by
 refine zas (rs:=[.bo (decide (n<a) || decide (b<n))]) [.tmp 4] Tryz.func117 rfl (by kernel_rfl) Tryz.ntmps117 rfl (by simp) rfl fun C vs=>?_
 apply zq
 refine zb fun K hK=>?_;simp only[go_sem];apply hK
 apply zq
 refine zb fun K hK=>?_;simp only[go_sem]
 refine⟨fun h=>?_,fun h=>?_⟩ <;>
 ·skip
  apply hK;apply ze;simp only[go_sem]
  try simp [h]
theorem zIL (a b:Int) (l:List Int):zAA Tryz.prog 84 [i64 a,i64 b,ints l] (.bo (zAT a b l)):=by
 refine zas (rs:=[.bo (zAT a b l)]) [.tmp 6] Tryz.func84 rfl (by kernel_rfl) Tryz.ntmps84 rfl (by simp) rfl fun C vs=>?_
 apply zq
 refine zb fun K hK=>?_;simp only[go_sem];apply hK
 apply zq
 refine zb fun K hK=>?_;simp only[go_sem]
 refine zh (zEj (fun n=>decide (n<a) || decide (b<n)) 117 [.rp [i64 a],.rp [i64 b]] l fun x _=>zMM x a b) rfl (by simp only[go_sem,i64,ints]) (by simp only[go_sem,i64,ints]) ?_
 (try simp only[go_sem]);apply hK;apply ze;simp only[go_sem];rw[← zEV]
def canA (beds:List Bd) (i:Nat) (d:Int):Int:=min (d-(loS beds-(beds.getD i ⟨0,0,0⟩).lo)) (beds.getD i ⟨0,0,0⟩).hi
def denA (beds:List Bd) (i:Nat) (d:Int) (k:Nat):Int:=d-(loS (beds.take k)-if i<k then (beds.getD i ⟨0,0,0⟩).lo else 0)
theorem zVK (beds:List Bd) (i:Nat) (d:Int) (hi:i<beds.length) (hl:beds.length≤1000) (hs:Small beds) (hd:0≤d∧d≤6000):zAA Tryz.prog 184 [zBJ beds,i64 (i:Int),i64 d] (i64 (canA beds i d)):=by
 obtain⟨bi,hbi⟩:=zol hi
 have hgi:beds.getD i ⟨0,0,0⟩=bi:=by rw[List.getD_eq_getElem?_getD,hbi];rfl
 have hbis:=hs bi (zmo hbi)
 have hbnd:∀ k,k≤beds.length → -6000000≤denA beds i d k∧denA beds i d k≤12000:=fun k hk=>by
  have h1:=(zCY (hs.take k)).1
  have h2:(beds.take k).length≤1000:=by rw[List.length_take];omega
  unfold denA
  rw[hgi]
  have h3:(6000:Int)*((beds.take k).length:Int)≤6000*1000:=Int.mul_le_mul_of_nonneg_left (by omega) (by omega)
  split<;>omega
 refine zas (rs:=[i64 (canA beds i d)]) [.tmp 6] Tryz.func184 rfl (by kernel_rfl) Tryz.ntmps184 rfl (by simp) rfl fun C vs=>?_
 apply zq
 refine zb fun K hK=>?_;simp only[go_sem];apply hK;apply zw (zk [0,1,2]);simp only[go_sem]
 repeat apply zq
 refine zb fun K hK=>?_;simp only[go_sem,List.length_map]
 intro _
 apply hK;apply zw (zk [0,1,2,9,10,11]);simp only[go_sem];apply zd
 refine zup (n:=33) beds.length (fun k vs=>[(0,.r (zBJ beds)),(1,.r (i64 (i:Int))),(2,.r (i64 (denA beds i d k))),(9,.r (zBJ beds)),(10,.r (i64 (beds.length:Int))),(11,.r (i64 (k:Int)))])
  (fun k=>[]) (fun _=>True) 0 (zfo [] ?_ ?_) (Nat.zero_le _) trivial ?_
 ·try simp only[go_sem]
  try simp [denA,loS]
 ·try simp only[go_sem]
 ·intro k vs hk _
  by_cases hkn:k<beds.length
  ·obtain⟨c,hcb⟩:=zol hkn
   have hcs:=hs c (zmo hcb)
   have hb0:=hbnd k (by omega)
   have hb1:=hbnd (k+1) (by omega)
   have hlo:loS (beds.take (k+1))=loS (beds.take k)+c.lo:=by rw[zto hcb,zEI]
   apply zq
   refine zb fun K hK=>?_;simp only[go_sem,hkn];apply hK;apply zw (zk [0,1,2,9,10,11,12]);simp only[go_sem]
   apply zq
   apply zc rfl<;>intro hc<;>(try simp only[go_sem] at hc)
   apply zx
   try simp only[go_sem]
   apply zq
   apply zd
   apply zq
   refine zb fun K hK=>?_;simp only[go_sem,hcb,hkn,bedR,List.length_map];apply hK;refine zw (zfP 8 8 [i64 c.b,i64 c.lo,i64 c.hi] (by omega) rfl rfl) ?_;apply zw (zk [0,1,2,7,8,9,10,11]);simp only[go_sem]
   by_cases hki:k=i
   ·subst hki
    have hcbi:c=bi:=by rw[hcb] at hbi;injection hbi
    have hnx:denA beds k d (k+1)=denA beds k d k:=by
     unfold denA
     rw[hlo,hgi,if_pos (by omega),if_neg (by omega),hcbi];omega
    rw[hnx]
    apply zq
    refine zb fun K hK=>?_;simp only[go_sem,bne_self_eq_false];apply hK;apply zw (zk [0,1,2,9,10,11,18]);simp only[go_sem]
    apply zc rfl<;>intro hc<;>(try simp only[go_sem] at hc)
    apply zx
    try simp only[go_sem]
    refine zb fun K hK=>?_;simp only[go_sem];(try simp (disch:=omega) only[zI]);apply hK
    try simp only[go_sem]
    refine⟨by omega,zfo [] ?_ ?_⟩
    ·try simp only[go_sem]
    ·try simp only[go_sem]
   ·have hne:((k:Int) != (i:Int))=true:=by rw[bne_iff_ne];omega
    have hne':(k != i)=true:=by simpa using hki
    have hnx:denA beds i d (k+1)=denA beds i d k-c.lo:=by
     unfold denA
     rw[hlo]
     by_cases h:i<k
     ·rw[if_pos (by omega),if_pos h];omega
     ·rw[if_neg (by omega),if_neg h];omega
    rw[hnx] at hb1 ⊢
    generalize denA beds i d k=Z at *
    have wz:IntKind.i64.wrap (Z-c.lo)=Z-c.lo:=by rw[zI]<;>omega
    apply zq
    refine zb fun K hK=>?_;simp only[go_sem,hne,hne'];apply hK;apply zw (zk [0,1,2,8,9,10,11,18]);simp only[go_sem]
    apply zc rfl<;>intro hc<;>(try simp only[go_sem] at hc)
    refine zb fun K hK=>?_;simp only[go_sem,wz];apply hK;apply zw (zk [0,1,2,9,10,11]);simp only[go_sem];refine zb fun K hK=>?_;simp only[go_sem];(try simp (disch:=omega) only[zI]);apply hK
    try simp only[go_sem]
    refine⟨by omega,zfo [] ?_ ?_⟩
    ·try simp only[go_sem]
    ·try simp only[go_sem]
  ·have hke:k=beds.length:=by omega
   subst hke
   have hfin:denA beds i d beds.length=d-(loS beds-bi.lo):=by unfold denA;rw[List.take_length,if_pos hi,hgi]
   rw[hfin]
   have hcan:canA beds i d=min (d-(loS beds-bi.lo)) bi.hi:=by unfold canA;rw[hgi]
   rw[hcan]
   apply zq
   refine zb fun K hK=>?_;simp only[go_sem,Nat.lt_irrefl];apply hK;apply zw (zk [0,1,2,12]);simp only[go_sem]
   apply zq
   apply zc rfl<;>intro hc<;>(try simp only[go_sem] at hc)
   apply zf;simp only[go_sem]
   apply zq
   refine zb fun K hK=>?_;simp only[go_sem,hbi,hi,bedR,List.length_map];apply hK;apply zw (zk [6]);simp only[go_sem];apply ze;simp only[go_sem]
def cmpS (s:Bool) (vals:List Int) (x y:Nat):Int:=if s then cmpI (vals.getD x 0) (vals.getD y 0) else cmpI (vals.getD y 0) (vals.getD x 0)
theorem zUR (s:Bool) (vals:List Int) (x y:Nat) (hx:x<vals.length) (hy:y<vals.length):zAA Tryz.prog 186 [i64 (x:Int),i64 (y:Int),.rp [.bo s],.rp [ints vals]] (i64 (cmpS s vals x y)):=by
 obtain⟨a,ha⟩:=zol hx
 obtain⟨b,hb⟩:=zol hy
 have ga:vals.getD x 0=a:=by rw[List.getD_eq_getElem?_getD,ha];rfl
 have gb:vals.getD y 0=b:=by rw[List.getD_eq_getElem?_getD,hb];rfl
 have h1:=zEM a b
 have h2:=zEM b a
 unfold cmpS
 rw[ga,gb]
 refine zas (rs:=[i64 (if s=true then cmpI a b else cmpI b a)]) [.tmp 6] Tryz.func186 rfl (by kernel_rfl) Tryz.ntmps186 rfl (by simp) rfl fun C vs=>?_
 apply zq
 refine zb fun K hK=>?_;simp only[go_sem];apply hK;apply zw (zk [0,1,2,3]);simp only[go_sem]
 repeat apply zq
 refine zb fun K hK=>?_;simp only[go_sem];apply hK;apply zw (zk [0,1,3,8]);simp only[go_sem]
 cases s
 ·skip
  apply zc rfl<;>intro hc<;>(try simp only[go_sem] at hc)
  apply zx
  try simp only[go_sem]
  apply zq
  refine zg follows (by decide +kernel) (by kernel_rfl) fun K hK=>?_;simp only[go_sem,ha,hb,hx,hy,List.length_map]
  refine zh (h2) rfl (by simp only[go_sem,i64,ints,ha,hb,hx,hy,List.length_map]) (by simp only[go_sem,i64,ints,ha,hb,hx,hy,List.length_map]) ?_
  (try simp only[go_sem,ha,hb,hx,hy,List.length_map]);apply hK;apply zw (zk [6]);simp only[go_sem];apply ze;simp only[go_sem]
  try rfl
 ·have hss:=(rfl:true=true)
  apply zc rfl<;>intro hc<;>(try simp only[go_sem] at hc)
  rotate_left
  ·exact absurd rfl hc
  apply zq
  refine zg follows (by decide +kernel) (by kernel_rfl) fun K hK=>?_;simp only[go_sem,ha,hb,hx,hy,List.length_map]
  refine zh (h1) rfl (by simp only[go_sem,i64,ints,ha,hb,hx,hy,List.length_map]) (by simp only[go_sem,i64,ints,ha,hb,hx,hy,List.length_map]) ?_
  (try simp only[go_sem,ha,hb,hx,hy,List.length_map]);apply hK;apply zw (zk [6]);simp only[go_sem];apply ze;simp only[go_sem]
  try rfl
end Go.Proofs.YtgfbenanljjgaaaGreat.Du.Th.Ai

namespace Go.Oc
open Go Go.RowKit
section
variable {ρ:List (Nat × Nat)}{ver ver':Nat→Nat}
mutual
theorem zLq (hv:∀ k,(zLk ρ k).isSome=true→ver' k=ver k):∀ x:AV,zBg ρ ver' x=zBg ρ ver x
 | .r _=>by simp only[zBg]
 | .tu _=>by simp only[zBg]
 | .mi _ _=>by simp only[zBg]
 | .pt k _ _=>by simp only[zBg];cases e:zLk ρ k with|none=>rfl|some pk=>rw[hv k (by rw[e];rfl)]
 | .pe k _ _ _ _=>by simp only[zBg];cases e:zLk ρ k with|none=>rfl|some pk=>rw[hv k (by rw[e];rfl)]
 | .os k _ _ _ _=>by simp only[zBg];cases e:zLk ρ k with|none=>rfl|some pk=>rw[hv k (by rw[e];rfl)]
 | .mp k _=>by simp only[zBg];cases e:zLk ρ k with|none=>rfl|some pk=>rw[hv k (by rw[e];rfl)]
 | .pu k _ _=>by simp only[zBg];cases e:zLk ρ k with|none=>rfl|some pk=>rw[hv k (by rw[e];rfl)]
 | .fn _ cs=>by simp only[zBg];rw[zEe hv cs]
 | .ag cs=>by simp only[zBg];rw[zEe hv cs]
theorem zEe (hv:∀ k,(zLk ρ k).isSome=true→ver' k=ver k):∀ xs:List AV,zDg ρ ver' xs=zDg ρ ver xs
 | []=>by simp only[zDg]
 | x::xs=>by simp only[zDg];rw[zLq hv x,zEe hv xs]
end
theorem zCS:∀ {ρ:List (Nat × Nat)}{j ck:Nat},zAU ρ j=some ck→(zLk ρ ck).isSome=true
 | [],_,_,h=>by simp [zAU] at h
 | (x, y)::ρ, j, ck, h=>by
   simp only[zAU] at h
   simp only[zLk]
   split at h
   ·injection h with h;subst h;simp
   ·split
    ·rfl
    ·exact zCS h
mutual
theorem zMJ (hv:∀ k,(zLk ρ k).isSome=true→ver' k=ver k):∀ x:AV,zBL ρ ver' x=zBL ρ ver x
 | .r _=>by simp only[zBL]
 | .mi _ _=>by simp only[zBL]
 | .pt k _ _=>by simp only[zBL];cases e:zAU ρ k with|none=>rfl|some ck=>simp only[hv ck (zCS e)]
 | .pe k _ _ _ _=>by simp only[zBL];cases e:zAU ρ k with|none=>rfl|some ck=>simp only[hv ck (zCS e)]
 | .os k _ _ _ _=>by simp only[zBL];cases e:zAU ρ k with|none=>rfl|some ck=>simp only[hv ck (zCS e)]
 | .mp k _=>by simp only[zBL];cases e:zAU ρ k with|none=>rfl|some ck=>simp only[hv ck (zCS e)]
 | .pu k _ _=>by simp only[zBL];cases e:zAU ρ k with|none=>rfl|some ck=>simp only[hv ck (zCS e)]
 | .tu cs=>by simp only[zBL];rw[zDe hv cs]
 | .fn _ cs=>by simp only[zBL];rw[zDe hv cs]
 | .ag cs=>by simp only[zBL];rw[zDe hv cs]
theorem zDe (hv:∀ k,(zLk ρ k).isSome=true→ver' k=ver k):∀ xs:List AV,zDi ρ ver' xs=zDi ρ ver xs
 | []=>by simp only[zDi]
 | x::xs=>by simp only[zDi];rw[zMJ hv x,zDe hv xs]
end
end
section
variable {P:Program}{s:AS}
end
section
variable {P:Program}{C:Ctx}{Q:Exit→AS→Prop}{s:AS}{Φ:List (RV × RV)→Prop}
variable {n:Nat}{l:List (Nat × AV)}{vs:Nat→Nat}{cs:List (Nat × RowC)}
end
end Go.Oc

namespace Go.Oc
open Go Go.RowKit
def zIb (P:Program) (s:AS) (d:Nat) (t:TypeId) (len:Nat) (parts:List (Nat × AV)):Res :=
 match tyq P t with
 | some ⟨.slice e esz _ ez, _, _, _⟩ =>
   if len=0 then .bad else
   match lay s.ver (fun i=>some (i*esz,esz)) ((List.replicate len ez).flatten.map .r) parts with
   | some cs=>⟨0<esz∧len*esz≤16777216∧d<1000,True,⟨.os d ((s.rows d).ver+1) esz 0 len,[(d,⟨(s.rows d).ver+1,.ara e esz cs⟩)]⟩⟩
   | none=>.bad
 | _=>.bad
section
variable {P:Program}{C:Ctx}{p:Plan}{s:AS}{a:Act}{w:World}{o:Oper}
theorem relV_map_r {ver:Nat→Nat}:∀ {xs:List RV}{vs:List Value},RV.relV w p.R xs vs→AV.relV w p ver (xs.map .r) vs
 | [],vs,h=>by simp only[RV.relV] at h;simp only[List.map_nil,AV.relV];exact h
 | x::xs, vs, h=>by
   simp only[RV.relV] at h
   obtain⟨u,us,e,h1,h2⟩:=h
   simp only[List.map_cons,AV.relV,AV.rel];exact⟨u,us,e,h1,relV_map_r h2⟩
theorem zQJ {ver:Nat→Nat}{place:Nat→Option (Nat × Nat)}:∀ (parts:List (Nat × AV)) (cs cs':List AV),lay ver place cs parts=some cs'→cs'.length=cs.length
 | [],cs,cs',h=>by simp only[lay] at h;injection h with h;rw[h]
 | (i, x)::parts, cs, cs', h=>by
   simp only[lay] at h
   split at h
   ·split at h
    ·rename_i o sz xs _ _ hc
     rw[zQJ parts _ _ h]
     simp
     omega
    ·cases h
   ·cases h
theorem zLz {t:TypeId}{n:Nat}{ps:Array (Nat × Operand)}(h:SR C p s a w) (ho:o.op = .buildSlice t n ps) (hp:(zIb P s (o.dst.getD 0) t n (ps.toList.map fun (i,x)=>(i,s.ev x))).pre) :
 Done P C o s a w (zIb P s (o.dst.getD 0) t n (ps.toList.map fun (i,x)=>(i,s.ev x))):=by
 have hparts:=zDt h ps.toList
 unfold zIb at hp ⊢
 split at hp
 ·rename_i e esz eb ez sz agg z e1
  obtain⟨hu,hok,hsz,_,zv,hzv,hez⟩:=zAP e1
  subst hsz
  obtain⟨i,zval,hi,hzero,hcells,hz1,hzl⟩:=zAM hzv
  split at hp
  ·exact hp.elim
  ·rename_i hn0
   rw[if_neg hn0]
   split at hp
   ·rename_i cs hlay
    obtain⟨hpos,hmax,hd⟩:0<P.cellsOf e∧n*P.cellsOf e≤16777216∧o.dst.getD 0<1000:=hp
    have hzc:zval.cells.size=P.cellsOf e:=by rw[← hzl,← hcells];simp
    obtain⟨cells',hf,hr,hr1⟩:=zIw (p:=p) (w:=w) _ _ (ps.toList.map fun x=>(x.1,a.eval x.2)) _ _ (madeCells zval.cells (n*P.cellsOf e)) hlay
     (by
      rw[← hzc,zAV,hcells,hez]
      refine relV_map_r ?_
      clear hlay hn0 ho hmax
      induction n with
      | zero=>simp [RV.relV]
      | succ n ih =>
        simp only[List.replicate_succ,List.flatten_cons];exact RV.relV_append (RV.relV_ofV1 w p.R zv) ih)
     (by
      rw[← hzc,zAV,hcells]
      intro u hu
      obtain⟨l,hl,hul⟩:=List.mem_flatten.1 hu
      rw[List.eq_of_mem_replicate hl] at hul
      exact hz1 u hul)
     hparts.1 hparts.2
    have hcl:cells'.size=n*P.cellsOf e:=by
     rw[← Array.length_toList,AV.relV_length hr,zQJ _ _ _ hlay,List.length_map]
     have:∀ m,(List.replicate m ez).flatten.length=m*P.cellsOf e:=by
      intro m
      induction m with
      | zero=>simp
      | succ m ih=>rw[List.replicate_succ,List.flatten_cons,List.length_append,ih,hez,List.length_map,hzl,Nat.add_mul];omega
     exact this n
    have hnm:n≤16777216:=Nat.le_trans (Nat.le_mul_of_pos_right n hpos) hmax
    have hn:=h.newRow (o.dst.getD 0) hd (.ara e (P.cellsOf e) cs) rfl n (by simp only[maxLen];omega) (.cells cells' e) (fun p' ver' hR hβ hγ hk=>by
     simp only[zrl];rw[hγ]
     exact⟨_,_,hβ,heap_alloc_new w _,hcl,cells'.toList,[],by simp,AV.relV_mono hk _ _ hr,hr1⟩)
    refine⟨_,.slice (some ⟨w.heap.size,0,none⟩) n n,_,_,?_,.inl rfl,trivial,by rw[zro];exact hn,?_⟩
    ·have hmap:(ps.map fun (x:Nat × Operand)=>(x.1,a.eval x.2)).toList=ps.toList.map fun x=>(x.1,a.eval x.2):=by simp
     have hne:¬ (n*P.cellsOf e=0):=by
      have:=Nat.mul_pos (show 0<n by omega) hpos
      omega
     have hz:(zeroValue e).run P w = .ok zval w:=by simp [zeroValue,typeInfo,hi,hzero]
     have hf':=hf
     simp only[madeCells] at hf'
     simp only[execOp,ho,Instr.buildSlice,Sem.run_bind,run_underlying hu,Result.andThen_ok,zrs hok,if_neg (show ¬ (n*P.cellsOf e > 2 ^ 24) by omega),if_neg hne,hz,Sem.run_pure,hmap,hf']
     simp [newRow]
    ·rw[zro]
     simp only[AV.rel,vers,zus];exact⟨Nat.le_refl _,fun _=>.inr ⟨_,_,rfl,by simp;rfl,by omega,fun _=>by simp⟩⟩
   ·exact hp.elim
 ·exact hp.elim
variable {Q:Exit→AS→Prop}{ops:Array Oper}
end
section
variable {n:Nat}{l:List (Nat × AV)}{vs:Nat→Nat}{cs:List (Nat × RowC)}
end
end Go.Oc
