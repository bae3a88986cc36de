/- Part 5 of the texts of this claim. -/
import Derived.Test.YtgfbenanljjgaaaGreatVF4
import Derived.Lib.EndianBits
set_option linter.unnecessarySimpa false
set_option linter.unusedSimpArgs false
set_option linter.unusedVariables false
namespace Go.Oc
open Go Go.RowKit
def ins:List (Nat × AV)→Nat→AV→List (Nat × AV)
 | [],k,v=>[(k,v)]
 | (j,u)::l,k,v=>if k=j then (k,v)::l else if k<j then (k,v)::(j,u)::l else (j,u)::ins l k v
def insc:List (Nat × RowC)→Nat→RowC→List (Nat × RowC)
 | [],k,v=>[(k,v)]
 | (j,u)::l,k,v=>if k=j then (k,v)::l else if k<j then (k,v)::(j,u)::l else (j,u)::insc l k v
def delc:List (Nat × RowC)→Nat→List (Nat × RowC)
 | [],_=>[]
 | (j,u)::l,k=>if k=j then delc l k else (j,u)::delc l k
def st (n:Nat) (l:List (Nat × AV)) (vs:Nat→Nat) (cs:List (Nat × RowC)):AS:=⟨n,look l,fun k=>⟨vs k,lookc cs k⟩⟩
section
variable {n:Nat}{l:List (Nat × AV)}{vs:Nat→Nat}{cs:List (Nat × RowC)}
theorem look_nil {j:Nat}:look [] j = .r .un:=rfl
theorem look_cons {k j:Nat}{v:AV}:look ((k,v)::l) j=if j=k then v else look l j:=rfl
theorem look_ins (k:Nat) (v:AV) (j:Nat):look (ins l k v) j=if j=k then v else look l j:=by
 induction l with
 | nil=>rfl
 | cons p l ih =>
   obtain⟨i,u⟩:=p
   unfold ins
   split
   ·rename_i e;subst e
    simp only[look_cons]
    split<;>rfl
   ·split
    ·simp only[look_cons]
    ·rename_i h1 h2
     simp only[look_cons,ih]
     by_cases e1:j=i
     ·have:¬ j=k:=by omega
      simp [e1];omega
     ·simp [e1]
theorem lookc_insc (k:Nat) (v:RowC) (j:Nat):lookc (insc cs k v) j=if j=k then v else lookc cs j:=by
 induction cs with
 | nil=>rfl
 | cons p l ih =>
   obtain⟨i,u⟩:=p
   unfold insc
   split
   ·rename_i e;subst e
    simp only[zlc]
    split<;>rfl
   ·split
    ·simp only[zlc]
    ·rename_i h1 h2
     simp only[zlc,ih]
     by_cases e1:j=i
     ·have:¬ j=k:=by omega
      simp [e1];omega
     ·simp [e1]
theorem lookc_delc (k:Nat) (j:Nat):lookc (delc cs k) j=if j=k then .dead else lookc cs j:=by
 induction cs with
 | nil=>simp [delc,lookc_nil]
 | cons p l ih =>
   obtain⟨i,u⟩:=p
   unfold delc
   split
   ·rename_i e;subst e
    rw[ih,zlc]
    split<;>rfl
   ·rename_i h1
    simp only[zlc,ih]
    by_cases e1:j=i
    ·have:¬ j=k:=by omega
     simp [e1];omega
    ·simp [e1]
theorem put_st {k:Nat}{v:AV}:AS.put (st n l vs cs) (some k) v=st n ((k,v)::l) vs cs:=rfl
theorem tm_st {t:Nat}:(st n l vs cs).tm t=look l t:=rfl
theorem n_st:(st n l vs cs).n=n:=rfl
theorem evt_st {t:Nat}:AS.ev (st n l vs cs) (.tmp t)=look l t:=rfl
theorem rows_st {k:Nat}:(st n l vs cs).rows k=⟨vs k,lookc cs k⟩:=rfl
theorem ver_st {k:Nat}:(st n l vs cs).ver k=vs k:=rfl
theorem app_st {d:Option Nat}{v:AV}{k m:Nat}{c:RowC}{e:List (Nat × Row)}:AS.app (st n l vs cs) d ⟨v,(k,⟨m,c⟩)::e⟩=AS.app (st n l (upd vs k m) (insc cs k c)) d ⟨v,e⟩:=by
 have:(⟨n,look l,upd (fun k=>⟨vs k,lookc cs k⟩) k ⟨m,c⟩⟩:AS)=st n l (upd vs k m) (insc cs k c):=by
  simp only[st,AS.mk.injEq,true_and]
  funext j
  rw[lookc_insc]
  unfold upd
  split<;>rfl
 rw[← this]
 cases d<;>rfl
theorem row_st {k m:Nat}{c:RowC}:AS.row (st n l vs cs) k ⟨m,c⟩=st n l (upd vs k m) (insc cs k c):=by
 simp only[AS.row,st,AS.mk.injEq,true_and]
 funext j
 rw[lookc_insc]
 unfold upd
 split<;>rfl
theorem verf_st:(st n l vs cs).ver=vs:=rfl
def backCs (ρ:List (Nat × Nat)) (ver:Nat→Nat) (L':List (Nat × RowC)):List (Nat × Nat)→List (Nat × RowC)→List (Nat × RowC)
 | [],cs=>cs
 | (pk,ck)::l,cs=>backCs ρ ver L' l (insc cs ck (backC ρ ver (lookc L' pk)))
theorem backs_st {ρ:List (Nat × Nat)}{L':List (Nat × RowC)}:(st n l vs cs).backs ρ L'=st n l vs (backCs ρ vs L' ρ cs):=by
 have:∀ (q:List (Nat × Nat)) (cs:List (Nat × RowC)),backRows ρ vs L' q (fun k=>⟨vs k,lookc cs k⟩)=fun k=>⟨vs k,lookc (backCs ρ vs L' q cs) k⟩:=by
  intro q
  induction q with
  | nil=>intro cs;rfl
  | cons x q ih =>
    intro cs
    obtain⟨pk,ck⟩:=x
    simp only[backRows,backCs];rw[← ih]
    congr 1
    funext j
    rw[lookc_insc]
    unfold upd
    split
    ·rename_i e;subst e;rfl
    ·rfl
 show (⟨n,look l,backRows ρ vs L' ρ fun k=>⟨vs k,lookc cs k⟩⟩:AS)=_
 rw[this]
 rfl
theorem xcall_mut {P:Program}{F:FuncId}{L L':List (Nat × RowC)}{args caps:List AV}{r:AV}{d:Option Nat}{f:AV}{xs:List AV}{K:AS→Prop}(h:MCalls P F L L' args r) (ρ:List (Nat × Nat)) (hf:callee? f=some (F,caps))
 (hx:lendL ρ vs (xs++caps)=some args) (hl:lendOk ρ (st n l vs cs) ρ L) (ha:apart ρ=true) (hs:sameKeys ρ L'=true) (hK:K (AS.put (st n l vs (backCs ρ vs L' ρ cs)) d (backA ρ vs r))):xcall P false (st n l vs cs) d f xs K:=by
 refine .inr (.inl ⟨rfl,.inl ⟨F,caps,ρ,L,L',args,r,hf,hx,hl,ha,hs,h,?_⟩⟩)
 rw[backs_st]
 exact hK
def keepL (tm:Nat→AV):List Nat→List (Nat × AV)
 | []=>[]
 | k::l=>(k,tm k)::keepL tm l
theorem keepL_mem {tm:Nat→AV}:∀ {ks:List Nat},∀ p∈keepL tm ks,tm p.1=p.2
 | [],p,h=>by simp [keepL] at h
 | k::ks, p, h=>by
   simp only[keepL,List.mem_cons] at h
   rcases h with rfl|h
   ·rfl
   ·exact keepL_mem p h
theorem zk (ks:List Nat):Sub (st n l vs cs) (st n (keepL (look l) ks) vs cs):=sub_look _ keepL_mem
theorem sub_killc (k:Nat) (hk0:k<1000):Sub (st n l vs cs) (st n l (upd vs k (vs k+1)) (delc cs k)):=by
 have:=sub_kill (st n l vs cs) k hk0
 have e:({ st n l vs cs with rows:=upd (st n l vs cs).rows k ⟨((st n l vs cs).rows k).ver+1,.dead⟩ }:AS)=st n l (upd vs k (vs k+1)) (delc cs k):=by
  simp only[st,AS.mk.injEq,true_and]
  funext j
  rw[lookc_delc]
  unfold upd
  split<;>rfl
 rwa [e] at this
def killV (vs:Nat→Nat):List Nat→Nat→Nat
 | []=>vs
 | k::ks=>killV (upd vs k (vs k+1)) ks
def killC (cs:List (Nat × RowC)):List Nat→List (Nat × RowC)
 | []=>cs
 | k::ks=>killC (delc cs k) ks
def small:List Nat→Bool
 | []=>true
 | k::ks=>decide (k<1000)&&small ks
theorem sub_kills:∀ (ks:List Nat) (vs:Nat→Nat) (cs:List (Nat × RowC)),small ks=true→Sub (st n l vs cs) (st n l (killV vs ks) (killC cs ks))
 | [],_,_,_=>Sub.refl _
 | k::ks, _, _, h=>by
   simp only[small,Bool.and_eq_true,decide_eq_true_eq] at h
   exact (sub_killc k h.1).trans (sub_kills ks _ _ h.2)
theorem sub_own (t k e sz:Nat) (hk0:k<1000) (h:look l t = .r .ns):Sub (st n l vs cs) (st n (ins l t (.os k (vs k+1) sz 0 0)) (upd vs k (vs k+1)) (insc cs k (.arr e sz []))):=by
 have:=sub_adopt (st n l vs cs) t k e sz hk0 h
 have e:({ st n l vs cs with tm:=upd (st n l vs cs).tm t (.os k (((st n l vs cs).rows k).ver+1) sz 0 0),rows:=upd (st n l vs cs).rows k ⟨((st n l vs cs).rows k).ver+1,.arr e sz []⟩ }:AS)
  = st n (ins l t (.os k (vs k+1) sz 0 0)) (upd vs k (vs k+1)) (insc cs k (.arr e sz [])):=by
  simp only[st,AS.mk.injEq,true_and]
  constructor
  ·funext j;rw[look_ins];rfl
  ·funext j
   rw[lookc_insc]
   unfold upd
   split<;>rfl
 rwa [e] at this
def allEq (l:List (Nat × AV)):List (Nat × AV)→Prop
 | []=>True
 | (k,v)::r=>look l k=v∧allEq l r
theorem allEq_mem:∀ {r:List (Nat × AV)},allEq l r→∀ p∈r,look l p.1=p.2
 | [],_,p,h=>by simp at h
 | q::r, h, p, hp=>by
   simp only[List.mem_cons] at hp
   rcases hp with rfl|hp
   ·exact h.1
   ·exact allEq_mem h.2 p hp
def Fit (n:Nat) (F:(Nat→Nat)→List (Nat × AV)) (R:List (Nat × RowC)) (s:AS):Prop:=∃ vs,Sub s (st n (F vs) vs R)
theorem zfo (ks:List Nat) {F:(Nat→Nat)→List (Nat × AV)}{R:List (Nat × RowC)}(h1:allEq l (F (killV vs ks))) (h2:killC cs ks=R) (h3:small ks=true:=by rfl):Fit n F R (st n l vs cs):=by
 refine⟨killV vs ks,(sub_kills ks vs cs h3).trans ?_⟩
 subst h2
 exact sub_look _ (allEq_mem h1)
theorem awp_fit {P:Program}{C:Ctx}{c:Code}{Q:Exit→AS→Prop}{s:AS}{F:(Nat→Nat)→List (Nat × AV)}{R:List (Nat × RowC)}(h:Fit n F R s) (k:∀ vs,awp P C c Q (st n (F vs) vs R)):awp P C c Q s:=by
 obtain⟨vs,h⟩:=h
 exact zw h (k vs)
theorem zaj {P:Program}{C:Ctx}{c d:Code}{Q Q1:Exit→AS→Prop}{s:AS}{α:Type}(F:α→(Nat→Nat)→List (Nat × AV)) (R:α→List (Nat × RowC)) (I:α→Prop)
 (h0:∀ s,awp P C d Q1 s→Q .normal s) (h1:awp P C c (andThen (fun s'=>∃ z,I z∧Fit n (F z) (R z) s') Q) s) (h2:∀ z vs,I z→awp P C d Q1 (st n (F z vs) vs (R z))):awp P C c Q s:=by
 refine awp_mono ?_ h1
 intro e s' hq
 cases e with
 | normal =>
   obtain⟨z,hz,hf⟩:=hq
   exact h0 s' (awp_fit hf fun vs=>h2 z vs hz)
 | _=>exact hq
theorem awp_while {P:Program}{C:Ctx}{c:Code}{Q:Exit→AS→Prop}{s:AS}{α:Type}(F:α→(Nat→Nat)→List (Nat × AV)) (R:α→List (Nat × RowC)) (I:α→Prop) (m:α→Nat) (x0:α)
 (h0:Fit n (F x0) (R x0) s) (hI:I x0)
 (round:∀ x vs,I x→awp P C c (andThen (fun s'=>∃ y,I y∧m y<m x∧Fit n (F y) (R y) s') Q) (st n (F x vs) vs (R x))):awp P C (.loop c) Q s:=by
 refine awp_loop (fun k s=>∃ x,I x∧m x=k∧Fit n (F x) (R x) s) (m x0) ⟨x0,hI,rfl,h0⟩ ?_
 rintro k s ⟨x,hx,rfl,vs,hs⟩
 refine zw hs (awp_mono ?_ (round x vs hx))
 intro e s' hq
 cases e with
 | normal =>
   obtain⟨y,hy,hlt,hf⟩:=hq
   exact⟨m y,hlt,y,hy,rfl,hf⟩
 | _=>exact hq
theorem zup {P:Program}{C:Ctx}{c:Code}{Q:Exit→AS→Prop}{s:AS}(N:Nat) (F:Nat→(Nat→Nat)→List (Nat × AV)) (R:Nat→List (Nat × RowC)) (I:Nat→Prop) (i0:Nat)
 (h0:Fit n (F i0) (R i0) s) (hi:i0≤N) (hI:I i0)
 (round:∀ i vs,i≤N→I i→awp P C c (andThen (fun s'=>i<N∧I (i+1)∧Fit n (F (i+1)) (R (i+1)) s') Q) (st n (F i vs) vs (R i))):awp P C (.loop c) Q s:=by
 refine awp_while F R (fun i=>i≤N∧I i) (fun i=>N-i) i0 h0 ⟨hi,hI⟩ ?_
 rintro i vs ⟨hi,hI⟩
 refine awp_mono ?_ (round i vs hi hI)
 intro e s' hq
 cases e with
 | normal =>
   obtain⟨h1,h2,h3⟩:=hq
   exact⟨i+1,⟨h1,h2⟩,by omega,h3⟩
 | _=>exact hq
def argL:Nat→List RV→List (Nat × AV)
 | _,[]=>[]
 | k,x::xs=>(k,.r x)::argL (k+1) xs
theorem argL_mem:∀ {k:Nat}{xs:List RV},∀ p∈argL k xs,∃ i x,p=(k+i,.r x)∧xs[i]? = some x
 | k,[],p,h=>by simp [argL] at h
 | k, x::xs, p, h=>by
   simp only[argL,List.mem_cons] at h
   rcases h with rfl|h
   ·exact⟨0,x,rfl,rfl⟩
   ·obtain⟨i,y,rfl,e⟩:=argL_mem p h
    exact⟨i+1,y,by rw[Nat.add_right_comm,Nat.add_assoc],by simpa using e⟩
def fpostL (P:Program) (res:List ResultVar) (rs:List RV):Exit→AS→Prop
 | .normal,s=>resOk P s res rs
 | .ret,s=>resOk P s res rs
 | _,_=>False
theorem argL_look:∀ {k:Nat}{xs:List RV}{j:Nat}{x:RV},xs[j]? = some x→look (argL k xs) (k+j) = .r x
 | k,[],j,x,h=>by simp at h
 | k, y::xs, j, x, h=>by
   simp only[argL,look_cons]
   cases j with
   | zero=>simp at h;subst h;simp
   | succ j =>
     have:¬ k+(j+1)=k:=by omega
     simp only[this,if_false];rw[show k+(j+1)=k+1+j from by omega]
     exact argL_look (by simpa using h)
theorem look_none {l:List (Nat × AV)}{t:Nat}(h:¬ ∃ x,(t,x)∈l):look l t = .r .un:=by
 induction l with
 | nil=>rfl
 | cons q l ih =>
   obtain⟨k,v⟩:=q
   simp only[look_cons]
   by_cases e:t=k
   ·subst e;exact absurd ⟨v,by simp⟩ h
   ·simp only[e,if_false];exact ih (fun ⟨x,hx⟩=>h ⟨x,by simp [hx]⟩)
theorem acalls_stR {P:Program}{f:FuncId}{fn:Func}{c:Code}{n:Nat}{args rs:List RV}{r:RV}(res:List ResultVar) (hf:P.funcs[f]? = some fn) (hb:fn.body=some c) (hc:callable P f=true) (hn:fn.ntmps=n) (hres:fn.results.toList=res) (hargs:args.length≤n) (hr:resV rs=r)
 (h:∀ C:Ctx,C.rd=none∧C.X=XS.none→∀ vs,awp P C c (fpostL P res rs) (st n (argL 0 args) vs [])):ACalls P f args r :=
 acalls_ofR hf hb hc hn hargs hr fun C hC=>zw (sub_look _ fun p hp=>by
  obtain⟨i,x,rfl,e⟩:=argL_mem p hp
  simp only[argTm,Nat.zero_add,e]) (awp_mono (fun e s h=>by subst hres;cases e<;>exact h) (h C hC fun _=>0))
def keyIn:List (Nat × RowC)→Nat→Bool
 | [],_=>false
 | (k,_)::L,j=>if j=k then true else keyIn L j
theorem zas {P:Program}{f:FuncId}{fn:Func}{c:Code}{n:Nat}{args rs:List RV}{r:RV}(res:List ResultVar) (hf:P.funcs[f]? = some fn) (hb:fn.body=some c) (hc:callable P f=true) (hn:fn.ntmps=n) (hres:fn.results.toList=res) (hargs:args.length≤n) (hr:resV rs=r)
 (h:∀ C vs,awp P C c (fpostL P res rs) (st n (argL 0 args) vs [])):ACalls P f args r:=acalls_stR res hf hb hc hn hres hargs hr fun C _=>h C
def fnOk (ks:List (Nat × RowC)):List AV→Bool
 | []=>true
 | .r _::cs=>fnOk ks cs
 | .pt j _ _::cs=>keyIn ks j&&fnOk ks cs
 | _::_=>false
def frz1 (ks:List (Nat × RowC)) (rows:Nat→Row):AV→AV
 | .r v=>.r v
 | .os j n sz off m=>if keyIn ks j then .os j n sz off m else .r (snap1V rows (.os j n sz off m))
 | .pt j n off=>if keyIn ks j then .pt j n off else .r .un
 | .pe j n sz idx off=>if keyIn ks j then .pe j n sz idx off else .r .un
 | .mp j n=>if keyIn ks j then .mp j n else .r .un
 | .pu j n u=>if keyIn ks j then .pu j n u else .r .un
 | .fn f cs=>if fnOk ks cs then .fn f cs else .r .un
 | _=>.r .un
def frzP1 (ks:List (Nat × RowC)) (rows:Nat→Row):AV→Prop
 | .os j n sz off m=>if keyIn ks j then True else (j<1000∧snap1P rows (.os j n sz off m))
 | _=>True
def frzL (ks:List (Nat × RowC)) (rows:Nat→Row):List AV→List AV
 | []=>[]
 | x::xs=>frz1 ks rows x::frzL ks rows xs
def frzPL (ks:List (Nat × RowC)) (rows:Nat→Row):List AV→Prop
 | []=>True
 | x::xs=>frzP1 ks rows x∧frzPL ks rows xs
def frzC (ks:List (Nat × RowC)) (rows:Nat→Row):RowC→RowC
 | .box cs=>.box (frzL ks rows cs)
 | .arr t sz es=>.arr t sz es
 | .mp m=>.mp m
 | .mem Φ=>.mem Φ
 | _=>.dead
def frzPC (ks:List (Nat × RowC)) (rows:Nat→Row):RowC→Prop
 | .box cs=>frzPL ks rows cs
 | _=>True
def mfin (ks:List (Nat × RowC)) (rows:Nat→Row):List (Nat × RowC)→List (Nat × RowC)→Prop
 | [],[]=>True
 | (k,_)::L,(k',c')::L'=>k'=k∧okC (rows k).c=true∧frzPC ks rows (rows k).c∧frzC ks rows (rows k).c=c'∧mfin ks rows L L'
 | _,_=>False
def pinned:List (Nat × RowC)→Bool
 | []=>true
 | (k,c)::L=>decide (1000≤k)&&okC c && !keyIn L k&&pinned L
def resM (P:Program) (ks:List (Nat × RowC)) (s:AS):List ResultVar→List AV→Prop
 | [],rs=>rs=[]
 | v::vs,rs=>(resA P s v).pre∧frzP1 ks s.rows (resA P s v).y.av∧∃ rs',rs=frz1 ks s.rows (resA P s v).y.av::rs'∧resM P ks s vs rs'
def resMV:List AV→AV
 | [r]=>r
 | rs=>.tu rs
def mpostL (P:Program) (res:List ResultVar) (rs:List AV) (L L':List (Nat × RowC)):Exit→AS→Prop
 | .normal,s=>resM P L s res rs∧mfin L s.rows L L'
 | .ret,s=>resM P L s res rs∧mfin L s.rows L L'
 | _,_=>False
theorem mpostL_normal {P:Program}{s:AS}{us:List ResultVar}{rs:List AV}{L L':List (Nat × RowC)}:mpostL P us rs L L' .normal s=(resM P L s us rs∧mfin L s.rows L L'):=rfl
theorem mpostL_ret {P:Program}{s:AS}{us:List ResultVar}{rs:List AV}{L L':List (Nat × RowC)}:mpostL P us rs L L' .ret s=(resM P L s us rs∧mfin L s.rows L L'):=rfl
def argA:Nat→List AV→List (Nat × AV)
 | _,[]=>[]
 | k,x::xs=>(k,x)::argA (k+1) xs
theorem argA_look:∀ {k:Nat}{xs:List AV}{j:Nat},look (argA k xs) j=if k≤j then (xs[j-k]?).getD (.r .un) else .r .un
 | k,[],j=>by simp [argA,look_nil]
 | k, x::xs, j=>by
   simp only[argA,look_cons,argA_look]
   by_cases e:j=k
   ·subst e;simp
   ·by_cases e2:k≤j
    ·have h1:k+1≤j:=by omega
     simp only[e,if_false,h1,e2,if_true];rw[show j-k=(j-(k+1))+1 from by omega]
     simp
    ·have h1:¬ k+1≤j:=by omega
     simp [e,h1,e2]
theorem lookc_not {L:List (Nat × RowC)}{k:Nat}(h:keyIn L k=false):lookc L k = .dead:=by
 induction L with
 | nil=>rfl
 | cons x L ih =>
   obtain⟨j,c⟩:=x
   simp only[keyIn] at h
   simp only[zlc]
   split at h
   ·cases h
   ·rename_i e;simp only[e,if_false];exact ih h
theorem pinned_ge {L:List (Nat × RowC)}(h:pinned L=true) {k:Nat}(hk:keyIn L k=true):1000≤k∧okC (lookc L k)=true:=by
 induction L with
 | nil=>simp [keyIn] at hk
 | cons x L ih =>
   obtain⟨j,c⟩:=x
   simp only[pinned,Bool.and_eq_true,decide_eq_true_eq] at h
   simp only[keyIn] at hk
   simp only[zlc]
   split at hk
   ·rename_i e;subst e;simp only[if_true];exact⟨h.1.1.1,h.1.1.2⟩
   ·rename_i e;simp only[e,if_false];exact ih h.2 hk
theorem mfin_get {ks:List (Nat × RowC)}{rows:Nat→Row}:∀ {L L':List (Nat × RowC)},mfin ks rows L L'→(∀ k,keyIn L k=true→okC (rows k).c=true∧frzPC ks rows (rows k).c∧lookc L' k=frzC ks rows (rows k).c)∧∀ k,keyIn L k=false→lookc L' k = .dead
 | [],[],_=>⟨fun _ h=>by simp [keyIn] at h,fun _ _=>rfl⟩
 | [],_::_,h=>by simp [mfin] at h
 | _::_,[],h=>by simp [mfin] at h
 | (k, c)::L, (k', c')::L', h=>by
   simp only[mfin] at h
   obtain⟨rfl,h1,h2,h3,h4⟩:=h
   obtain⟨g1,g2⟩:=mfin_get h4
   refine⟨fun j hj=>?_,fun j hj=>?_⟩
   ·simp only[keyIn] at hj
    simp only[zlc]
    by_cases e:j=k'
    ·subst e;simp only[if_true];exact⟨h1,h2,h3.symm⟩
    ·simp only[e,if_false] at hj ⊢;exact g1 j hj
   ·simp only[keyIn] at hj
    simp only[zlc]
    by_cases e:j=k'
    ·simp [e] at hj
    ·simp only[e,if_false] at hj ⊢;exact g2 j hj
section
variable {P:Program}{C:Ctx}{p p0:Plan}{s:AS}{a:Act}{w:World}
theorem fn_relV {L:List (Nat × RowC)}(hpin:∀ k,keyIn L k=true→p.β k=p0.β k∧p.γ k=p0.γ k∧s.ver k=0) {R':Nat→Prop}(hR:∀ b,p.R b→R' b) :
 ∀ {xs:List AV}{vs:List Value},fnOk L xs=true→AV.relV w p s.ver xs vs→AV.relV w { p0 with R:=R' } (fun _=>0) xs vs
 | [],_,_,hV=>by simp only[AV.relV] at hV ⊢;exact hV
 | x::xs, _, hf, hV=>by
   simp only[AV.relV] at hV
   obtain⟨u,us,e,h1,h2⟩:=hV
   cases x with
   | r x =>
     simp only[fnOk] at hf
     simp only[AV.relV,AV.rel] at h1 ⊢
     exact⟨u,us,e,RV.rel_mono hR (fun _ _=>rfl) _ _ h1,fn_relV hpin hR hf h2⟩
   | pt j n off =>
     simp only[fnOk,Bool.and_eq_true] at hf
     obtain⟨g1,g2,g3⟩:=hpin j hf.1
     simp only[AV.relV,AV.rel] at h1 ⊢
     rw[g1,g3] at h1
     exact⟨u,us,e,h1,fn_relV hpin hR hf.2 h2⟩
   | _=>simp [fnOk] at hf
theorem frz_rel (h:SR C p s a w) {L:List (Nat × RowC)}(hpin:∀ k,keyIn L k=true→p.β k=p0.β k∧p.γ k=p0.γ k∧s.ver k=0) {R':Nat→Prop}(hR:∀ b,p.R b→R' b) (hR2:∀ j b,j<1000→p.β j=some b→R' b)
 {x:AV}{v:Value}(hp:frzP1 L s.rows x) (hv:x.rel w p s.ver v):(frz1 L s.rows x).rel w { p0 with R:=R' } (fun _=>0) v:=by
 have un:∀ {x:AV},x = .r .un→x.rel w { p0 with R:=R' } (fun _=>0) v:=fun e=>by rw[e];exact AV.rel_un _ _ _ _
 cases x with
 | r x =>
   simp only[AV.rel] at hv
   simp only[frz1,AV.rel];exact RV.rel_mono hR (fun _ _=>rfl) _ _ hv
 | os j n sz off m =>
   simp only[frz1]
   simp only[frzP1] at hp
   split
   ·rename_i hk
    obtain⟨h1,h2,h3⟩:=hpin j hk
    simp only[AV.rel] at hv ⊢
    rw[h1,h2,h3] at hv
    exact hv
   ·rename_i hk
    rw[if_neg hk] at hp
    simp only[AV.rel];exact snap_os h hp.2.1 hp.2.2 hv hR (fun b hb=>hR2 j b hp.1 hb)
 | pt j n off =>
   simp only[frz1]
   split
   ·rename_i hk
    obtain⟨h1,h2,h3⟩:=hpin j hk
    simp only[AV.rel] at hv ⊢
    rw[h1,h3] at hv
    exact hv
   ·exact AV.rel_un _ _ _ _
 | pu j n u =>
   simp only[frz1]
   split
   ·rename_i hk
    obtain⟨h1,h2,h3⟩:=hpin j hk
    simp only[AV.rel] at hv ⊢
    rw[h1,h3] at hv
    exact hv
   ·exact AV.rel_un _ _ _ _
 | pe j n sz idx off =>
   simp only[frz1]
   split
   ·rename_i hk
    obtain⟨h1,h2,h3⟩:=hpin j hk
    simp only[AV.rel] at hv ⊢
    rw[h1,h3] at hv
    exact hv
   ·exact AV.rel_un _ _ _ _
 | mp j n =>
   simp only[frz1]
   split
   ·rename_i hk
    obtain⟨h1,h2,h3⟩:=hpin j hk
    simp only[AV.rel] at hv ⊢
    rw[h1,h3] at hv
    exact hv
   ·exact AV.rel_un _ _ _ _
 | fn f cs =>
   simp only[frz1]
   split
   ·rename_i hk
    simp only[AV.rel] at hv ⊢
    obtain⟨us,hu,hV⟩:=hv
    exact⟨us,hu,fn_relV hpin hR hk hV⟩
   ·exact AV.rel_un _ _ _ _
 | _=>exact AV.rel_un _ _ _ _
theorem frz_relV (h:SR C p s a w) {L:List (Nat × RowC)}(hpin:∀ k,keyIn L k=true→p.β k=p0.β k∧p.γ k=p0.γ k∧s.ver k=0) {R':Nat→Prop}(hR:∀ b,p.R b→R' b) (hR2:∀ j b,j<1000→p.β j=some b→R' b) :
 ∀ {xs:List AV}{vs:List Value},frzPL L s.rows xs→AV.relV w p s.ver xs vs→AV.relV w { p0 with R:=R' } (fun _=>0) (frzL L s.rows xs) vs
 | [],_,_,hV=>by simp only[AV.relV] at hV;simp only[frzL,AV.relV];exact hV
 | x::xs, _, hp, hV=>by
   simp only[frzPL] at hp
   simp only[AV.relV] at hV
   obtain⟨u,us,e,h1,h2⟩:=hV
   simp only[frzL,AV.relV];exact⟨u,us,e,frz_rel h hpin hR hR2 hp.1 h1,frz_relV h hpin hR hR2 hp.2 h2⟩
theorem run_resML (h:SR C p s a w) {L:List (Nat × RowC)}(hpin:∀ k,keyIn L k=true→p.β k=p0.β k∧p.γ k=p0.γ k∧s.ver k=0) {R':Nat→Prop}(hR:∀ b,p.R b→R' b) (hR2:∀ j b,j<1000→p.β j=some b→R' b) :
 ∀ (vs:List ResultVar) (rs:List AV),resM P L s vs rs→∃ us,(vs.mapM (resOp a.tmps)).run P w = .ok us w∧AV.relV w { p0 with R:=R' } (fun _=>0) rs us
 | [],rs,hm=>by simp only[resM] at hm;subst hm;exact⟨[],rfl,by simp [AV.relV]⟩
 | v::vs, rs, hm=>by
   obtain⟨hp,hf,rs',rfl,hrest⟩:=hm
   obtain⟨u,hu,hrel⟩:=run_result h v hp
   obtain⟨us,hus,hV⟩:=run_resML h hpin hR hR2 vs rs' hrest
   refine⟨u::us,?_,by simp only[AV.relV];exact⟨u,us,rfl,frz_rel h hpin hR hR2 hf hrel,hV⟩⟩
   simp only[List.mapM_cons,Sem.run_bind,hu,Result.andThen_ok,hus,Sem.run_pure]
theorem run_resM (h:SR C p s a w) {L:List (Nat × RowC)}(hpin:∀ k,keyIn L k=true→p.β k=p0.β k∧p.γ k=p0.γ k∧s.ver k=0) {R':Nat→Prop}(hR:∀ b,p.R b→R' b) (hR2:∀ j b,j<1000→p.β j=some b→R' b)
 {fn:Func}{rs:List AV}(hm:resM P L s fn.results.toList rs):∃ v,(results fn a.tmps).run P w = .ok v w∧(resMV rs).rel w { p0 with R:=R' } (fun _=>0) v:=by
 obtain⟨us,hus,hV⟩:=run_resML h hpin hR hR2 _ _ hm
 have hm:(fn.results.mapM (resOp a.tmps)).run P w = .ok us.toArray w:=by
  rw[Array.mapM_eq_mapM_toList]
  simp only[Sem.run_map,hus,Result.andThen_ok]
 have hl:=AV.relV_length hV
 refine⟨if h:us.toArray.size=1 then us.toArray[0] else .tuple us.toArray,?_,?_⟩
 ·rw[results_eq,Sem.run_bind,hm]
  simp only[Result.andThen_ok,Sem.run_pure]
 ·match rs,us,hl,hV with
  | [r], [u], _, hV =>
    simp only[AV.relV] at hV
    obtain⟨u',us',e,h1,_⟩:=hV
    injection e with e1 e2
    subst e1
    simpa [resMV] using h1
  | [], us, hl, hV =>
    have:us=[]:=List.eq_nil_of_length_eq_zero (by simpa using hl)
    subst this
    simp only[resMV,AV.rel];exact⟨#[],rfl,hV⟩
  | r1::r2::rs, us, hl, hV =>
    have:¬ us.toArray.size=1:=by simp at hl ⊢;omega
    rw[dif_neg this]
    simp only[resMV,AV.rel];exact⟨us.toArray,rfl,hV⟩
theorem mcalls_stO {f:FuncId}{fn:Func}{c:Code}{n:Nat}{rs:List AV}{r:AV}{args:List AV}(L L':List (Nat × RowC)) (res:List ResultVar) (hf:P.funcs[f]? = some fn) (hb:fn.body=some c) (hc:callable P f=true) (hn:fn.ntmps=n) (hres:fn.results.toList=res)
 (hargs:args.length≤n) (hr:resMV rs=r) (hL:pinned L=true) (h:∀ C:Ctx,(C.rd=none∧C.X=XS.none)∧(∀ b,¬ C.own b)∧(∀ k,keyIn L k=true→∃ x,C.pin k=some x∧∀ b,x.1=some b→C.bor b)→awp P C c (mpostL P res rs L L') (st n (argA 0 args) (fun _=>0) L)):MCalls P f L L' args r:=by
 refine⟨hc,fun w p vs hpl hR hβ hij hγ hrows hV=>?_⟩
 have hlen:=AV.relV_length hV
 simp only[Array.length_toList] at hlen
 let C:Ctx:={ w0:=w,R0:=p.R,bor:=fun b=>∃ k,p.β k=some b,pin:=fun k=>if keyIn L k then some (p.β k,p.γ k) else none }
 have hs:SR C p (st n (argA 0 args) (fun _=>0) L) { tmps:=vs++Array.replicate (fn.ntmps-vs.size) undef,defers:=[] } w:={
  base:=⟨rfl,rfl,rfl,Nat.le_refl _,fun _ _ _ _=>rfl⟩
  r0:=fun _ h=>h
  rn:=fun _ h=>.inl h
  rb:=hR
  tm:=fun t=>by
   show (look (argA 0 args) t).rel _ _ _ _
   rw[argA_look,if_pos (Nat.zero_le _),Nat.sub_zero]
   cases e:args[t]? with
   | none=>exact AV.rel_un _ _ _ _
   | some x =>
     obtain⟨u,hu,hx⟩:=AV.relV_get hV e
     have:(vs++Array.replicate (fn.ntmps-vs.size) undef).getD t undef=u:=by
      have ht:t<vs.size:=by have:=(List.getElem?_eq_some_iff.1 hu).1;simpa using this
      rw[Array.getD_eq_getD_getElem?,Array.getElem?_append_left ht]
      simp only[Array.getElem?_toList] at hu
      rw[hu];rfl
     rw[this]
     exact hx
  sz:=by simp only[Array.size_append,Array.size_replicate,st];omega
  ex:=ext_start (fun b h=>h.elim (fun ⟨k,hk⟩=>(hβ k b hk).1) (fun h=>h.elim)) hpl.1 rfl hpl.2.1 hpl.2.2
  rw:=hrows
  bl:=fun k b h=>⟨(hβ k b h).1,(hβ k b h).2,.inr (.inl ⟨by
   cases hk:keyIn L k with
   | true=>exact (pinned_ge hL hk).1
   | false =>
     have hr:=hrows k
     rw[lookc_not hk] at hr
     simp only[zrl] at hr
     exact absurd (hr.1.symm.trans h) (by simp),k,h⟩)⟩
  ij:=hij
  cap:=hγ
  pn:=fun k x hx=>by
   have hx':(if keyIn L k then some (p.β k,p.γ k) else none)=some x:=hx
   split at hx'
   ·rename_i hk
    injection hx' with hx'
    subst hx'
    exact⟨rfl,rfl,rfl,(pinned_ge hL hk).1⟩
   ·cases hx'
  lk:=fun j km n l cur hj _=>by
   have hj':lookc L j = .mi km n l cur:=hj
   cases hk:keyIn L j with
   | true=>have:=(pinned_ge hL hk).2;rw[hj'] at this;simp [okC] at this
   | false=>rw[lookc_not hk] at hj';cases hj' }
 refine callsIn_wide.1 (callsIn_of_wp_marks (n:=0) hf hb trivial (wpIn_mono (h C ⟨⟨rfl,rfl⟩,fun _ h=>h,fun k hk=>⟨_,by show (if keyIn L k then some (p.β k,p.γ k) else none)=_;rw[if_pos hk],fun b hb=>⟨k,hb⟩⟩⟩ _ w ⟨p,hs⟩) ?_))
 rintro e a' w' ⟨s',⟨p',hs'⟩,hq⟩
 have fin:∀ (a':Act) (w':World) (_:SR C p' s' a' w'),resM P L s' fn.results.toList rs∧mfin L s'.rows L L'→∃ v,(results fn a'.tmps).run P w' = .ok v w'∧∃ v' R',Ending.returned v = .returned v'∧(w'.os=w.os∧w'.tape=w.tape∧w'.output=w.output∧w.heap.size≤w'.heap.size) ∧
  (∀ k,k<w.heap.size→(∀ j,p.β j≠some k)→w'.heap[k]? = w.heap[k]?)∧(∀ b,p.R b→R' b)∧(∀ b,R' b→p.R b∨w.heap.size≤b)∧(∀ b,R' b→b<w'.heap.size) ∧
  (∀ k,zrl w' { p with R:=R' } (fun _=>0) k (lookc L' k))∧r.rel w' { p with R:=R' } (fun _=>0) v':=fun a' w' hs' ⟨hres,hm⟩=>by
  have hpin:∀ k,keyIn L k=true→p'.β k=p.β k∧p'.γ k=p.γ k∧s'.ver k=0:=fun k hk=>by
   obtain⟨h1,h2,h3,_⟩:=hs'.pn k (p.β k,p.γ k) (by show (if keyIn L k then some (p.β k,p.γ k) else none)=_;rw[if_pos hk])
   exact⟨h1,h2,h3⟩
  have hnew:∀ j b,j<1000→p'.β j=some b→w.heap.size≤b:=fun j b hj hb=>by
   rcases (hs'.bl j b hb).2.2.imp id (fun h=>h.resolve_right fun h=>h) with h1|⟨_,k,hk⟩
   ·exact h1
   ·exfalso
    cases hkk:keyIn L k with
    | true =>
      have h2:=(hpin k hkk).1.trans hk
      have:=hs'.ij j k b hb h2
      have:=(pinned_ge hL hkk).1
      omega
    | false =>
      have h2:=hrows k
      rw[lookc_not hkk] at h2
      simp only[zrl] at h2
      rw[h2.1] at hk;cases hk
  obtain⟨v,hv,hrel⟩:=run_resM (p0:=p) hs' hpin (R':=fun b=>p'.R b∨∃ j,j<1000∧p'.β j=some b) (fun _ h=>.inl h) (fun j b hj hb=>.inr ⟨j,hj,hb⟩) hres
  rw[hr] at hrel
  refine⟨v,hv,v,fun b=>p'.R b∨∃ j,j<1000∧p'.β j=some b,rfl,⟨hs'.base.os,hs'.base.tape,hs'.base.output,hs'.base.size⟩,fun k hk hn=>hs'.base.block k hk (fun ⟨j,hj⟩=>hn j hj) (fun h=>h),fun b hb=>.inl (hs'.r0 b hb),fun b hb=>?_,fun b hb=>?_,fun k=>?_,hrel⟩
  ·rcases hb with hb|⟨j,hj,hb⟩
   ·exact (hs'.rn b hb).imp id (fun h=>h.resolve_right fun h=>h)
   ·exact .inr (hnew j b hj hb)
  ·rcases hb with hb|⟨j,hj,hb⟩
   ·exact hs'.rb b hb
   ·exact (hs'.bl j b hb).1
  ·obtain⟨g1,g2⟩:=mfin_get hm
   cases hk:keyIn L k with
   | false =>
     rw[g2 k hk]
     have h2:=hrows k
     rw[lookc_not hk] at h2
     simp only[zrl] at h2 ⊢
     exact h2
   | true =>
     obtain⟨q1,q2,q3⟩:=g1 k hk
     obtain⟨h1,h2,h3⟩:=hpin k hk
     rw[q3]
     have hr:=hs'.rw k
     have hR1:∀ b,p'.R b→(p'.R b∨∃ j,j<1000∧p'.β j=some b):=fun _ h=>.inl h
     cases hcc:(s'.rows k).c with
     | box cs =>
       rw[hcc] at hr q2
       simp only[zrl] at hr
       simp only[frzC,zrl]
       obtain⟨b,cells,t,e1,e2,e3,e4⟩:=hr
       exact⟨b,cells,t,h1.symm.trans e1,e2,frz_relV (p0:=p) hs' hpin hR1 (fun j b hj hb=>.inr ⟨j,hj,hb⟩) q2 e3,e4⟩
     | arr t sz es =>
       rw[hcc] at hr
       simp only[zrl] at hr
       simp only[frzC,zrl]
       rw[h1,h2] at hr
       refine hr.imp id ?_
       rintro ⟨b,cells,e1,e2,e3,e4,e5⟩
       exact⟨b,cells,e1,e2,e3,e4,RV.relE_mono hR1 (fun _ _=>rfl) _ _ _ _ (fun _=>rfl) e5⟩
     | mp m =>
       rw[hcc] at hr
       simp only[zrl] at hr
       simp only[frzC,zrl]
       rw[h1] at hr
       obtain⟨b,e1,e2⟩:=hr
       exact⟨b,e1,mapRel_mono hR1 (fun _ _=>rfl) rfl e2⟩
     | mem Φ =>
       rw[hcc] at hr
       simp only[zrl] at hr
       simp only[frzC,zrl]
       rw[h1] at hr
       obtain⟨m,b,e0,e1,e2⟩:=hr
       exact⟨m,b,e0,e1,mapRel_mono hR1 (fun _ _=>rfl) rfl e2⟩
     | _=>rw[hcc] at q1;simp [okC] at q1
 subst hres
 cases e with
 | normal=>exact hs'.leave fun a'' w'' _ hs''=>fin a'' w'' hs'' hq
 | ret=>exact hs'.leave fun a'' w'' _ hs''=>fin a'' w'' hs'' hq
 | _=>exact hq.elim
theorem mcalls_stR {f:FuncId}{fn:Func}{c:Code}{n:Nat}{rs:List AV}{r:AV}{args:List AV}(L L':List (Nat × RowC)) (res:List ResultVar) (hf:P.funcs[f]? = some fn) (hb:fn.body=some c) (hc:callable P f=true) (hn:fn.ntmps=n) (hres:fn.results.toList=res)
 (hargs:args.length≤n) (hr:resMV rs=r) (hL:pinned L=true) (h:∀ C:Ctx,C.rd=none∧C.X=XS.none→awp P C c (mpostL P res rs L L') (st n (argA 0 args) (fun _=>0) L)):MCalls P f L L' args r:=mcalls_stO L L' res hf hb hc hn hres hargs hr hL fun C hC=>h C hC.1
theorem mcalls_st {f:FuncId}{fn:Func}{c:Code}{n:Nat}{rs:List AV}{r:AV}{args:List AV}(L L':List (Nat × RowC)) (res:List ResultVar) (hf:P.funcs[f]? = some fn) (hb:fn.body=some c) (hc:callable P f=true) (hn:fn.ntmps=n) (hres:fn.results.toList=res)
 (hargs:args.length≤n) (hr:resMV rs=r) (hL:pinned L=true) (h:∀ C,awp P C c (mpostL P res rs L L') (st n (argA 0 args) (fun _=>0) L)):MCalls P f L L' args r:=mcalls_stR L L' res hf hb hc hn hres hargs hr hL fun C _=>h C
end
def resC (r:Res) (K:AV→Prop):Prop:=r.pre∧K r.y.av
def opostL (P:Program) (rv:ResultVar) (t sz:Nat) (es:List (List RV)) (m:Nat):Exit→AS→Prop
 | .normal,s=>resC (resA P s rv) fun v=>∃ j n,v = .os j n sz 0 m∧s.rows j=⟨n,.arr t sz es⟩
 | .ret,s=>resC (resA P s rv) fun v=>∃ j n,v = .os j n sz 0 m∧s.rows j=⟨n,.arr t sz es⟩
 | _,_=>False
theorem opostL_ret {P:Program}{rv:ResultVar}{t sz m:Nat}{es:List (List RV)}{s:AS}:opostL P rv t sz es m .ret s=resC (resA P s rv) fun v=>∃ j n,v = .os j n sz 0 m∧s.rows j=⟨n,.arr t sz es⟩:=rfl
theorem opostL_normal {P:Program}{rv:ResultVar}{t sz m:Nat}{es:List (List RV)}{s:AS}:opostL P rv t sz es m .normal s=resC (resA P s rv) fun v=>∃ j n,v = .os j n sz 0 m∧s.rows j=⟨n,.arr t sz es⟩:=rfl
theorem resA_tmp {P:Program}{t:Nat}{s:AS}:resA P s (.tmp t) = .val (s.tm t):=rfl
theorem resA_cell {P:Program}{t a:Nat}{s:AS}:resA P s (.cell a t)=sLoad P s t (s.tm a):=rfl
theorem resC_when {c:Prop}{v:AV}{K:AV→Prop}:resC (.when c v) K↔c∧K v:=Iff.rfl
theorem resM_nil {P:Program}{ks:List (Nat × RowC)}{s:AS}:resM P ks s [] []↔True:=by simp [resM]
theorem resM_tmp {P:Program}{ks:List (Nat × RowC)}{s:AS}{t:Nat}{us:List ResultVar}{r:AV}{rs:List AV}:resM P ks s (.tmp t::us) (r::rs)↔frzP1 ks s.rows (s.tm t)∧frz1 ks s.rows (s.tm t)=r∧resM P ks s us rs:=by
 simp only[resM,resA,Res.val,List.cons.injEq]
 constructor
 ·rintro ⟨_,h1,_,⟨rfl,rfl⟩,h3⟩;exact⟨h1,rfl,h3⟩
 ·rintro ⟨h1,rfl,h3⟩;exact⟨trivial,h1,_,⟨rfl,rfl⟩,h3⟩
theorem resM_cell {P:Program}{ks:List (Nat × RowC)}{s:AS}{t a:Nat}{us:List ResultVar}{r:AV}{rs:List AV}:resM P ks s (.cell a t::us) (r::rs)↔resC (sLoad P s t (s.tm a)) (fun v=>frzP1 ks s.rows v∧frz1 ks s.rows v=r)∧resM P ks s us rs:=by
 simp only[resM,resA,resC,List.cons.injEq]
 constructor
 ·rintro ⟨h0,h1,_,⟨rfl,rfl⟩,h3⟩;exact⟨⟨h0,h1,rfl⟩,h3⟩
 ·rintro ⟨⟨h0,h1,rfl⟩,h3⟩;exact⟨h0,h1,_,⟨rfl,rfl⟩,h3⟩
theorem resC_val {v:AV}{K:AV→Prop}:resC (.val v) K↔K v:=by simp [resC,Res.val]
theorem resOk_nil {P:Program}{s:AS}:resOk P s [] []↔True:=by simp [resOk]
theorem resOk_tmp {P:Program}{s:AS}{t:Nat}{us:List ResultVar}{r:RV}{rs:List RV}:resOk P s (.tmp t::us) (r::rs)↔snapP s.rows (s.tm t)∧RV.le (snapV s.rows (s.tm t)) r∧resOk P s us rs:=by
 simp only[resOk,resA,Res.val,List.cons.injEq]
 constructor
 ·rintro ⟨_,h1,_,_,⟨rfl,rfl⟩,h2,h3⟩;exact⟨h1,h2,h3⟩
 ·rintro ⟨h1,h2,h3⟩;exact⟨trivial,h1,_,_,⟨rfl,rfl⟩,h2,h3⟩
theorem resOk_cell {P:Program}{s:AS}{t a:Nat}{us:List ResultVar}{r:RV}{rs:List RV}:resOk P s (.cell a t::us) (r::rs)↔resC (sLoad P s t (s.tm a)) (fun v=>snapP s.rows v∧RV.le (snapV s.rows v) r)∧resOk P s us rs:=by
 simp only[resOk,resA,resC,List.cons.injEq]
 constructor
 ·rintro ⟨h0,h1,_,_,⟨rfl,rfl⟩,h2,h3⟩;exact⟨⟨h0,h1,h2⟩,h3⟩
 ·rintro ⟨⟨h0,h1,h2⟩,h3⟩;exact⟨h0,h1,_,_,⟨rfl,rfl⟩,h2,h3⟩
theorem fpostL_normal {P:Program}{s:AS}{us:List ResultVar}{rs:List RV}:fpostL P us rs .normal s=resOk P s us rs:=rfl
theorem fpostL_ret {P:Program}{s:AS}{us:List ResultVar}{rs:List RV}:fpostL P us rs .ret s=resOk P s us rs:=rfl
theorem andThen_normal {K:AS→Prop}{Q:Exit→AS→Prop}{s:AS}:andThen K Q .normal s=K s:=rfl
theorem andThen_ret {K:AS→Prop}{Q:Exit→AS→Prop}{s:AS}:andThen K Q .ret s=Q .ret s:=rfl
theorem andThen_exit {K:AS→Prop}{Q:Exit→AS→Prop}{s:AS}{i:Nat}:andThen K Q (.exit i) s=Q (.exit i) s:=rfl
theorem inBlk_normal {Q:Exit→AS→Prop}{s:AS}{i:Nat}:inBlk i Q .normal s=Q .normal s:=rfl
theorem inBlk_ret {Q:Exit→AS→Prop}{s:AS}{i:Nat}:inBlk i Q .ret s=Q .ret s:=rfl
theorem inBlk_exit {Q:Exit→AS→Prop}{s:AS}{i j:Nat}:inBlk i Q (.exit j) s=if j=i then Q .normal s else Q (.exit j) s:=rfl
theorem le_bo {a b:Bool}:RV.le (.bo a) (.bo b)↔a=b:=by simp [RV.le]
theorem le_it {k:IntKind}{a b:Int}:RV.le (.it k a) (.it k b)↔a=b:=by simp [RV.le]
theorem le_ns {sz:Nat}{es:List (List RV)}:RV.le .ns (.sl sz es)↔es=[]:=by simp [RV.le]
theorem le_sls {sz:Nat}{es es':List (List RV)}:RV.le (.sl sz es) (.sl sz es')↔es=es':=by simp [RV.le]
theorem le_ag {xs ys:List RV}:RV.le (.ag xs) (.ag ys)↔RV.leL xs ys:=by simp [RV.le]
theorem leL_nil:RV.leL [] []↔True:=by simp [RV.leL]
theorem leL_cons {x y:RV}{xs ys:List RV}:RV.leL (x::xs) (y::ys)↔RV.le x y∧RV.leL xs ys:=by simp [RV.leL]
theorem le_nsns:RV.le .ns .ns↔True:=by simp [RV.le]
theorem le_np:RV.le .np .np↔True:=by simp [RV.le]
theorem le_of_eq {x y:RV}(h:x=y):RV.le x y:=h▸leL_refl.le_refl x
end
end Go.Oc

namespace Go.Oc
open Go Go.RowKit
theorem sub_freeze (s:AS) (t k v sz off m:Nat) (hk0:k<1000) (ht:s.tm t = .os k v sz off m) (hv:v=s.ver k) (hc:match (s.rows k).c with | .arr _ sz' es=>sz=sz'∧off+m≤es.length | .arc _ sz' es _=>sz=sz'∧off+m≤es.length|_=>False) :
 Sub s { s with tm:=upd s.tm t (.r (match (s.rows k).c with | .arr _ _ es=>RV.sl sz ((es.drop off).take m) | .arc _ _ es _=>RV.sl sz ((es.drop off).take m)|_=>.un)),rows:=upd s.rows k ⟨(s.rows k).ver+1,.dead⟩ }:=fun _ _ _ ⟨_,hp⟩=>hp.freeze t k v sz off m hk0 ht hv hc
section
variable {n:Nat}{l:List (Nat × AV)}{vs:Nat→Nat}{cs:List (Nat × RowC)}
theorem sub_frz (t k:Nat) {sz off m ty:Nat}{es:List (List RV)}(hk0:k<1000) (ht:look l t = .os k (vs k) sz off m) (hc:lookc cs k = .arr ty sz es) (hle:off+m≤es.length) :
 Sub (st n l vs cs) (st n ((t,.r (.sl sz ((es.drop off).take m)))::l) (upd vs k (vs k+1)) (delc cs k)):=by
 have:=sub_freeze (st n l vs cs) t k (vs k) sz off m hk0 ht rfl (by show match lookc cs k with | .arr _ sz' es=>sz=sz'∧off+m≤es.length | .arc _ sz' es _=>sz=sz'∧off+m≤es.length|_=>False;rw[hc];exact⟨rfl,hle⟩)
 have e:({ st n l vs cs with tm:=upd (st n l vs cs).tm t (.r (match ((st n l vs cs).rows k).c with | .arr _ _ es=>RV.sl sz ((es.drop off).take m) | .arc _ _ es _=>RV.sl sz ((es.drop off).take m)|_=>.un)),rows:=upd (st n l vs cs).rows k ⟨((st n l vs cs).rows k).ver+1,.dead⟩ }:AS)
  = st n ((t,.r (.sl sz ((es.drop off).take m)))::l) (upd vs k (vs k+1)) (delc cs k):=by
  simp only[st,AS.mk.injEq,true_and]
  constructor
  ·funext j
   show upd (look l) t (.r (match lookc cs k with | .arr _ _ es=>RV.sl sz ((es.drop off).take m) | .arc _ _ es _=>RV.sl sz ((es.drop off).take m)|_=>.un)) j=look ((t,.r (.sl sz ((es.drop off).take m)))::l) j
   rw[hc];rfl
  ·funext j
   rw[lookc_delc]
   unfold upd
   split<;>rfl
 rwa [e] at this
def FitV (n:Nat) (F:(Nat→Nat)→List (Nat × AV)) (R:(Nat→Nat)→List (Nat × RowC)) (s:AS):Prop:=∃ vs,Sub s (st n (F vs) vs (R vs))
theorem zj (ks:List Nat) {F:(Nat→Nat)→List (Nat × AV)}{R:(Nat→Nat)→List (Nat × RowC)}(h1:allEq l (F (killV vs ks))) (h2:killC cs ks=R (killV vs ks)) (h3:small ks=true:=by rfl):FitV n F R (st n l vs cs):=by
 refine⟨killV vs ks,(sub_kills ks vs cs h3).trans ?_⟩
 rw[← h2]
 exact sub_look _ (allEq_mem h1)
theorem awp_whileV {P:Program}{C:Ctx}{c:Code}{Q:Exit→AS→Prop}{s:AS}{α:Type}(F:α→(Nat→Nat)→List (Nat × AV)) (R:α→(Nat→Nat)→List (Nat × RowC)) (I:α→Prop) (m:α→Nat) (x0:α)
 (h0:FitV n (F x0) (R x0) s) (hI:I x0)
 (round:∀ x vs,I x→awp P C c (andThen (fun s'=>∃ y,I y∧m y<m x∧FitV n (F y) (R y) s') Q) (st n (F x vs) vs (R x vs))):awp P C (.loop c) Q s:=by
 refine awp_loop (fun k s=>∃ x,I x∧m x=k∧FitV n (F x) (R x) s) (m x0) ⟨x0,hI,rfl,h0⟩ ?_
 rintro k s ⟨x,hx,rfl,vs,hs⟩
 refine zw hs (awp_mono ?_ (round x vs hx))
 intro e s' hq
 cases e with
 | normal =>
   obtain⟨y,hy,hlt,hf⟩:=hq
   exact⟨m y,hlt,y,hy,rfl,hf⟩
 | _=>exact hq
end
end Go.Oc

namespace Go.Oc
open Go Go.RowKit
theorem relV_set {w:World}{p:Plan}{ver:Nat→Nat}{y:AV}:∀ {xs:List AV}{vs:List Value}{i:Nat},AV.relV w p ver xs vs→(∀ u,vs[i]? = some u→y.rel w p ver u)→AV.relV w p ver (xs.set i y) vs
 | [],vs,i,h,_=>by simpa using h
 | x::xs, vs, 0, h, hy=>by
   simp only[AV.relV] at h
   obtain⟨u,us,rfl,h1,h2⟩:=h
   simp only[List.set_cons_zero,AV.relV];exact⟨u,us,rfl,hy u rfl,h2⟩
 | x::xs, vs, i+1, h, hy=>by
   simp only[AV.relV] at h
   obtain⟨u,us,rfl,h1,h2⟩:=h
   simp only[List.set_cons_succ,AV.relV];exact⟨u,us,rfl,h1,relV_set h2 fun v hv=>hy v (by simpa using hv)⟩
theorem SR.cell {C:Ctx}{p:Plan}{a:Act}{w:World}{s:AS}(hp:SR C p s a w) (kb i:Nat) {cells:List AV}{x y:AV}(hbox:(s.rows kb).c = .box cells) (hi:cells[i]? = some x)
 (hy:∀ {u:Value},x.rel w p s.ver u→y.rel w p s.ver u):SR C p { s with rows:=upd s.rows kb ⟨(s.rows kb).ver,.box (cells.set i y)⟩ } a w:=by
 have hr:=hp.rw kb
 rw[hbox] at hr
 simp only[zrl] at hr
 obtain⟨b,cs,t,h1,h2,h3,h4⟩:=hr
 refine hp.setRow (w':=w) kb _ (by rw[hbox];rfl) (fun _ _ _ _ h=>by cases h) h1 rfl rfl rfl rfl (fun _ _=>rfl) fun _=>?_
 simp only[zrl]
 refine⟨b,cs,t,h1,h2,relV_set h3 (fun u hu=>?_),h4⟩
 obtain⟨u',hu',hx⟩:=AV.relV_get h3 hi
 rw[hu] at hu'
 injection hu' with e
 subst e
 exact hy hx
theorem sub_freezeB (s:AS) (kb i k v sz off m:Nat) {cells:List AV}(hk0:k<1000) (hne:kb≠k) (hbox:(s.rows kb).c = .box cells) (hi:cells[i]? = some (.os k v sz off m)) (hv:v=s.ver k)
 (hc:match (s.rows k).c with | .arr _ sz' es=>sz=sz'∧off+m≤es.length | .arc _ sz' es _=>sz=sz'∧off+m≤es.length|_=>False) :
 Sub s { s with rows:=upd (upd s.rows k ⟨(s.rows k).ver+1,.dead⟩) kb ⟨(s.rows kb).ver,.box (cells.set i (.r (match (s.rows k).c with | .arr _ _ es=>RV.sl sz ((es.drop off).take m) | .arc _ _ es _=>RV.sl sz ((es.drop off).take m)|_=>.un)))⟩ }:=fun C a w ⟨p,hp⟩=>by
 have h1:=hp.reRow (w':=w) k hk0 .dead rfl none 1 (by simp [maxLen]) rfl rfl rfl (Nat.le_refl _) (fun _ _ _=>rfl) (fun _ h=>by cases h) (fun p' ver' _ hβ hγ _=>by simp only[zrl];exact⟨hβ,hγ⟩)
 have hr:=hp.rw kb
 rw[hbox] at hr
 simp only[zrl] at hr
 obtain⟨b,cs,t,g1,g2,g3,g4⟩:=hr
 obtain⟨u,hu,hval⟩:=AV.relV_get g3 hi
 have put:∀ {p2:Plan},SR C p2 { s with rows:=upd s.rows k ⟨(s.rows k).ver+1,.dead⟩ } a w→p2.β kb=p.β kb→(∀ b,p.R b→p2.R b)→(∀ b,p.β k=some b→p2.R b) →
  SRel C { s with rows:=upd (upd s.rows k ⟨(s.rows k).ver+1,.dead⟩) kb ⟨(s.rows kb).ver,.box (cells.set i (.r (match (s.rows k).c with | .arr _ _ es=>RV.sl sz ((es.drop off).take m) | .arc _ _ es _=>RV.sl sz ((es.drop off).take m)|_=>.un)))⟩ } a w:=fun {p2} h2 hβ2 hR hR2=>by
  have hr2:=h2.rw kb
  rw[show (upd s.rows k ⟨(s.rows k).ver+1,.dead⟩ kb).c = .box cells by rw[zuo _ _ hne];exact hbox] at hr2
  simp only[zrl] at hr2
  obtain⟨b',cs',t',f1,f2,f3,f4⟩:=hr2
  have eb:b'=b:=by rw[hβ2,g1] at f1;injection f1 with e;exact e.symm
  subst eb
  rw[g2] at f2
  injection f2 with e
  injection e with e1 e2 e3
  subst e1
  have:=h2.setRow (w':=w) kb (.box (cells.set i (.r (match (s.rows k).c with | .arr _ _ es=>RV.sl sz ((es.drop off).take m) | .arc _ _ es _=>RV.sl sz ((es.drop off).take m)|_=>.un))))
   (by rw[show (upd s.rows k ⟨(s.rows k).ver+1,.dead⟩ kb).c = .box cells by rw[zuo _ _ hne];exact hbox];rfl) (fun _ _ _ _ h=>by cases h) f1 rfl rfl rfl rfl (fun _ _=>rfl) (fun _=>by
    simp only[zrl]
    refine⟨b',cs,t',f1,by rw[g2,e2],relV_set f3 (fun u' hu'=>?_),f4⟩
    rw[hu] at hu'
    injection hu' with e
    subst e
    simp only[AV.rel];exact snap_os hp hv hc hval hR hR2)
  rw[show (upd s.rows k ⟨(s.rows k).ver+1,.dead⟩ kb).ver=(s.rows kb).ver by rw[zuo _ _ hne]] at this
  exact⟨p2,this⟩
 cases hβ:p.β k with
 | none=>exact put h1 (zuo _ _ hne) (fun _ h=>h) (fun b hb=>by rw[hβ] at hb;cases hb)
 | some b =>
   obtain⟨g1,_,g2⟩:=hp.bl k b hβ
   have h2:=h1.publish (b:=b) g1 (g2.imp id fun h=>h.resolve_left (fun h=>by omega)) (fun j hj=>by
    have hj':upd p.β k none j=some b:=hj
    by_cases e:j=k
    ·subst e;rw[zus] at hj';cases hj'
    ·rw[zuo _ _ e] at hj';exact e (hp.ij j k b hj' hβ)) (hp.ex.publish hβ)
   exact put h2 (zuo _ _ hne) (fun _ h=>.inl h) (fun b' hb'=>by rw[hβ] at hb';injection hb' with e;exact .inr e.symm)
section
variable {n:Nat}{l:List (Nat × AV)}{vs:Nat→Nat}{cs:List (Nat × RowC)}
theorem sub_frzB (kb i k:Nat) {cells:List AV}{sz off m ty:Nat}{es:List (List RV)}(hk0:k<1000) (hne:kb≠k) (hb:lookc cs kb = .box cells) (hi:cells[i]? = some (.os k (vs k) sz off m)) (hc:lookc cs k = .arr ty sz es) (hle:off+m≤es.length) :
 Sub (st n l vs cs) (st n l (upd vs k (vs k+1)) (insc (delc cs k) kb (.box (cells.set i (.r (.sl sz ((es.drop off).take m))))))):=by
 have:=sub_freezeB (st n l vs cs) kb i k (vs k) sz off m hk0 hne hb hi rfl (by show match lookc cs k with | .arr _ sz' es=>sz=sz'∧off+m≤es.length | .arc _ sz' es _=>sz=sz'∧off+m≤es.length|_=>False;rw[hc];exact⟨rfl,hle⟩)
 have e:({ st n l vs cs with rows:=upd (upd (st n l vs cs).rows k ⟨((st n l vs cs).rows k).ver+1,.dead⟩) kb ⟨((st n l vs cs).rows kb).ver,.box (cells.set i (.r (match ((st n l vs cs).rows k).c with | .arr _ _ es=>RV.sl sz ((es.drop off).take m) | .arc _ _ es _=>RV.sl sz ((es.drop off).take m)|_=>.un)))⟩ }:AS)
  = st n l (upd vs k (vs k+1)) (insc (delc cs k) kb (.box (cells.set i (.r (.sl sz ((es.drop off).take m)))))):=by
  simp only[st,AS.mk.injEq,true_and]
  funext j
  rw[lookc_insc,lookc_delc,hc]
  unfold upd
  split
  ·rename_i e;subst e;rw[if_neg hne]
  ·split<;>rfl
 rwa [e] at this
def Lent (vs:Nat→Nat):Prop:=∀ k,1000≤k→vs k=0
theorem lent_zero:Lent (fun _=>0):=fun _ _=>rfl
theorem lent_upd {vs:Nat→Nat}{k m:Nat}(hk:k<1000) (h:Lent vs):Lent (upd vs k m):=fun j hj=>by
 rw[zuo _ _ (by omega)];exact h j hj
theorem lent_kill:∀ {ks:List Nat}{vs:Nat→Nat},small ks=true→Lent vs→Lent (killV vs ks)
 | [],_,_,h=>h
 | k::ks, vs, hs, h=>by
   simp only[small,Bool.and_eq_true,decide_eq_true_eq] at hs
   show Lent (killV (upd vs k (vs k+1)) ks)
   exact lent_kill hs.2 (lent_upd hs.1 h)
def Fit0 (n:Nat) (F:(Nat→Nat)→List (Nat × AV)) (R:List (Nat × RowC)) (s:AS):Prop:=∃ vs,Lent vs∧Sub s (st n (F vs) vs R)
theorem fit0_of (ks:List Nat) (h0:Lent vs) {F:(Nat→Nat)→List (Nat × AV)}{R:List (Nat × RowC)}(h1:allEq l (F (killV vs ks))) (h2:killC cs ks=R) (h3:small ks=true:=by rfl):Fit0 n F R (st n l vs cs):=by
 refine⟨killV vs ks,lent_kill h3 h0,(sub_kills ks vs cs h3).trans ?_⟩
 subst h2
 exact sub_look _ (allEq_mem h1)
theorem awp_upto0 {P:Program}{C:Ctx}{c:Code}{Q:Exit→AS→Prop}{s:AS}(N:Nat) (F:Nat→(Nat→Nat)→List (Nat × AV)) (R:Nat→List (Nat × RowC)) (I:Nat→Prop) (i0:Nat)
 (h0:Fit0 n (F i0) (R i0) s) (hi:i0≤N) (hI:I i0)
 (round:∀ i vs,Lent vs→i≤N→I i→awp P C c (andThen (fun s'=>i<N∧I (i+1)∧Fit0 n (F (i+1)) (R (i+1)) s') Q) (st n (F i vs) vs (R i))):awp P C (.loop c) Q s:=by
 refine awp_loop (fun k s=>∃ i,(i≤N∧I i)∧N-i=k∧Fit0 n (F i) (R i) s) (N-i0) ⟨i0,⟨hi,hI⟩,rfl,h0⟩ ?_
 rintro k s ⟨i,⟨hi,hI⟩,rfl,vs,hv,hs⟩
 refine zw hs (awp_mono ?_ (round i vs hv hi hI))
 intro e s' hq
 cases e with
 | normal =>
   obtain⟨h1,h2,h3⟩:=hq
   exact⟨N-(i+1),by omega,i+1,⟨h1,h2⟩,rfl,h3⟩
 | _=>exact hq
end
end Go.Oc

namespace Go.Oc
open Go Go.RowKit
theorem sub_adoptB (s:AS) (kb i k e sz:Nat) {cells:List AV}(hk0:k<1000) (hne:kb≠k) (hbox:(s.rows kb).c = .box cells) (hi:cells[i]? = some (.r .ns)) :
 Sub s { s with rows:=upd (upd s.rows k ⟨(s.rows k).ver+1,.arr e sz []⟩) kb ⟨(s.rows kb).ver,.box (cells.set i (.os k ((s.rows k).ver+1) sz 0 0))⟩ }:=fun C a w ⟨p,hp⟩=>by
 have h1:=hp.reRow (w':=w) k hk0 (.arr e sz []) rfl none 0 (Nat.zero_le _) rfl rfl rfl (Nat.le_refl _) (fun _ _ _=>rfl) (fun _ h=>by cases h) (fun p' ver' _ hβ hγ _=>by simp [zrl,hβ,hγ])
 have:=h1.cell (x:=.r .ns) (y:=.os k ((s.rows k).ver+1) sz 0 0) kb i (cells:=cells) (by show (upd s.rows k ⟨(s.rows k).ver+1,.arr e sz []⟩ kb).c=_;rw[zuo _ _ hne];exact hbox) hi (fun {u} hx=>by
  simp only[AV.rel,RV.rel] at hx
  obtain⟨A,hA⟩:=hx
  simp only[AV.rel,AS.ver,zus];exact⟨Nat.le_refl _,fun _=>.inl ⟨trivial,trivial,trivial,trivial,A,hA⟩⟩)
 rw[show (upd s.rows k ⟨(s.rows k).ver+1,.arr e sz []⟩ kb).ver=(s.rows kb).ver by rw[zuo _ _ hne]] at this
 exact⟨_,this⟩
section
variable {n:Nat}{l:List (Nat × AV)}{vs:Nat→Nat}{cs:List (Nat × RowC)}
theorem sub_ownB (kb i k e sz:Nat) {cells:List AV}(hk0:k<1000) (hne:kb≠k) (hb:lookc cs kb = .box cells) (hi:cells[i]? = some (.r .ns)) :
 Sub (st n l vs cs) (st n l (upd vs k (vs k+1)) (insc (insc cs k (.arr e sz [])) kb (.box (cells.set i (.os k (vs k+1) sz 0 0))))):=by
 have:=sub_adoptB (st n l vs cs) kb i k e sz hk0 hne hb hi
 have e:({ st n l vs cs with rows:=upd (upd (st n l vs cs).rows k ⟨((st n l vs cs).rows k).ver+1,.arr e sz []⟩) kb ⟨((st n l vs cs).rows kb).ver,.box (cells.set i (.os k (((st n l vs cs).rows k).ver+1) sz 0 0))⟩ }:AS)
  = st n l (upd vs k (vs k+1)) (insc (insc cs k (.arr e sz [])) kb (.box (cells.set i (.os k (vs k+1) sz 0 0)))):=by
  simp only[st,AS.mk.injEq,true_and]
  funext j
  rw[lookc_insc,lookc_insc]
  unfold upd
  split
  ·rename_i e;subst e;rw[if_neg hne]
  ·split<;>rfl
 rwa [e] at this
end
def agIs (ks:List (Nat × RowC)) (rows:Nat→Row):AV→List AV→Prop
 | .ag cs,cs0=>frzPL ks rows cs∧frzL ks rows cs=cs0
 | _,_=>False
theorem agIs_ag {ks:List (Nat × RowC)}{rows:Nat→Row}{cs cs0:List AV}:agIs ks rows (.ag cs) cs0=(frzPL ks rows cs∧frzL ks rows cs=cs0):=rfl
def mpostG (P:Program) (rv:ResultVar) (cs0:List AV) (L L':List (Nat × RowC)):Exit→AS→Prop
 | .normal,s=>resC (resA P s rv) (fun x=>agIs L s.rows x cs0)∧mfin L s.rows L L'
 | .ret,s=>resC (resA P s rv) (fun x=>agIs L s.rows x cs0)∧mfin L s.rows L L'
 | _,_=>False
theorem mpostG_normal {P:Program}{s:AS}{rv:ResultVar}{cs0:List AV}{L L':List (Nat × RowC)}:mpostG P rv cs0 L L' .normal s=(resC (resA P s rv) (fun x=>agIs L s.rows x cs0)∧mfin L s.rows L L'):=rfl
theorem mpostG_ret {P:Program}{s:AS}{rv:ResultVar}{cs0:List AV}{L L':List (Nat × RowC)}:mpostG P rv cs0 L L' .ret s=(resC (resA P s rv) (fun x=>agIs L s.rows x cs0)∧mfin L s.rows L L'):=rfl
section
variable {P:Program}{C:Ctx}{p p0:Plan}{s:AS}{a:Act}{w:World}
theorem run_resG (h:SR C p s a w) {L:List (Nat × RowC)}(hpin:∀ k,keyIn L k=true→p.β k=p0.β k∧p.γ k=p0.γ k∧s.ver k=0) {R':Nat→Prop}(hR:∀ b,p.R b→R' b) (hR2:∀ j b,j<1000→p.β j=some b→R' b)
 {fn:Func}{rv:ResultVar}{cs0:List AV}(hres:fn.results.toList=[rv]) (hm:resC (resA P s rv) (fun x=>agIs L s.rows x cs0)):∃ v,(results fn a.tmps).run P w = .ok v w∧(AV.ag cs0).rel w { p0 with R:=R' } (fun _=>0) v:=by
 obtain⟨hp,hq⟩:=hm
 obtain⟨u,hu,hrel⟩:=run_result h rv hp
 cases hav:(resA P s rv).y.av with
 | ag cs =>
   rw[hav] at hq hrel
   obtain⟨h1,h2⟩:=hq
   have hm:(fn.results.mapM (resOp a.tmps)).run P w = .ok #[u] w:=by
    rw[Array.mapM_eq_mapM_toList,hres]
    simp only[Sem.run_map,List.mapM_cons,List.mapM_nil,Sem.run_bind,hu,Result.andThen_ok,Sem.run_pure]
   refine⟨u,?_,?_⟩
   ·rw[results_eq,Sem.run_bind,hm]
    simp [Result.andThen_ok,Sem.run_pure]
   ·simp only[AV.rel] at hrel ⊢
    obtain⟨vs,e1,e2,e3⟩:=hrel
    exact⟨vs,e1,e2,h2▸frz_relV h hpin hR hR2 h1 e3⟩
 | _=>rw[hav] at hq;exact hq.elim
theorem mcalls_ag {f:FuncId}{fn:Func}{c:Code}{n:Nat}{args:List AV}(L L':List (Nat × RowC)) (cs0:List AV) (rv:ResultVar) (hf:P.funcs[f]? = some fn) (hb:fn.body=some c) (hc:callable P f=true) (hn:fn.ntmps=n) (hres:fn.results.toList=[rv])
 (hargs:args.length≤n) (hL:pinned L=true) (h:∀ C,awp P C c (mpostG P rv cs0 L L') (st n (argA 0 args) (fun _=>0) L)):MCalls P f L L' args (.ag cs0):=by
 have hres0:=hres
 refine⟨hc,fun w p vs hpl hR hβ hij hγ hrows hV=>?_⟩
 have hlen:=AV.relV_length hV
 simp only[Array.length_toList] at hlen
 let C:Ctx:={ w0:=w,R0:=p.R,bor:=fun b=>∃ k,p.β k=some b,pin:=fun k=>if keyIn L k then some (p.β k,p.γ k) else none }
 have hs:SR C p (st n (argA 0 args) (fun _=>0) L) { tmps:=vs++Array.replicate (fn.ntmps-vs.size) undef,defers:=[] } w:={
  base:=⟨rfl,rfl,rfl,Nat.le_refl _,fun _ _ _ _=>rfl⟩
  r0:=fun _ h=>h
  rn:=fun _ h=>.inl h
  rb:=hR
  tm:=fun t=>by
   show (look (argA 0 args) t).rel _ _ _ _
   rw[argA_look,if_pos (Nat.zero_le _),Nat.sub_zero]
   cases e:args[t]? with
   | none=>exact AV.rel_un _ _ _ _
   | some x =>
     obtain⟨u,hu,hx⟩:=AV.relV_get hV e
     have:(vs++Array.replicate (fn.ntmps-vs.size) undef).getD t undef=u:=by
      have ht:t<vs.size:=by have:=(List.getElem?_eq_some_iff.1 hu).1;simpa using this
      rw[Array.getD_eq_getD_getElem?,Array.getElem?_append_left ht]
      simp only[Array.getElem?_toList] at hu
      rw[hu];rfl
     rw[this]
     exact hx
  sz:=by simp only[Array.size_append,Array.size_replicate,st];omega
  ex:=ext_start (fun b h=>h.elim (fun ⟨k,hk⟩=>(hβ k b hk).1) (fun h=>h.elim)) hpl.1 rfl hpl.2.1 hpl.2.2
  rw:=hrows
  bl:=fun k b h=>⟨(hβ k b h).1,(hβ k b h).2,.inr (.inl ⟨by
   cases hk:keyIn L k with
   | true=>exact (pinned_ge hL hk).1
   | false =>
     have hr:=hrows k
     rw[lookc_not hk] at hr
     simp only[zrl] at hr
     exact absurd (hr.1.symm.trans h) (by simp),k,h⟩)⟩
  ij:=hij
  cap:=hγ
  pn:=fun k x hx=>by
   have hx':(if keyIn L k then some (p.β k,p.γ k) else none)=some x:=hx
   split at hx'
   ·rename_i hk
    injection hx' with hx'
    subst hx'
    exact⟨rfl,rfl,rfl,(pinned_ge hL hk).1⟩
   ·cases hx'
  lk:=fun j km n l cur hj _=>by
   have hj':lookc L j = .mi km n l cur:=hj
   cases hk:keyIn L j with
   | true=>have:=(pinned_ge hL hk).2;rw[hj'] at this;simp [okC] at this
   | false=>rw[lookc_not hk] at hj';cases hj' }
 refine callsIn_wide.1 (callsIn_of_wp_marks (n:=0) hf hb trivial (wpIn_mono (h C _ w ⟨p,hs⟩) ?_))
 rintro e a' w' ⟨s',⟨p',hs'⟩,hq⟩
 have fin:∀ (a':Act) (w':World) (_:SR C p' s' a' w'),resC (resA P s' rv) (fun x=>agIs L s'.rows x cs0)∧mfin L s'.rows L L'→∃ v,(results fn a'.tmps).run P w' = .ok v w'∧∃ v' R',Ending.returned v = .returned v'∧(w'.os=w.os∧w'.tape=w.tape∧w'.output=w.output∧w.heap.size≤w'.heap.size) ∧
  (∀ k,k<w.heap.size→(∀ j,p.β j≠some k)→w'.heap[k]? = w.heap[k]?)∧(∀ b,p.R b→R' b)∧(∀ b,R' b→p.R b∨w.heap.size≤b)∧(∀ b,R' b→b<w'.heap.size) ∧
  (∀ k,zrl w' { p with R:=R' } (fun _=>0) k (lookc L' k))∧(AV.ag cs0).rel w' { p with R:=R' } (fun _=>0) v':=fun a' w' hs' ⟨hres,hm⟩=>by
  have hpin:∀ k,keyIn L k=true→p'.β k=p.β k∧p'.γ k=p.γ k∧s'.ver k=0:=fun k hk=>by
   obtain⟨h1,h2,h3,_⟩:=hs'.pn k (p.β k,p.γ k) (by show (if keyIn L k then some (p.β k,p.γ k) else none)=_;rw[if_pos hk])
   exact⟨h1,h2,h3⟩
  have hnew:∀ j b,j<1000→p'.β j=some b→w.heap.size≤b:=fun j b hj hb=>by
   rcases (hs'.bl j b hb).2.2.imp id (fun h=>h.resolve_right fun h=>h) with h1|⟨_,k,hk⟩
   ·exact h1
   ·exfalso
    cases hkk:keyIn L k with
    | true =>
      have h2:=(hpin k hkk).1.trans hk
      have:=hs'.ij j k b hb h2
      have:=(pinned_ge hL hkk).1
      omega
    | false =>
      have h2:=hrows k
      rw[lookc_not hkk] at h2
      simp only[zrl] at h2
      rw[h2.1] at hk;cases hk
  obtain⟨v,hv,hrel⟩:=run_resG (p0:=p) hs' hpin (R':=fun b=>p'.R b∨∃ j,j<1000∧p'.β j=some b) (fun _ h=>.inl h) (fun j b hj hb=>.inr ⟨j,hj,hb⟩) hres0 hres
  refine⟨v,hv,v,fun b=>p'.R b∨∃ j,j<1000∧p'.β j=some b,rfl,⟨hs'.base.os,hs'.base.tape,hs'.base.output,hs'.base.size⟩,fun k hk hn=>hs'.base.block k hk (fun ⟨j,hj⟩=>hn j hj) (fun h=>h),fun b hb=>.inl (hs'.r0 b hb),fun b hb=>?_,fun b hb=>?_,fun k=>?_,hrel⟩
  ·rcases hb with hb|⟨j,hj,hb⟩
   ·exact (hs'.rn b hb).imp id (fun h=>h.resolve_right fun h=>h)
   ·exact .inr (hnew j b hj hb)
  ·rcases hb with hb|⟨j,hj,hb⟩
   ·exact hs'.rb b hb
   ·exact (hs'.bl j b hb).1
  ·obtain⟨g1,g2⟩:=mfin_get hm
   cases hk:keyIn L k with
   | false =>
     rw[g2 k hk]
     have h2:=hrows k
     rw[lookc_not hk] at h2
     simp only[zrl] at h2 ⊢
     exact h2
   | true =>
     obtain⟨q1,q2,q3⟩:=g1 k hk
     obtain⟨h1,h2,h3⟩:=hpin k hk
     rw[q3]
     have hr:=hs'.rw k
     have hR1:∀ b,p'.R b→(p'.R b∨∃ j,j<1000∧p'.β j=some b):=fun _ h=>.inl h
     cases hcc:(s'.rows k).c with
     | box cs =>
       rw[hcc] at hr q2
       simp only[zrl] at hr
       simp only[frzC,zrl]
       obtain⟨b,cells,t,e1,e2,e3,e4⟩:=hr
       exact⟨b,cells,t,h1.symm.trans e1,e2,frz_relV (p0:=p) hs' hpin hR1 (fun j b hj hb=>.inr ⟨j,hj,hb⟩) q2 e3,e4⟩
     | arr t sz es =>
       rw[hcc] at hr
       simp only[zrl] at hr
       simp only[frzC,zrl]
       rw[h1,h2] at hr
       refine hr.imp id ?_
       rintro ⟨b,cells,e1,e2,e3,e4,e5⟩
       exact⟨b,cells,e1,e2,e3,e4,RV.relE_mono hR1 (fun _ _=>rfl) _ _ _ _ (fun _=>rfl) e5⟩
     | mp m =>
       rw[hcc] at hr
       simp only[zrl] at hr
       simp only[frzC,zrl]
       rw[h1] at hr
       obtain⟨b,e1,e2⟩:=hr
       exact⟨b,e1,mapRel_mono hR1 (fun _ _=>rfl) rfl e2⟩
     | mem Φ =>
       rw[hcc] at hr
       simp only[zrl] at hr
       simp only[frzC,zrl]
       rw[h1] at hr
       obtain⟨m,b,e0,e1,e2⟩:=hr
       exact⟨m,b,e0,e1,mapRel_mono hR1 (fun _ _=>rfl) rfl e2⟩
     | _=>rw[hcc] at q1;simp [okC] at q1
 cases e with
 | normal=>exact hs'.leave fun a'' w'' _ hs''=>fin a'' w'' hs'' hq
 | ret=>exact hs'.leave fun a'' w'' _ hs''=>fin a'' w'' hs'' hq
 | _=>exact hq.elim
end
attribute [go_sem] agIs_ag mpostG_normal mpostG_ret
end Go.Oc

namespace Go.Oc
open Go Go.RowKit
theorem relC_plain {w:World}{p:Plan}{ver:Nat→Nat}{R':Nat→Prop}(hR:∀ b,p.R b→R' b) {b:Nat}{cells:Array Value}{ty:TypeId}(hh:w.heap[b]? = some (.cells cells ty (0,0))) (h1:∀ u∈cells.toList,u.oneCell'=true) :
 ∀ (cs:List RV) (us:List Value) (j:Nat),(∀ i u,us[i]? = some u→cells[j+i]? = some u)→AV.relV w p ver (cs.map .r) us→RV.relC w R' cs ⟨b,0,none⟩ j
 | [],_,_,_,_=>by simp [RV.relC]
 | c::cs, us, j, hget, hV=>by
   simp only[List.map_cons,AV.relV] at hV
   obtain⟨u,us,rfl,hu,hV⟩:=hV
   simp only[RV.relC]
   have hc0:cells[j]? = some u:=by simpa using hget 0 u (by simp)
   refine⟨⟨u,?_,h1 u (by simpa using List.mem_of_getElem? (by simpa using hc0:cells.toList[j]? = some u)),?_⟩,?_⟩
   ·rw[add_at,Nat.zero_add,cell_of_row w b j cells ty (0,0) hh];exact hc0
   ·simp only[AV.rel] at hu
    exact RV.rel_mono hR (fun _ _=>rfl) _ _ hu
   ·exact relC_plain hR hh h1 cs us (j+1) (fun i u hi=>by
     have:=hget (i+1) u (by simpa using hi)
     rwa [show j+1+i=j+(i+1) by omega]) hV
theorem sub_freezeP (s:AS) (t k:Nat) {rs:List RV}(hk0:k<1000) (ht:s.tm t = .pt k (s.ver k) 0) (hc:(s.rows k).c = .box (rs.map .r)) :
 Sub s { s with tm:=upd s.tm t (.r (.rp rs)),rows:=upd s.rows k ⟨(s.rows k).ver+1,.dead⟩ }:=fun C a w ⟨p,hp⟩=>by
 have h1:=hp.reRow (w':=w) k hk0 .dead rfl none 1 (by simp [maxLen]) rfl rfl rfl (Nat.le_refl _) (fun _ _ _=>rfl) (fun _ h=>by cases h) (fun p' ver' _ hβ hγ _=>by simp only[zrl];exact⟨hβ,hγ⟩)
 have hval:=hp.tm t
 rw[ht] at hval
 have hr:=hp.rw k
 rw[hc] at hr
 simp only[zrl] at hr
 obtain⟨b,cs,ty,g1,g2,g3,g4⟩:=hr
 simp only[AV.rel] at hval
 obtain⟨b',e1,e2⟩:=hval.2 trivial
 rw[g1] at e1
 injection e1 with e1
 subst e1
 obtain⟨q1,_,q2⟩:=hp.bl k b g1
 have h2:=h1.publish (b:=b) q1 (q2.imp id fun h=>h.resolve_left (fun h=>by omega)) (fun j hj=>by
  have hj':upd p.β k none j=some b:=hj
  by_cases e:j=k
  ·subst e;rw[zus] at hj';cases hj'
  ·rw[zuo _ _ e] at hj';exact e (hp.ij j k b hj' g1)) (hp.ex.publish g1)
 refine⟨_,{ h2 with tm:=fun j=>?_ }⟩
 show AV.rel w _ _ (upd s.tm t _ j) _
 by_cases hj:j=t
 ·subst hj
  rw[zus]
  simp only[AV.rel,RV.rel]
  refine⟨_,e2,.inr rfl,?_⟩
  exact relC_plain (fun _ h=>.inl h) g2 g4 _ _ _ (fun i u h=>by simpa using h) g3
 ·rw[zuo _ _ hj]
  exact h2.tm j
section
variable {n:Nat}{l:List (Nat × AV)}{vs:Nat→Nat}{cs:List (Nat × RowC)}
theorem zfP (t k:Nat) (rs:List RV) (hk0:k<1000) (ht:look l t = .pt k (vs k) 0) (hc:lookc cs k = .box (rs.map .r)) :
 Sub (st n l vs cs) (st n ((t,.r (.rp rs))::l) (upd vs k (vs k+1)) (delc cs k)):=by
 have:=sub_freezeP (st n l vs cs) t k hk0 ht hc
 have e:({ st n l vs cs with tm:=upd (st n l vs cs).tm t (.r (.rp rs)),rows:=upd (st n l vs cs).rows k ⟨((st n l vs cs).rows k).ver+1,.dead⟩ }:AS)=st n ((t,.r (.rp rs))::l) (upd vs k (vs k+1)) (delc cs k):=by
  simp only[st,AS.mk.injEq,true_and]
  constructor
  ·funext j
   show upd (look l) t (.r (.rp rs)) j=look ((t,.r (.rp rs))::l) j
   rfl
  ·funext j
   rw[lookc_delc]
   unfold upd
   split<;>rfl
 rwa [e] at this
end
end Go.Oc

namespace Go.Oc
open Go Go.RowKit
section
variable {P:Program}{C:Ctx}{s:AS}{ops:Array Oper}
theorem aops_seq2 {Q:AS→Prop}{Q':Exit→Act→World→Prop}{l2:List Oper}{n:Nat}(hQ:∀ s a w,s.n=n→Q s→SRel C s a w→wpListIn (fnc C.rd) 0 P ops Q' l2 a w):∀ (l:List Oper) (s:AS) (a:Act) (w:World),s.n=n→dstOk l.toArray s.n=true→aops P false ops l Q s→SRel C s a w→wpListIn (fnc C.rd) 0 P ops Q' (l++l2) a w
 | [],s,a,w,hn0,_,h,hs=>hQ s a w hn0 h hs
 | o::l, s, a, w, hn0, hd, h, hs=>by
   rw[List.cons_append]
   have hd0:∀ t,o.dst=some t→t<s.n:=dstOk_get (i:=0) hd (by simp)
   have hdl:dstOk l.toArray s.n=true:=by
    unfold dstOk at hd ⊢
    simp only[List.all_toArray,List.all_cons,Bool.and_eq_true] at hd ⊢
    exact hd.2
   obtain⟨p,hp⟩:=hs
   have run:∀ {s1:AS},s1=s→xop P false o (aops P false ops l Q) s1→wantA ops s o=some true→wpListIn (fnc C.rd) 0 P ops Q' (o::(l++l2)) a w:=fun e hop hw=>by
    subst e
    unfold wpListIn
    rw[if_pos (wantA_sound hp hw)]
    refine xop_sound hp hop hd0 (fun a' w' p' s' hs' hn hK=>?_) (dstOk_nd (i:=0) hd (by simp))
    exact aops_seq2 hQ l _ a' w' (hn.trans hn0) (by rw[hn];exact hdl) hK ⟨p',hs'⟩
   have skip:∀ {s1:AS},s1=s→aops P false ops l Q (s1.put o.dst (.r .ud))→wantA ops s o=some false→wpListIn (fnc C.rd) 0 P ops Q' (o::(l++l2)) a w:=fun e hop hw=>by
    subst e
    unfold wpListIn
    rw[wantA_sound hp hw]
    simp only[Bool.false_eq_true,if_false]
    refine⟨fun _ _=>trivial,?_⟩
    have:=hp.put' (d:=o.dst) (av:=.r .ud) (v:=undef) (by simp only[AV.rel,RV.rel]) hd0
    exact aops_seq2 hQ l _ _ w ((put_n _ _ _).trans hn0) (by rw[put_n];exact hdl) hop ⟨p,this⟩
   unfold aops at h
   split at h
   ·rename_i hg
    exact run rfl h (by simp [wantA,hg])
   ·rename_i g want hg
    split at h
    ·rename_i ht
     exact skip rfl h (by simp [wantA,hg,ht])
    ·rename_i t ht
     split at h
     ·rename_i b hb
      by_cases hw:b=want
      ·subst hw
       exact run (put_self hb) (h.1 rfl) (by simp [wantA,hg,ht,hb])
      ·have hw':b = !want:=by cases b<;>cases want<;>simp_all
       subst hw'
       exact skip (put_self hb) (h.2 rfl) (by simp [wantA,hg,ht,hb])
     ·rename_i hb
      exact skip rfl h (by simp [wantA,hg,ht,hb])
     ·exact h.elim
def sops (P:Program) (C:Ctx) (ops:Array Oper) (l:List Oper) (Q:Exit→AS→Prop) (s:AS):Prop:=∀ a w,SRel C s a w→wpListIn (fnc C.rd) 0 P ops (fun e a' w'=>∃ s',SRel C s' a' w'∧Q e s') l a w
variable {Q:Exit→AS→Prop}
theorem awp_long {id:Nat}{l:List Oper}(h:sops P C l.toArray l Q s):awp P C (.region id l.toArray false) Q s:=fun a w hs=>wpIn_region_list (h a w hs)
theorem sops_take (k:Nat) {l:List Oper}(hd:dstOk (l.take k).toArray s.n=true) (h:∀ K:AS→Prop,(∀ s',s'.n=s.n→sops P C ops (l.drop k) Q s'→K s')→aops P false ops (l.take k) K s):sops P C ops l Q s:=fun a w hs=>by
 have h1:=h (fun s'=>s'.n=s.n→sops P C ops (l.drop k) Q s') (fun s' _ hq _=>hq)
 have:=aops_seq2 (Q':=fun e a' w'=>∃ s',SRel C s' a' w'∧Q e s') (l2:=l.drop k) (n:=s.n) (fun s' a' w' hn hq hs'=>hq hn a' w' hs') (l.take k) s a w rfl hd h1 hs
 rwa [List.take_append_drop] at this
theorem sops_sub {l:List Oper}{s':AS}(h:Sub s s') (hq:sops P C ops l Q s'):sops P C ops l Q s:=fun a w hs=>hq a w (h C a w hs)
theorem sops_end {l:List Oper}(hd:dstOk l.toArray s.n=true) (h:∀ K:AS→Prop,(∀ s,Q .normal s→K s)→aops P false ops l K s):sops P C ops l Q s:=fun a w hs =>
 aops_seq (fun s a w hq hs=>⟨s,hs,hq⟩) l s a w hd (h _ fun _ h=>h) hs
theorem awp_fitV {c:Code}{n:Nat}{F:(Nat→Nat)→List (Nat × AV)}{R:(Nat→Nat)→List (Nat × RowC)}(h:FitV n F R s) (k:∀ vs,awp P C c Q (st n (F vs) vs (R vs))):awp P C c Q s:=by
 obtain⟨vs,h⟩:=h
 exact zw h (k vs)
theorem zaw {n:Nat}{c d:Code}{Q1:Exit→AS→Prop}{α:Type}(F:α→(Nat→Nat)→List (Nat × AV)) (R:α→(Nat→Nat)→List (Nat × RowC)) (I:α→Prop)
 (h0:∀ s,awp P C d Q1 s→Q .normal s) (h1:awp P C c (andThen (fun s'=>∃ z,I z∧FitV n (F z) (R z) s') Q) s) (h2:∀ z vs,I z→awp P C d Q1 (st n (F z vs) vs (R z vs))):awp P C c Q s:=by
 refine awp_mono ?_ h1
 intro e s' hq
 cases e with
 | normal =>
   obtain⟨z,hz,hf⟩:=hq
   exact h0 s' (awp_fitV hf fun vs=>h2 z vs hz)
 | _=>exact hq
end
end Go.Oc

namespace Go.Oc
open Go Go.RowKit
def ICalls (P:Program) (z:Bool) (F:FuncId) (caps:List RV) (xs:List (List RV)):Prop :=
 callable P F=true∧∀ (w:World) (R:Nat→Prop) (vs:Array Value) (X:XS) (Ψ Θ:Nat→Prop),(∀ b,R b→b<w.heap.size)→RV.relV w R caps vs.toList→X.z=z→(z=false→∀ b,R b→X.R b)→X.n0≤w.heap.size→YOk P X →
  (∀ b,Ψ b→b<w.heap.size)→(∀ b,Θ b→b<w.heap.size)→(∀ b,R b→¬ Θ b)→X.X (some xs) w Ψ Θ →
  Calls P F (#[.func (.yield X.l) #[] #[]]++vs) w fun e w'=>(∃ v,e = .returned v)∧(∃ Ψ' Θ',X.X (some []) w' Ψ' Θ'∨X.X none w' Ψ' Θ')
def ipost (P:Program):Exit→AS→Prop
 | .normal,s=>∃ l z,(s.rows 999).c = .gh P l z (some [])∨(s.rows 999).c = .gh P l z none
 | .ret,s=>∃ l z,(s.rows 999).c = .gh P l z (some [])∨(s.rows 999).c = .gh P l z none
 | _,_=>False
theorem icalls_st {P:Program}{z:Bool}{f:FuncId}{fn:Func}{c:Code}{n:Nat}{caps:List RV}{xs:List (List RV)}(hf:P.funcs[f]? = some fn) (hb:fn.body=some c) (hc:callable P f=true) (hn:fn.ntmps=n) (hres:fn.results.toList=[])
 (hargs:caps.length+1≤n) (h:∀ C l,awp P C c (ipost P) (st n (argL 0 (.yl l::caps)) (fun _=>0) [(999,.gh P l z (some xs))])):ICalls P z f caps xs:=by
 refine⟨hc,fun w R vs0 X Ψ Θ hR hV0 hz hzR hn0 hY hΨ hΘ hRΘ hX=>?_⟩
 have hV:RV.relV w R (.yl X.l::caps) (#[Value.func (.yield X.l) #[] #[]]++vs0).toList:=by
  simp only[RV.relV];exact⟨Value.func (.yield X.l) #[] #[],vs0.toList,by simp,by simp only[RV.rel],hV0⟩
 generalize #[Value.func (.yield X.l) #[] #[]]++vs0=vs at hV
 have hlen:=RV.relV_length hV
 simp only[Array.length_toList,List.length_cons] at hlen
 let C:Ctx:={ w0:=w,R0:=R,bor:=Θ,pin:=fun _=>none,X:=X }
 let p:Plan:={ R:=R,β:=fun _=>none,γ:=fun _=>1,X:=X,Ψ:=Ψ,Θ:=Θ }
 have hs:SR C p (st n (argL 0 (.yl X.l::caps)) (fun _=>0) [(999,.gh P X.l z (some xs))]) { tmps:=vs++Array.replicate (fn.ntmps-vs.size) undef,defers:=[] } w:={
  base:=⟨rfl,rfl,rfl,Nat.le_refl _,fun _ _ _ _=>rfl⟩
  r0:=fun _ h=>h
  rn:=fun _ h=>.inl h
  rb:=hR
  tm:=fun t=>by
   show (look (argL 0 (.yl X.l::caps)) t).rel _ _ _ _
   by_cases hmem:∃ x,(t,x)∈argL 0 (RV.yl X.l::caps)
   ·cases e:(RV.yl X.l::caps)[t]? with
    | none =>
      obtain⟨x,hx⟩:=hmem
      obtain⟨i,y,h1,h2⟩:=argL_mem _ hx
      simp only[Nat.zero_add,Prod.mk.injEq] at h1
      rw[← h1.1,e] at h2;cases h2
    | some x =>
      obtain⟨u,hu,hx⟩:=RV.relV_get hV e
      have:(vs++Array.replicate (fn.ntmps-vs.size) undef).getD t undef=u:=by
       have ht:t<vs.size:=by have:=(List.getElem?_eq_some_iff.1 hu).1;simpa using this
       rw[Array.getD_eq_getD_getElem?,Array.getElem?_append_left ht]
       simp only[Array.getElem?_toList] at hu
       rw[hu];rfl
      have e2:=argL_look (k:=0) e
      rw[Nat.zero_add] at e2
      rw[this,e2]
      simpa only[AV.rel] using hx
   ·rw[look_none hmem]
    exact AV.rel_un _ _ _ _
  sz:=by simp only[Array.size_append,Array.size_replicate,st];omega
  ex:={
   px:=rfl
   n0:=hn0
   ψ0:=fun hz' b hb=>hzR (hz▸hz') b hb
   ψl:=hΨ
   θl:=hΘ
   ψb:=fun k b h=>by cases h
   ψr:=hRΘ
   ψo:=fun b h=>h.elim
   θo:=fun b h _=>h
   bo:=fun b h=>h.elim (hΘ b) (fun h=>h.elim)
   ψn:=fun hn=>(hn _ _ _ _ hX).elim
   hd:=fun b h=>h.elim
   rm:=fun _=>rfl
   df:=⟨[],rfl,List.nodup_nil,fun D hD=>by cases hD⟩ }
  rw:=fun k=>by
   show zrl w p _ k (lookc [(999,RowC.gh P X.l z (some xs))] k)
   rw[zlc,lookc_nil]
   split
   ·rename_i e
    simp only[zrl];exact⟨e,rfl,rfl,rfl,hz,hY,hX⟩
   ·simp only[zrl];exact⟨rfl,rfl⟩
  bl:=fun k b h=>by simp [p] at h
  ij:=fun k k' b h=>by simp [p] at h
  cap:=fun k=>by simp [p,maxLen]
  pn:=fun k x h=>by cases h
  lk:=fun j km n l cur h _=>by
   have h':lookc [(999,RowC.gh P X.l z (some xs))] j = .mi km n l cur:=h
   rw[zlc,lookc_nil] at h'
   split at h'<;>cases h' }
 refine callsIn_wide.1 (callsIn_of_wp_marks (n:=0) hf hb trivial (wpIn_mono (h C X.l _ w ⟨p,hs⟩) ?_))
 rintro e a' w' ⟨s',⟨p',hs'⟩,hq⟩
 have fin:∀ (a':Act) (w':World),SR C p' s' a' w'→(∃ l z,(s'.rows 999).c = .gh P l z (some [])∨(s'.rows 999).c = .gh P l z none) →
  ∃ v,(results fn a'.tmps).run P w' = .ok v w'∧((∃ v',Ending.returned v = .returned v')∧∃ Ψ' Θ',X.X (some []) w' Ψ' Θ'∨X.X none w' Ψ' Θ'):=fun a' w' hs' ⟨l,z',hq⟩=>by
  have hm:(fn.results.mapM (resOp a'.tmps)).run P w' = .ok #[] w':=by
   rw[Array.mapM_eq_mapM_toList,hres]
   simp only[Sem.run_map,List.mapM_nil,Sem.run_pure,Result.andThen_ok]
  refine⟨.tuple #[],by rw[results_eq,Sem.run_bind,hm];simp,⟨_,rfl⟩,p'.Ψ,p'.Θ,?_⟩
  have hpx:p'.X=X:=hs'.ex.px
  have hr:=hs'.rw 999
  rcases hq with hq|hq
  ·rw[hq] at hr
   simp only[zrl] at hr
   rw[hpx] at hr
   exact .inl hr.2.2.2.2.2.2
  ·rw[hq] at hr
   simp only[zrl] at hr
   rw[hpx] at hr
   exact .inr hr.2.2.2.2.2.2
 cases e with
 | normal=>exact hs'.leave fun a'' w'' _ hs''=>fin a'' w'' hs'' hq
 | ret=>exact hs'.leave fun a'' w'' _ hs''=>fin a'' w'' hs'' hq
 | _=>exact hq.elim
section
variable {P:Program}{C:Ctx}{p p1 p3:Plan}{s s1 s3:AS}{a a1 a3:Act}{w w1 w2 w3:World}{L:Nat}{R:Nat→Prop}
def Cin (C:Ctx) (p:Plan) (R:Nat→Prop) (w:World) (rd:Option Nat) (Hd:Nat→Prop):Ctx :=
 { w0:=w,R0:=fun b=>p.R b∨R b,bor:=fun b=>C.bor b∧∃ k,1000≤k∧p.β k=some b,pin:=C.pin,own:=fun b=>∃ k,p.β k=some b∧¬ (1000≤k∧C.bor b),X:=C.X,rd:=rd,hd:=Hd }
theorem own_of {k b:Nat}(h:p.β k=some b):(1000≤k∧(C.bor b∧∃ k,1000≤k∧p.β k=some b))∨∃ k,p.β k=some b∧¬ (1000≤k∧C.bor b):=by
 by_cases e:1000≤k∧C.bor b
 ·exact .inl ⟨e.1,e.2,k,e.1,h⟩
 ·exact .inr ⟨k,h,e⟩
theorem SR.into (h:SR C p s a w) (hn:∀ o w Ψ Θ,¬ C.X.X o w Ψ Θ) (hos:w2.os=w.os) (htape:w2.tape=w.tape) (hout:w2.output=w.output) (hsize:w2.heap.size=w.heap.size) (hoth:∀ b,b≠L→w2.heap[b]? = w.heap[b]?)
 (hLR:¬ p.R L) (hLβ:∀ k,p.β k≠some L) (hR:∀ b,R b→b<w.heap.size∧∀ k,p.β k≠some b) {a':Act}{tm':Nat→AV}(htm:∀ t,(tm' t).rel w2 { p with R:=fun b=>p.R b∨R b } s.ver (a'.tmps.getD t undef))
 (hsz:a'.tmps.size=s.n) (hdf:a'.defers=[]) {rd:Option Nat}{Hd:Nat→Prop}(hHd:∀ b,Hd b→b<w.heap.size∧¬ C.bor b∧¬ p.R b∧¬ R b∧∀ k,p.β k≠some b) (hC:C.X=XS.none) :
 SR (Cin C p R w2 rd Hd) { p with R:=fun b=>p.R b∨R b } { s with tm:=tm' } a' w2:=by
 have hk:Kept w w2 p { p with R:=fun b=>p.R b∨R b } s.ver s.ver :=
  ⟨fun _ h=>.inl h,fun ad hr=>World.cell?_of_block (hoth _ fun e=>hLR (e▸hr)),fun _=>Nat.le_refl _,fun _ _=>⟨rfl,rfl⟩⟩
 have hψ:=h.ex.ψn hn
 exact {
  base:=⟨rfl,rfl,rfl,Nat.le_refl _,fun _ _ _ _=>rfl⟩
  r0:=fun _ h=>h
  rn:=fun _ h=>.inl h
  rb:=fun b hb=>by rw[hsize];exact hb.elim (h.rb b) (fun hb=>(hR b hb).1)
  tm:=htm
  sz:=hsz
  ex:={
   px:=h.ex.px
   n0:=by show C.X.n0≤_;rw[hC];exact Nat.zero_le _
   ψ0:=fun hz=>by have:C.X.z=false:=hz;rw[hC] at this;cases this
   ψl:=fun b hb=>((hψ b).1 hb).elim
   θl:=fun b hb=>((hψ b).2 hb).elim
   ψb:=fun k b _=>hψ b
   ψr:=fun b _=>(hψ b).2
   ψo:=fun b _=>.inr (by show C.X.n0≤_;rw[hC];exact Nat.zero_le _)
   θo:=fun b hb=>((hψ b).2 hb).elim
   bo:=fun b hb=>by
    show b<w2.heap.size
    rw[hsize]
    rcases hb with⟨_,k,_,hk⟩|⟨k,hk,_⟩
    ·exact (h.bl k b hk).1
    ·exact (h.bl k b hk).1
   ψn:=fun _ b=>hψ b
   hd:=fun b hb=>by
    obtain⟨g1,g2,g3,g4,g5⟩:=hHd b hb
    exact⟨by show b<w2.heap.size;rw[hsize];exact g1,fun ⟨g,_⟩=>g2 g,fun ⟨k,g,_⟩=>g5 k g,by rw[hsize];exact g1,fun g=>g.elim g3 g4,(hψ b).1,(hψ b).2,g5⟩
   rm:=fun _=>hdf
   df:=⟨[],hdf,List.nodup_nil,fun D hD=>by cases hD⟩ }
  rw:=fun k=>by
   by_cases e:k=999
   ·have hr:=h.rw k
    show zrl w2 _ s.ver k (s.rows k).c
    cases hc:(s.rows k).c with
    | gh P' l z left =>
      rw[hc] at hr
      simp only[zrl] at hr
      exact (hn _ _ _ _ (h.ex.px▸hr.2.2.2.2.2.2)).elim
    | _ =>
      refine rowRel_mono hk (.inr ⟨rfl,rfl,rfl,hos,htape,hout,Nat.le_of_eq hsize.symm,fun b hb=>((hψ b).1 hb).elim⟩) rfl rfl (fun b hb=>hoth b fun e=>hLβ k (e▸hb)) _ (fun km _ _ _ _ _ b hb=>hoth b fun e=>hLβ km (e▸hb)) (by rw[hc] at hr;exact hr)
   ·exact rowRel_mono hk (.inl e) rfl rfl (fun b hb=>hoth b fun e=>hLβ k (e▸hb)) _ (fun km _ _ _ _ _ b hb=>hoth b fun e=>hLβ km (e▸hb)) (h.rw k)
  bl:=fun k b hb=>⟨by rw[hsize];exact (h.bl k b hb).1,fun hr=>hr.elim (h.bl k b hb).2.1 (fun hr=>(hR b hr).2 k hb),.inr (own_of hb)⟩
  ij:=h.ij
  cap:=h.cap
  pn:=h.pn
  lk:=h.lk }
structure Hop (C:Ctx) (p:Plan) (w:World) (L:Nat) (R:Nat→Prop) (p3:Plan) (w3:World):Prop where
 os:w3.os=w.os
 tape:w3.tape=w.tape
 output:w3.output=w.output
 size:w.heap.size≤w3.heap.size
 heap:∀ b,b<w.heap.size→(∀ k,p.β k≠some b)→b≠L→w3.heap[b]? = w.heap[b]?
 r:∀ b,p.R b→p3.R b
 rn:∀ b,p3.R b→p.R b∨R b∨w.heap.size≤b∨∃ k,p.β k=some b∧¬ (1000≤k∧C.bor b)
 bl:∀ k b,p3.β k=some b→w.heap.size≤b∨(1000≤k∧C.bor b∧∃ k,1000≤k∧p.β k=some b)∨∃ k,p.β k=some b∧¬ (1000≤k∧C.bor b)
theorem Hop.of (hos:w2.os=w.os) (htape:w2.tape=w.tape) (hout:w2.output=w.output) (hsize:w2.heap.size=w.heap.size) (hoth:∀ b,b≠L→w2.heap[b]? = w.heap[b]?) {rd:Option Nat}{Hd:Nat→Prop}
 (h:SR (Cin C p R w2 rd Hd) p3 s3 a3 w3):Hop C p w L R p3 w3 where
 os:=h.base.os.trans hos
 tape:=h.base.tape.trans htape
 output:=h.base.output.trans hout
 size:=hsize▸h.base.size
 heap:=fun b hb hn hl=>(h.base.block b (by show b<w2.heap.size;rw[hsize];exact hb) (fun ⟨_,k,_,hk⟩=>hn k hk) (fun ⟨k,hk,_⟩=>hn k hk)).trans (hoth b hl)
 r:=fun b hb=>h.r0 b (.inl hb)
 rn:=fun b hb=>by
  rcases h.rn b hb with g|g|g
  ·exact g.elim .inl (fun g=>.inr (.inl g))
  ·exact .inr (.inr (.inl (by rw[← hsize];exact g)))
  ·exact .inr (.inr (.inr g))
 bl:=fun k b hb=>by
  rcases (h.bl k b hb).2.2 with g|⟨g1,g2,k',g3,g4⟩|g
  ·exact .inl (by rw[← hsize];exact g)
  ·exact .inr (.inl ⟨g1,g2,k',g3,g4⟩)
  ·exact .inr (.inr g)
theorem Hop.trans (h:Hop C p w L R p1 w1) {C':Ctx}(hCb:∀ b,C'.bor b↔C.bor b∧∃ k,1000≤k∧p.β k=some b) (h':Hop C' p1 w1 L (fun _=>False) p3 w3):Hop C p w L R p3 w3 where
 os:=h'.os.trans h.os
 tape:=h'.tape.trans h.tape
 output:=h'.output.trans h.output
 size:=Nat.le_trans h.size h'.size
 heap:=fun b hb hn hl=>by
  refine (h'.heap b (Nat.lt_of_lt_of_le hb h.size) (fun k hk=>?_) hl).trans (h.heap b hb hn hl)
  rcases h.bl k b hk with g|⟨_,_,k',_,g⟩|⟨k',g,_⟩
  ·omega
  ·exact hn k' g
  ·exact hn k' g
 r:=fun b hb=>h'.r b (h.r b hb)
 rn:=fun b hb=>by
  rcases h'.rn b hb with g|g|g|⟨k,g,g'⟩
  ·exact h.rn b g
  ·exact g.elim
  ·exact .inr (.inr (.inl (Nat.le_trans h.size g)))
  ·rcases h.bl k b g with g1|⟨g1,g2,g3⟩|g1
   ·exact .inr (.inr (.inl g1))
   ·exact (g' ⟨g1,(hCb b).2 ⟨g2,g3⟩⟩).elim
   ·exact .inr (.inr (.inr g1))
 bl:=fun k b hb=>by
  rcases h'.bl k b hb with g|⟨g1,g2,_⟩|⟨k',g1,g2⟩
  ·exact .inl (Nat.le_trans h.size g)
  ·exact .inr (.inl ⟨g1,((hCb b).1 g2).1,((hCb b).1 g2).2⟩)
  ·rcases h.bl k' b g1 with q|⟨q1,q2,q3⟩|q
   ·exact .inl q
   ·exact (g2 ⟨q1,(hCb b).2 ⟨q2,q3⟩⟩).elim
   ·exact .inr (.inr q)
theorem Hop.put (h:Hop C p w L R p3 w3) {o:Obj}:Hop C p w L R p3 (w3.putObj L o) where
 os:=h.os
 tape:=h.tape
 output:=h.output
 size:=by rw[World.putObj_size];exact h.size
 heap:=fun b hb hn hl=>(World.putObj_heap_other hl).trans (h.heap b hb hn hl)
 r:=h.r
 rn:=h.rn
 bl:=h.bl
theorem SR.land (h0:SR C p s a w) (hn:∀ o w Ψ Θ,¬ C.X.X o w Ψ Θ) (hL0:C.w0.heap.size≤L) (hLm:∀ d∈a.defers,d.target ≠ .collected L) (hop:Hop C p w L R p3 w3)
 (hR:∀ b,R b→b<w.heap.size∧(∀ d∈a.defers,d.target ≠ .collected b)∧¬ C.hd b∧(C.R0 b∨C.w0.heap.size≤b∨C.own b)) {C':Ctx}(hpin:C'.pin=C.pin) (hX:C'.X=C.X) (h3:SR C' p3 s3 a3 w2) (hLR:¬ p3.R L) (hLβ:∀ k,p3.β k≠some L)
 (hos:w3.os=w2.os) (htape:w3.tape=w2.tape) (hout:w3.output=w2.output) (hsize:w3.heap.size=w2.heap.size) (hoth:∀ b,b≠L→w3.heap[b]? = w2.heap[b]?) :
 SR C p3 { n:=s.n,tm:=fun _=>.r .un,rows:=s3.rows } a w3:=by
 have hψ:=h3.ex.ψn (by rw[hX];exact hn)
 have hk:Kept w2 w3 p3 p3 s3.ver s3.ver:=⟨fun _ h=>h,fun ad hr=>World.cell?_of_block (hoth _ fun e=>hLR (e▸hr)),fun _=>Nat.le_refl _,fun _ _=>⟨rfl,rfl⟩⟩
 have hx:KX w2 w3 p3 p3:=⟨rfl,rfl,rfl,hos,htape,hout,Nat.le_of_eq hsize.symm,fun b hb=>((hψ b).1 hb).elim⟩
 have hβC:∀ k b,p3.β k=some b→C.w0.heap.size≤b∨(1000≤k∧C.bor b)∨C.own b:=fun k b hb=>by
  rcases hop.bl k b hb with g|⟨g1,g2,_⟩|⟨k',g1,g2⟩
  ·exact .inl (Nat.le_trans h0.base.size g)
  ·exact .inr (.inl ⟨g1,g2⟩)
  ·rcases (h0.bl k' b g1).2.2 with q|q|q
   ·exact .inl q
   ·exact (g2 q).elim
   ·exact .inr (.inr q)
 have hout':∀ b,b<w.heap.size→(∀ k,p.β k≠some b)→(∀ k,p3.β k=some b→1000≤k∧C.bor b∧∃ k,1000≤k∧p.β k=some b):=fun b hb hn k hk=>by
  rcases hop.bl k b hk with g|g|⟨k',g1,_⟩
  ·omega
  ·exact g
  ·exact (hn k' g1).elim
 exact {
  base:=⟨hop.os.trans h0.base.os,hop.tape.trans h0.base.tape,hop.output.trans h0.base.output,Nat.le_trans h0.base.size hop.size,fun b hb hbor hown=>by
   refine (hop.heap b (Nat.lt_of_lt_of_le hb h0.base.size) (fun k hk=>?_) (fun e=>by omega)).trans (h0.base.block b hb hbor hown)
   rcases (h0.bl k b hk).2.2 with g|g|g
   ·omega
   ·exact hbor g.2
   ·exact hown g⟩
  r0:=fun b hb=>hop.r b (h0.r0 b hb)
  rn:=fun b hb=>by
   rcases hop.rn b hb with g|g|g|⟨k,g1,g2⟩
   ·exact h0.rn b g
   ·exact (hR b g).2.2.2
   ·exact .inr (.inl (Nat.le_trans h0.base.size g))
   ·rcases (h0.bl k b g1).2.2 with q|q|q
    ·exact .inr (.inl q)
    ·exact (g2 q).elim
    ·exact .inr (.inr q)
  rb:=fun b hb=>hsize▸h3.rb b hb
  tm:=fun t=>AV.rel_un _ _ _ _
  sz:=h0.sz
  ex:={
   px:=h3.ex.px.trans hX
   n0:=h0.ex.n0
   ψ0:=h0.ex.ψ0
   ψl:=fun b hb=>((hψ b).1 hb).elim
   θl:=fun b hb=>((hψ b).2 hb).elim
   ψb:=fun k b _=>hψ b
   ψr:=fun b _=>(hψ b).2
   ψo:=h0.ex.ψo
   θo:=fun b hb=>((hψ b).2 hb).elim
   bo:=h0.ex.bo
   ψn:=fun _ b=>hψ b
   hd:=fun b hb=>by
    obtain⟨k1,k2,k3,k4,k5,k6,k7,k8⟩:=h0.ex.hd b hb
    refine⟨k1,k2,k3,Nat.lt_of_lt_of_le k4 hop.size,fun g=>?_,(hψ b).1,(hψ b).2,fun k hk=>?_⟩
    ·rcases hop.rn b g with g|g|g|⟨k,g,_⟩
     ·exact k5 g
     ·exact (hR b g).2.2.1 hb
     ·omega
     ·exact k8 k g
    ·exact k2 (hout' b k4 k8 k hk).2.1
   rm:=h0.ex.rm
   df:=by
    obtain⟨Ds,g1,g2,g3⟩:=h0.ex.df
    refine⟨Ds,g1,g2,fun D hD=>?_⟩
    have hmem:({ target:=.collected D,args:=#[] }:Deferred)∈a.defers:=by rw[g1];exact List.mem_map.2 ⟨D,hD,rfl⟩
    obtain⟨k1,k2,k3,k4,k5,k6⟩:=g3 D hD
    have hlt:D<w.heap.size:=(Array.getElem?_eq_some_iff.1 k1).1
    refine⟨(hop.heap D hlt k4 fun e=>hLm _ hmem (by rw[e])).trans k1,k2,fun g=>?_,fun k hk=>?_,(hψ D).1,(hψ D).2⟩
    ·rcases hop.rn D g with g|g|g|⟨k,g,_⟩
     ·exact k3 g
     ·exact (hR D g).2.1 _ hmem rfl
     ·omega
     ·exact k4 k g
    ·have:=h0.ex.bo D (.inl (hout' D hlt k4 k hk).2.1);omega }
  rw:=fun k=>by
   show zrl w3 p3 s3.ver k (s3.rows k).c
   exact rowRel_mono hk (.inr hx) rfl rfl (fun b hb=>hoth b fun e=>hLβ k (e▸hb)) _ (fun km _ _ _ _ _ b hb=>hoth b fun e=>hLβ km (e▸hb)) (h3.rw k)
  bl:=fun k b hb=>⟨by rw[hsize];exact (h3.bl k b hb).1,(h3.bl k b hb).2.1,hβC k b hb⟩
  ij:=h3.ij
  cap:=h3.cap
  pn:=fun k x hx=>h3.pn k x (by rw[hpin];exact hx)
  lk:=h3.lk }
end
end Go.Oc

namespace Go.Oc
open Go Go.RowKit
section
variable {P:Program}{C:Ctx}{p:Plan}{s:AS}{a:Act}{w:World}
theorem SR.enter (h:SR C p s a w) (hrd:C.rd=none) (o1:Loop) :
 SR C p s { tmps:=a.tmps,defers:={ target:=.collected w.heap.size,args:=#[] }::a.defers } ((w.alloc (.deferred (some []))).alloc (.loop o1)):=by
 have h1:SR C p s a ((w.alloc (.deferred (some []))).alloc (.loop o1)) :=
  h.below (R':=p.R) (((Below.refl _ w).alloc (Nat.le_refl _) _).alloc (by simp) _) (fun _ h=>h) (fun _ h=>.inl h) (fun b hb=>by have:=h.rb b hb;simp;omega)
 have hnew:((w.alloc (.deferred (some []))).alloc (.loop o1)).heap[w.heap.size]? = some (.deferred (some [])):=(Below.heap_alloc _ _ _ (by simp)).trans (World.alloc_heap_new w _)
 refine h1.other rfl rfl rfl rfl (Nat.le_refl _) (fun _ _ _=>rfl) { h1.ex with rm:=fun hr=>absurd hr (by rw[hrd];simp),df:=?_ }
 obtain⟨Ds,g1,g2,g3⟩:=h.ex.df
 obtain⟨Ds',g1',_,g3'⟩:=h1.ex.df
 have he:Ds'=Ds:=marks_inj (g1'.symm.trans g1)
 subst he
 refine⟨w.heap.size::Ds',by rw[g1];rfl,List.nodup_cons.2 ⟨fun hD=>?_,g2⟩,fun D hD=>?_⟩
 ·have:=(Array.getElem?_eq_some_iff.1 (g3 _ hD).1).1;omega
 ·rcases List.mem_cons.1 hD with rfl|hD
  ·exact⟨hnew,h.base.size,fun hr=>by have:=h.rb _ hr;omega,fun k hk=>by have:=(h.bl k _ hk).1;omega,fun hr=>by have:=h.ex.ψl _ hr;omega,fun hr=>by have:=h.ex.θl _ hr;omega⟩
  ·exact g3' D hD
theorem SR.wait (h:SR C p s a w) (hdead:(s.rows 0).c = .dead) (ts:List Nat) :
 SR C p { n:=s.n,tm:=fun _=>.r .un,rows:=upd s.rows 0 ⟨(s.rows 0).ver,.sus (ts.map s.tm) (ts.map fun t=>a.tmps.getD t undef)⟩ } a w:=by
 have hv:AS.ver { n:=s.n,tm:=fun _=>.r .un,rows:=upd s.rows 0 ⟨(s.rows 0).ver,.sus (ts.map s.tm) (ts.map fun t=>a.tmps.getD t undef)⟩ }=s.ver:=by
  funext j
  show (upd s.rows 0 _ j).ver=(s.rows j).ver
  unfold upd;split
  ·rename_i e;subst e;rfl
  ·rfl
 exact {
  base:=h.base
  r0:=h.r0
  rn:=h.rn
  rb:=h.rb
  tm:=fun t=>AV.rel_un _ _ _ _
  sz:=h.sz
  ex:=h.ex
  rw:=fun k=>by
   rw[hv]
   show zrl w p s.ver k (upd s.rows 0 _ k).c
   by_cases e:k=0
   ·subst e
    rw[zus]
    have hr:=h.rw 0
    rw[hdead] at hr
    simp only[zrl] at hr ⊢
    refine⟨hr.1,hr.2,?_⟩
    clear hv hr
    induction ts with
    | nil=>simp [AV.relV]
    | cons t ts ih=>simp only[List.map_cons,AV.relV];exact⟨_,_,rfl,h.tm t,ih⟩
   ·rw[zuo _ _ e];exact h.rw k
  bl:=h.bl
  ij:=h.ij
  cap:=h.cap
  pn:=fun k x hx=>by rw[hv];exact h.pn k x hx
  lk:=fun j km n l cur hj hn=>by
   rw[hv] at hn
   show (upd s.rows 0 _ km).c.isMpi=true
   have hj':(upd s.rows 0 ⟨(s.rows 0).ver,.sus (ts.map s.tm) (ts.map fun t=>a.tmps.getD t undef)⟩ j).c = .mi km n l cur:=hj
   by_cases e:j=0
   ·subst e;rw[zus] at hj';cases hj'
   ·rw[zuo _ _ e] at hj'
    have h5:=h.lk j km n l cur hj' hn
    have e2:km≠0:=fun e2=>by rw[e2,hdead] at h5;cases h5
    rw[zuo _ _ e2];exact h5 }
def psA:List Nat→List RV→(Nat→AV)→Nat→AV
 | t::ts,x::xs,tm=>psA ts xs (upd tm t (.r x))
 | _,_,tm=>tm
theorem look_zip {ver:Nat→Nat}{f:Nat→Value}:∀ {ts:List Nat}{avs:List AV},AV.relV w p ver avs (ts.map f)→∀ t,(look (ts.zip avs) t).rel w p ver (f t)
 | [],_,_,t=>by simp only[List.zip_nil_left];exact AV.rel_un _ _ _ _
 | _::_,[],_,t=>by simp only[List.zip_nil_right];exact AV.rel_un _ _ _ _
 | t0::ts, x::avs, h, t=>by
   simp only[List.map_cons,AV.relV] at h
   obtain⟨u,us,he,h1,h2⟩:=h
   injection he with e1 e2
   subst e1 e2
   simp only[List.zip_cons_cons]
   show ((if t=t0 then x else look (ts.zip avs) t)).rel w p ver (f t)
   split
   ·rename_i e;subst e;exact h1
   ·exact look_zip h2 t
theorem psA_rel {ver:Nat→Nat}:∀ (ts:List Nat) (es:List RV) (vs:List Value) (tm:Nat→AV) (tmps:Array Value),RV.relV w p.R es vs→(∀ t∈ts,t<tmps.size)→(∀ t,(tm t).rel w p ver (tmps.getD t undef)) →
 ((ts.zip vs).foldl (fun tmps (x:Nat × Value)=>tmps.setIfInBounds x.1 x.2) tmps).size=tmps.size∧∀ t,(psA ts es tm t).rel w p ver (((ts.zip vs).foldl (fun tmps (x:Nat × Value)=>tmps.setIfInBounds x.1 x.2) tmps).getD t undef)
 | [],_,_,tm,tmps,_,_,h=>⟨rfl,h⟩
 | t0::ts, [], vs, tm, tmps, hV, _, h=>by
   simp only[RV.relV] at hV
   subst hV
   exact⟨rfl,h⟩
 | t0::ts, x::es, vs, tm, tmps, hV, hlt, h=>by
   simp only[RV.relV] at hV
   obtain⟨u,us,rfl,h1,h2⟩:=hV
   simp only[List.zip_cons_cons,List.foldl_cons]
   have h3:=psA_rel (ver:=ver) ts es us (upd tm t0 (.r x)) (tmps.setIfInBounds t0 u) h2 (fun t ht=>by simpa using hlt t (by simp [ht])) (fun t=>by
    by_cases e:t=t0
    ·subst e
     rw[zus]
     have:t<tmps.size:=hlt t (by simp)
     have e2:(tmps.setIfInBounds t u).getD t undef=u:=by simp [Array.getD,this]
     rw[e2]
     simpa only[AV.rel] using h1
    ·rw[zuo _ _ e]
     have e2:(tmps.setIfInBounds t0 u).getD t undef=tmps.getD t undef:=by simp only[Array.getD_eq_getD_getElem?,Array.getElem?_setIfInBounds_ne (Ne.symm e)]
     rw[e2];exact h t)
   exact⟨h3.1.trans (by simp),h3.2⟩
theorem look_nil':look []=fun _=>AV.r .un:=funext fun _=>rfl
def rpost (n:Nat) (I:List (List RV)→List Value→AS→Prop) (J:Code→List Value→AS→Prop) (rest:List (List RV)) (us:List Value):Exit→AS→Prop
 | .normal,s=>∃ s4,Sub s s4∧I rest us ⟨n,look [],s4.rows⟩
 | .ret,s=>∃ s4,Sub s s4∧J .ret us ⟨n,look [],s4.rows⟩
 | .exit id,s=>∃ s4,Sub s s4∧J (.exit id) us ⟨n,look [],s4.rows⟩
 | .goto l,s=>∃ s4,Sub s s4∧J (.goto l) us ⟨n,look [],s4.rows⟩
 | _,_=>False
def XJ (C:Ctx) (aL:Act) (L:Nat) (rec:LoopState→Option Code→Loop) (I:List (List RV)→AS→Prop) (J:Code→AS→Prop) (o:Option (List (List RV))) (w:World) (Ψ Θ:Nat→Prop):Prop :=
 ∃ p s, SR C p s aL w∧s.n=aL.tmps.size∧(match o with
   | some left=>I left s∧w.heap[L]? = some (.loop (rec .ready none))
   | none=>∃ c,J c s∧w.heap[L]? = some (.loop (rec .done (some c))))∧¬ p.R L∧(∀ k,p.β k≠some L) ∧
   (∀ b,Ψ b↔p.R b∨(∃ k,p.β k=some b)∨(b<C.w0.heap.size∧¬ C.bor b∧¬ C.own b)∨b=L∨C.hd b∨∃ d∈aL.defers,d.target = .collected b)∧(∀ b,Θ b↔(∃ k,p.β k=some b)∨b=L)
theorem XJ.st (hn:∀ o w Ψ Θ,¬ C.X.X o w Ψ Θ) {aL:Act}{L:Nat}{rec:LoopState→Option Code→Loop}{I:List (List RV)→AS→Prop}{J:Code→AS→Prop}{o:Option (List (List RV))}{w w':World}{Ψ Θ:Nat→Prop}(h:XJ C aL L rec I J o w Ψ Θ)
 (hos:w'.os=w.os) (htape:w'.tape=w.tape) (hout:w'.output=w.output) (hsize:w.heap.size≤w'.heap.size) (hh:∀ b,Ψ b→w'.heap[b]? = w.heap[b]?):XJ C aL L rec I J o w' Ψ Θ:=by
 obtain⟨p,s,hS,hsn,ho,hLR,hLβ,hΨ,hΘ⟩:=h
 have hψ:=hS.ex.ψn hn
 refine⟨p,s,hS.other rfl hos htape hout hsize (fun b hb hf=>hh b ((hΨ b).2 ?_)) ?_,hsn,?_,hLR,hLβ,hΨ,hΘ⟩
 ·rcases hf with g|g|g|g
  ·exact .inl g
  ·exact .inr (.inl g)
  ·exact .inr (.inr (.inl g))
  ·exact ((hψ b).1 g).elim
 ·obtain⟨Ds,g1,g2,g3⟩:=hS.ex.df
  exact { hS.ex with
   ψl:=fun b hb=>((hψ b).1 hb).elim
   θl:=fun b hb=>((hψ b).2 hb).elim
   hd:=fun b hb=>by
    obtain⟨k1,k2,k3,k4,k5⟩:=hS.ex.hd b hb
    exact⟨k1,k2,k3,Nat.lt_of_lt_of_le k4 hsize,k5⟩
   df:=⟨Ds,g1,g2,fun D hD=>by
    obtain⟨k1,k2⟩:=g3 D hD
    refine⟨(hh D ((hΨ D).2 (.inr (.inr (.inr (.inr (.inr ⟨{ target:=.collected D,args:=#[] },?_,rfl⟩))))))).trans k1,k2⟩
    rw[g1];exact List.mem_map.2 ⟨D,hD,rfl⟩⟩ }
 ·have hL:=hh L ((hΨ L).2 (.inr (.inr (.inr (.inl rfl)))))
  cases o with
  | some left=>exact⟨ho.1,hL.trans ho.2⟩
  | none =>
    obtain⟨c,h1,h2⟩:=ho
    exact⟨c,h1,hL.trans h2⟩
theorem callee_eval (h:SR C p s a w) {f:Operand}{F:FuncId}{cs:List AV}(hF:callee? (s.ev f)=some (F,cs)):∃ vs:Array Value,a.eval f = .func (.func F) #[] vs∧AV.relV w p s.ver cs vs.toList:=by
 have hx:=h.ev f
 unfold callee? at hF
 split at hF
 ·rename_i g cs' e
  injection hF with hF
  injection hF with h1 h2
  subst h1 h2
  rw[e] at hx
  simp only[AV.rel,RV.rel] at hx
  obtain⟨vs,hv,hV⟩:=hx
  exact⟨vs,hv,AV.relV_map_r hV⟩
 ·rename_i g cs' e
  injection hF with hF
  injection hF with h1 h2
  subst h1 h2
  rw[e] at hx
  simp only[AV.rel] at hx
  exact hx
 ·cases hF
theorem SR.awake (h:SR C p s a w) {avs:List AV}{ts:List Nat}(hrow:(s.rows 0).c = .sus avs (ts.map fun t=>a.tmps.getD t undef)):SR C p ⟨s.n,look (ts.zip avs),s.rows⟩ a w :=
 { h with
   tm:=fun t=>by
    have hr:=h.rw 0
    rw[hrow] at hr
    simp only[zrl] at hr
    exact look_zip (f:=fun t=>a.tmps.getD t undef) hr.2.2 t }
theorem putObj_other {w:World}{L:Nat}{o:Obj}:∀ b,b≠L→(w.putObj L o).heap[b]? = w.heap[b]?:=fun b hb=>World.putObj_heap_other hb
theorem SR.turn (h:SR C p s a w) {L:Nat}{o:Obj}(hLR:¬ p.R L) (hLβ:∀ k,p.β k≠some L) (hL0:C.w0.heap.size≤L) (hψ:∀ b,¬ p.Ψ b∧¬ p.Θ b) (hLm:∀ d∈a.defers,d.target ≠ .collected L):SR C p s a (w.putObj L o):=by
 refine h.other rfl rfl rfl rfl (Nat.le_of_eq World.putObj_size.symm) (fun b _ hb=>putObj_other b fun e=>?_) ?_
 ·subst e
  rcases hb with g|⟨k,g⟩|g|g
  ·exact hLR g
  ·exact hLβ k g
  ·omega
  ·exact (hψ b).1 g
 ·obtain⟨Ds,g1,g2,g3⟩:=h.ex.df
  exact { h.ex with
   ψl:=fun b hb=>((hψ b).1 hb).elim
   θl:=fun b hb=>((hψ b).2 hb).elim
   hd:=fun b hb=>by rw[World.putObj_size];exact h.ex.hd b hb
   df:=⟨Ds,g1,g2,fun D hD=>by
    obtain⟨k1,k2⟩:=g3 D hD
    refine⟨(putObj_other D fun e=>hLm { target:=.collected D,args:=#[] } ?_ (by rw[e])).trans k1,k2⟩
    rw[g1];exact List.mem_map.2 ⟨D,hD,rfl⟩⟩ }
set_option maxHeartbeats 400000 in
theorem awp_rangeFunc {g:Operand}{ps:Array Tmp}{assign body:Code}{Q:Exit→AS→Prop}(hrd:C.rd=none) (hC:C.X=XS.none) {F:FuncId}{cs:List AV}{args:List RV}{xs:List (List RV)}{z:Bool}
 (hF:callee? (s.ev g)=some (F,cs)) (hcap0:∀ (p:Plan) (a:Act) (w:World),SR C p s a w→∀ vs:List Value,AV.relV w p s.ver cs vs→∃ Rx:Nat→Prop,(∀ b,Rx b→C.hd b∧z=true)∧RV.relV w (fun b=>p.R b∨Rx b) args vs) (hI:ICalls P z F args xs) (hdead:(s.rows 0).c = .dead) (ts:List Nat) (hps:∀ t∈ps.toList,t<s.n)
 (I:List (List RV)→List Value→AS→Prop) (J:Code→List Value→AS→Prop)
 (h0:∀ us,I xs us { n:=s.n,tm:=look [],rows:=upd s.rows 0 ⟨(s.rows 0).ver,.sus (ts.map s.tm) us⟩ })
 (round:∀ e rest us s',s'.n=s.n→I (e::rest) us s'→e.length=ps.size∧∃ avs,(s'.rows 0).c = .sus avs us∧∀ C,awp P C assign (fun x s2=>x = .normal∧∀ C,awp P C body (rpost s.n I J rest us) s2) ⟨s.n,psA ps.toList e (look (ts.zip avs)),s'.rows⟩)
 (done:∀ us s',s'.n=s.n→I [] us s'→∃ avs,(s'.rows 0).c = .sus avs us∧Q .normal ⟨s.n,look (ts.zip avs),s'.rows⟩)
 (stop:∀ c us s',s'.n=s.n→J c us s'→∃ avs,(s'.rows 0).c = .sus avs us∧awp P C c Q ⟨s.n,look (ts.zip avs),s'.rows⟩):awp P C (.rangeFunc g ps assign body) Q s:=by
 rintro a w ⟨p,hS⟩
 have hn:∀ o w Ψ Θ,¬ C.X.X o w Ψ Θ:=fun o w Ψ Θ h=>by rw[hC] at h;exact h
 have hF0:fnc C.rd=Fence.wide:=by rw[hrd];rfl
 rw[hF0]
 refine wpIn_rangeFunc fun fn _=>?_
 obtain⟨vsC,hgv,hcs⟩:=callee_eval hS hF
 have hψ0:=hS.ex.ψn hn
 obtain⟨rec,hrec⟩:∃ rec:LoopState→Option Code→Loop,rec=fun st pe=>{ state:=st,pending:=pe,fn,tmps:=a.tmps,params:=ps,assign,body,defers:=w.heap.size }:=⟨_,rfl⟩
 obtain⟨w1,hw1⟩:∃ w1,(w.alloc (.deferred (some []))).alloc (.loop (rec .ready none))=w1:=⟨_,rfl⟩
 obtain⟨L,hLdef⟩:∃ L,L=w.heap.size+1:=⟨_,rfl⟩
 obtain⟨aL,haL⟩:∃ aL:Act,aL={ tmps:=a.tmps,defers:={ target:=.collected w.heap.size,args:=#[] }::a.defers }:=⟨_,rfl⟩
 have hS1:SR C p s aL w1:=by rw[haL,← hw1];exact hS.enter hrd _
 have hsz1:w1.heap.size=w.heap.size+2:=by rw[← hw1];simp
 have hL1:w1.heap[L]? = some (.loop (rec .ready none)):=by
  rw[← hw1,hLdef];have:=World.alloc_heap_new (w.alloc (.deferred (some []))) (.loop (rec .ready none));rwa [World.size_alloc] at this
 have hLR:¬ p.R L:=fun h=>by have:=hS.rb L h;omega
 have hLβ:∀ k,p.β k≠some L:=fun k h=>by have:=(hS.bl k L h).1;omega
 have hL0:C.w0.heap.size≤L:=by have:=hS.base.size;omega
 have hLm:∀ d∈aL.defers,d.target ≠ .collected L:=fun d hd e=>by
  obtain⟨Ds,g1,_,g3⟩:=hS1.ex.df
  rw[g1] at hd
  obtain⟨D,hD,rfl⟩:=List.mem_map.1 hd
  injection e with e
  subst e
  have:=(g3 _ hD).1
  rw[hL1] at this;cases this
 obtain⟨us,hus⟩:∃ us,us=ts.map fun t=>aL.tmps.getD t undef:=⟨_,rfl⟩
 have hS2:=hS1.wait hdead ts
 rw[← hus,← look_nil'] at hS2
 have htmps:aL.tmps=a.tmps:=by rw[haL]
 have hsn:s.n=aL.tmps.size:=by rw[htmps];exact hS.sz.symm
 let X:XS:={ l:=L,z:=z,n0:=w1.heap.size,R:=p.R,X:=XJ C aL L rec (fun left s'=>I left us s') (fun c s'=>J c us s'),st:=XJ.st hn }
 obtain⟨Rx,hRx,hcap⟩:=hcap0 p aL w1 hS1 vsC.toList (by
  have hk:Kept w w1 p p s.ver s.ver:=⟨fun _ h=>h,fun ad hr=>World.cell?_of_block (by rw[← hw1];exact (Below.heap_alloc _ _ _ (by have:=hS.rb _ hr;simp;omega)).trans (Below.heap_alloc _ _ _ (hS.rb _ hr))),fun _=>Nat.le_refl _,fun _ _=>⟨rfl,rfl⟩⟩
  exact AV.relV_mono hk _ _ hcs)
 have hY:YOk P X:=by
  intro e rest wv Ψ Θ R vs hX hR hV
  obtain⟨pv,sv,hSv,hsnv,⟨hIv,hLv⟩,hLRv,hLβv,hΨv,hΘv⟩:=hX
  have hψv:=hSv.ex.ψn hn
  obtain⟨hlen,avs,hrow,hround⟩:=round e rest us sv (hsnv.trans hsn.symm) hIv
  have hvs:vs.size=ps.size:=by have:=RV.relV_length hV;simp only[Array.length_toList] at this;omega
  have hltv:L<wv.heap.size:=(Array.getElem?_eq_some_iff.1 hLv).1
  have hy:=run_yield (P:=P) (args:=vs) hLv (by rw[hrec];exact hvs)
  rw[hrec] at hy
  refine⟨fn,_,assign,body,hy,?_⟩
  have hRβ:∀ b,R b→b<wv.heap.size∧∀ k,pv.β k≠some b:=fun b hb=>⟨(hR b hb).1,fun k hk=>(hR b hb).2.1 ((hΘv b).2 (.inl ⟨k,hk⟩))⟩
  have hRL:¬ R L:=fun hb=>(hR L hb).2.1 ((hΘv L).2 (.inr rfl))
  have hkv:Kept wv wv pv { pv with R:=fun b=>pv.R b∨R b } sv.ver sv.ver:=⟨fun _ h=>.inl h,fun _ _=>rfl,fun _=>Nat.le_refl _,fun _ _=>⟨rfl,rfl⟩⟩
  have haw:=hSv.awake (by rw[hrow,hus])
  have hzip:(ps.zip vs).foldl (fun tmps (x:Nat × Value)=>tmps.setIfInBounds x.1 x.2) a.tmps=(ps.toList.zip vs.toList).foldl (fun tmps (x:Nat × Value)=>tmps.setIfInBounds x.1 x.2) a.tmps:=by
   rw[← Array.foldl_toList,Array.toList_zip]
  obtain⟨hpsz,hprel⟩:=psA_rel (w:=wv) (p:={ pv with R:=fun b=>pv.R b∨R b }) (ver:=sv.ver) ps.toList e vs.toList (look (ts.zip avs)) a.tmps (RV.relV_mono (fun _ h=>.inr h) (fun _ _=>rfl) _ _ hV)
   (fun t ht=>by rw[← htmps,← hsn];exact hps t ht) (fun t=>by rw[← htmps];exact AV.rel_mono hkv _ _ (haw.tm t))
  let Hd:Nat→Prop:=fun b=>b=L∨∃ d∈aL.defers,d.target = .collected b
  have hHd:∀ b,Hd b→b<wv.heap.size∧¬ C.bor b∧¬ pv.R b∧¬ R b∧∀ k,pv.β k≠some b:=fun b hb=>by
   rcases hb with rfl|⟨d,hd,hdt⟩
   ·exact⟨hltv,fun hb=>by have:=hS.ex.bo b (.inl hb);omega,hLRv,hRL,hLβv⟩
   ·obtain⟨Ds,g1,_,g3⟩:=hSv.ex.df
    rw[g1] at hd
    obtain⟨D,hD,rfl⟩:=List.mem_map.1 hd
    injection hdt with hdt
    subst hdt
    obtain⟨k1,k2,k3,k4,k5,k6⟩:=g3 D hD
    refine⟨(Array.getElem?_eq_some_iff.1 k1).1,fun hb=>by have:=hS.ex.bo D (.inl hb);omega,k3,fun hr=>?_,k4⟩
    have hD1:D<w1.heap.size:=by
     obtain⟨Ds',q1,_,q3⟩:=hS1.ex.df
     have:Ds'=Ds:=marks_inj (q1.symm.trans g1)
     subst this
     exact (Array.getElem?_eq_some_iff.1 (q3 D hD).1).1
    rcases (hR D hr).2.2 with q|q
    ·obtain⟨Ds',q1,_,q3⟩:=hS1.ex.df
     have:Ds'=Ds:=marks_inj (q1.symm.trans g1)
     subst this
     exact (q3 D hD).2.2.1 q
    ·have q':w1.heap.size≤D:=q
     omega
  have hSa:=hSv.into (L:=L) (w2:=wv) (R:=R) (rd:=some L) (Hd:=Hd) (a':={ tmps:=(ps.zip vs).foldl (fun tmps (x:Nat × Value)=>tmps.setIfInBounds x.1 x.2) a.tmps,defers:=[] }) (tm':=psA ps.toList e (look (ts.zip avs)))
   hn rfl rfl rfl rfl (fun _ _=>rfl) hLRv hLβv hRβ (fun t=>by rw[hzip];exact hprel t) (by rw[hzip,hpsz,← htmps];exact hsnv.symm) rfl hHd hC
  have hna:=hsnv.trans hsn.symm
  refine roundIn_of_wpIn trivial ?_
  have hassign:=hround (Cin C pv R wv (some L) Hd) _ _ ⟨_,hna▸hSa⟩
  refine wpIn_mono hassign ?_
  rintro x a1 wa ⟨s1,⟨p1,hS1a⟩,rfl,hbody⟩
  have hLa:wa.heap[L]? = some (.loop (rec .ready none)):=(hS1a.base.block L hltv (fun ⟨hb,_⟩=>(hHd L (.inl rfl)).2.1 hb) (fun ⟨k,hk,_⟩=>hLβv k hk)).trans hLv
  have hlta:L<wa.heap.size:=(Array.getElem?_eq_some_iff.1 hLa).1
  refine⟨_,run_beginRound hLa (by rw[hrec]),?_⟩
  have hop1:=Hop.of (L:=L) (w:=wv) (w2:=wv) rfl rfl rfl rfl (fun _ _=>rfl) hS1a
  have hHd1:∀ b,Hd b→b<wa.heap.size∧¬ (Cin C pv R wv (some L) Hd).bor b∧¬ p1.R b∧¬ False∧∀ k,p1.β k≠some b:=fun b hb=>by
   obtain⟨_,q2,_,q4,q5,_,_,q8⟩:=hS1a.ex.hd b hb
   exact⟨q4,q2,q5,fun h=>h,q8⟩
  have hS1b:=hS1a.into (L:=L) (w2:=wa.putObj L (.loop { rec .ready none with state:=.busy })) (R:=fun _=>False) (rd:=some L) (Hd:=Hd) (a':=a1) (tm':=s1.tm) hn rfl rfl rfl World.putObj_size putObj_other
   (hHd1 L (.inl rfl)).2.2.1 (hHd1 L (.inl rfl)).2.2.2.2 (fun _ h=>h.elim) (fun t=>by
    have hk1:Kept wa (wa.putObj L (.loop { rec .ready none with state:=.busy })) p1 { p1 with R:=fun b=>p1.R b∨False } s1.ver s1.ver :=
     ⟨fun _ h=>.inl h,fun ad hr=>World.cell?_of_block (putObj_other _ fun e=>(hHd1 L (.inl rfl)).2.2.1 (e▸hr)),fun _=>Nat.le_refl _,fun _ _=>⟨rfl,rfl⟩⟩
    exact AV.rel_mono hk1 _ _ (hS1a.tm t)) hS1a.sz (hS1a.ex.rm rfl) hHd1 hC
  refine wpIn_mono (hbody _ _ _ ⟨_,hS1b⟩) ?_
  have hLb:(wa.putObj L (.loop { rec .ready none with state:=.busy })).heap[L]? = some (.loop { rec .ready none with state:=.busy }):=World.putObj_heap_same hlta
  have hRo:∀ b,R b→b<wv.heap.size∧(∀ d∈aL.defers,d.target ≠ .collected b)∧¬ C.hd b∧(C.R0 b∨C.w0.heap.size≤b∨C.own b):=fun b hb=>by
   have hsz0:=hS.base.size
   refine⟨(hR b hb).1,fun d hd hdt=>(hHd b (.inr ⟨d,hd,hdt⟩)).2.2.2.1 hb,fun hh=>?_,?_⟩
   ·obtain⟨q1,_,_,_,q5,_⟩:=hS.ex.hd b hh
    rcases (hR b hb).2.2 with q|q
    ·exact q5 q
    ·have q':w1.heap.size≤b:=q;omega
   ·rcases (hR b hb).2.2 with q|q
    ·exact hS.rn b q
    ·have q':w1.heap.size≤b:=q;exact .inr (.inl (by omega))
  have fin:∀ (jump:Option Code) (s3:AS) (p3:Plan) (a3:Act) (w3:World),SR (Cin (Cin C pv R wv (some L) Hd) p1 (fun _=>False) (wa.putObj L (.loop { rec .ready none with state:=.busy })) (some L) Hd) p3 s3 a3 w3 →
   (match jump with|none=>∃ s4,Sub s3 s4∧I rest us ⟨s.n,look [],s4.rows⟩|some c=>∃ s4,Sub s3 s4∧J c us ⟨s.n,look [],s4.rows⟩) →
   ∃ v w', (Instr.endRound L jump).run P w3 = .ok v w'∧(w'.os=wv.os∧w'.tape=wv.tape∧w'.output=wv.output∧wv.heap.size≤w'.heap.size∧(∀ b, b<wv.heap.size→¬ Θ b→w'.heap[b]? = wv.heap[b]?) ∧
     ∃ Ψ' Θ':Nat→Prop,(∀ b,Ψ' b→Ψ b∨R b∨wv.heap.size≤b)∧(∀ b,Θ' b→Θ b∨wv.heap.size≤b)∧(∀ b,Ψ' b→b<w'.heap.size)∧(∀ b,Θ' b→b<w'.heap.size) ∧
     ((Ending.returned v = .returned (.bool true)∧X.X (some rest) w' Ψ' Θ')∨(Ending.returned v = .returned (.bool false)∧X.X Option.none w' Ψ' Θ'))):=by
   intro jump s30 p30 a3 w3 h30 hj0
   obtain⟨s3,hsub,hj⟩:∃ s4,Sub s30 s4∧(match jump with|none=>I rest us ⟨s.n,look [],s4.rows⟩|some c=>J c us ⟨s.n,look [],s4.rows⟩):=by
    cases jump with
    | none=>exact hj0
    | some c=>exact hj0
   obtain⟨p3,h3⟩:=hsub _ _ _ ⟨p30,h30⟩
   have hL3:w3.heap[L]? = some (.loop { rec .ready none with state:=.busy }):=by
    refine (h3.base.block L (by show L<(wa.putObj L _).heap.size;rw[World.putObj_size];exact hlta) (fun ⟨hb,_⟩=>(hHd1 L (.inl rfl)).2.1 hb) (fun ⟨k,hk,_⟩=>(hHd1 L (.inl rfl)).2.2.2.2 k hk)).trans hLb
   obtain⟨_,_,_,_,e5,_,_,e8⟩:=h3.ex.hd L (.inl rfl)
   have hend:=run_endRound (P:=P) jump hL3
   have hlt3:L<w3.heap.size:=(Array.getElem?_eq_some_iff.1 hL3).1
   have hop2:=Hop.of (C:=Cin C pv R wv (some L) Hd) (p:=p1) (L:=L) (w:=wa) (w2:=wa.putObj L (.loop { rec .ready none with state:=.busy })) (R:=fun _=>False) rfl rfl rfl World.putObj_size putObj_other h3
   obtain⟨o4,ho4⟩:∃ o4,o4=Obj.loop { { rec .ready none with state:=.busy } with state:=if jump.isNone then .ready else .done,pending:=jump }:=⟨_,rfl⟩
   rw[← ho4] at hend
   have hop:=(Hop.trans (C':=Cin C pv R wv (some L) Hd) hop1 (fun _=>Iff.rfl) hop2).put (o:=o4)
   have hL4:(w3.putObj L o4).heap[L]? = some (.loop (rec (if jump.isNone then .ready else .done) jump)):=by
    rw[World.putObj_heap_same hlt3,ho4,hrec]
   have hS4:SR C p3 ⟨s.n,look [],s3.rows⟩ aL (w3.putObj L o4):=by
    have:=hSv.land (C':=Cin (Cin C pv R wv (some L) Hd) p1 (fun _=>False) (wa.putObj L (.loop { rec .ready none with state:=.busy })) (some L) Hd) hn hL0 hLm hop hRo rfl rfl h3 e5 e8 rfl rfl rfl World.putObj_size putObj_other
    rw[hna,← look_nil'] at this
    exact this
   have hψ4:=hS4.ex.ψn hn
   refine⟨_,_,hend,hop.os,hop.tape,hop.output,hop.size,fun b hb hθ=>hop.heap b hb (fun k hk=>hθ ((hΘv b).2 (.inl ⟨k,hk⟩))) (fun e=>hθ ((hΘv b).2 (.inr e))),
    fun b=>p3.R b∨(∃ k,p3.β k=some b)∨(b<C.w0.heap.size∧¬ C.bor b∧¬ C.own b)∨b=L∨C.hd b∨∃ d∈aL.defers,d.target = .collected b,fun b=>(∃ k,p3.β k=some b)∨b=L,fun b hb=>?_,fun b hb=>?_,fun b hb=>?_,fun b hb=>?_,?_⟩
   ·rcases hb with g|⟨k,g⟩|g|g|g|g
    ·rcases hop.rn b g with q|q|q|⟨k,q,_⟩
     ·exact .inl ((hΨv b).2 (.inl q))
     ·exact .inr (.inl q)
     ·exact .inr (.inr q)
     ·exact .inl ((hΨv b).2 (.inr (.inl ⟨k,q⟩)))
    ·rcases hop.bl k b g with q|⟨_,_,k',_,q⟩|⟨k',q,_⟩
     ·exact .inr (.inr q)
     ·exact .inl ((hΨv b).2 (.inr (.inl ⟨k',q⟩)))
     ·exact .inl ((hΨv b).2 (.inr (.inl ⟨k',q⟩)))
    ·exact .inl ((hΨv b).2 (.inr (.inr (.inl g))))
    ·exact .inl ((hΨv b).2 (.inr (.inr (.inr (.inl g)))))
    ·exact .inl ((hΨv b).2 (.inr (.inr (.inr (.inr (.inl g))))))
    ·exact .inl ((hΨv b).2 (.inr (.inr (.inr (.inr (.inr g))))))
   ·rcases hb with⟨k,g⟩|g
    ·rcases hop.bl k b g with q|⟨_,_,k',_,q⟩|⟨k',q,_⟩
     ·exact .inr q
     ·exact .inl ((hΘv b).2 (.inl ⟨k',q⟩))
     ·exact .inl ((hΘv b).2 (.inl ⟨k',q⟩))
    ·exact .inl ((hΘv b).2 (.inr g))
   ·have hsz4:=hS4.base.size
    rcases hb with g|⟨k,g⟩|g|rfl|g|⟨d,hd,hdt⟩
    ·exact hS4.rb b g
    ·exact (hS4.bl k b g).1
    ·omega
    ·rw[World.putObj_size];exact hlt3
    ·exact (hS4.ex.hd b g).2.2.2.1
    ·exact Nat.lt_of_lt_of_le (hHd b (.inr ⟨d,hd,hdt⟩)).1 hop.size
   ·rcases hb with⟨k,g⟩|rfl
    ·exact (hS4.bl k b g).1
    ·rw[World.putObj_size];exact hlt3
   ·cases jump with
    | none=>exact .inl ⟨rfl,p3,_,hS4,hsn,⟨hj,hL4⟩,e5,e8,fun _=>Iff.rfl,fun _=>Iff.rfl⟩
    | some c=>exact .inr ⟨rfl,p3,_,hS4,hsn,⟨c,hj,hL4⟩,e5,e8,fun _=>Iff.rfl,fun _=>Iff.rfl⟩
  rintro en a3 w3 ⟨s3,⟨p3,h3⟩,hq⟩
  cases en with
  | normal=>exact fin none s3 p3 a3 w3 h3 hq
  | ret=>exact fin (some .ret) s3 p3 a3 w3 h3 hq
  | exit id=>exact fin (some (.exit id)) s3 p3 a3 w3 h3 hq
  | goto l=>exact fin (some (.goto l)) s3 p3 a3 w3 h3 hq
  | panic ch=>exact hq.elim
  | outgrown=>exact hq.elim
 have hX0:X.X (some xs) w1 (fun b=>p.R b∨(∃ k,p.β k=some b)∨(b<C.w0.heap.size∧¬ C.bor b∧¬ C.own b)∨b=L∨C.hd b∨∃ d∈aL.defers,d.target = .collected b) (fun b=>(∃ k,p.β k=some b)∨b=L) :=
  ⟨p,_,hS2,hsn,⟨h0 us,hL1⟩,hLR,hLβ,fun _=>Iff.rfl,fun _=>Iff.rfl⟩
 have hlt1:L<w1.heap.size:=(Array.getElem?_eq_some_iff.1 hL1).1
 have hcall:=hI.2 w1 (fun b=>p.R b∨Rx b) vsC X _ _ (fun b hb=>hb.elim (hS1.rb b) fun h=>(hS1.ex.hd b (hRx b h).1).2.2.2.1) hcap rfl (fun hz b hb=>hb.elim id fun h=>by have:=(hRx b h).2;rw[hz] at this;cases this) (Nat.le_refl _) hY (fun b hb=>by
  have hszw:=hS1.base.size
  rcases hb with g|⟨k,g⟩|g|rfl|g|⟨d,hd,hdt⟩
  ·exact hS1.rb b g
  ·exact (hS1.bl k b g).1
  ·omega
  ·exact hlt1
  ·exact (hS1.ex.hd b g).2.2.2.1
  ·obtain⟨Ds,g1,_,g3⟩:=hS1.ex.df
   rw[g1] at hd
   obtain⟨D,hD,rfl⟩:=List.mem_map.1 hd
   injection hdt with hdt
   subst hdt
   exact (Array.getElem?_eq_some_iff.1 (g3 D hD).1).1) (fun b hb=>by
  rcases hb with⟨k,g⟩|rfl
  ·exact (hS1.bl k b g).1
  ·exact hlt1) (fun b hb hθ=>by
  rcases hb with hb|hb
  ·rcases hθ with⟨k,g⟩|rfl
   ·exact (hS1.bl k b g).2.1 hb
   ·exact hLR hb
  ·obtain⟨_,_,_,g4,_,_,_,g8⟩:=hS.ex.hd b (hRx b hb).1
   rcases hθ with⟨k,g⟩|g
   ·exact g8 k g
   ·omega) hX0
 have e1:(Instr.enterLoop fn a.tmps ps assign body none).run P w = .ok (L,[{ target:=.collected w.heap.size,args:=#[] }]) w1:=by
  rw[run_enterLoop_outer,← hw1,hrec,hLdef]
 have e2:(resolve a.eval (rangeCall g L) 0).run P w1 = .ok { target:=.fn (.func F) vsC,args:=#[.func (.yield L) #[] #[]] } w1:=by
  simp only[resolve,hgv,Sem.run_bind,Deferred.ofValue,Sem.run_pure,Result.andThen_ok]
  simp [Act.eval]
 have e3:(invoke (.fn (.func F) vsC) #[.func (.yield L) #[] #[]]).run P w1 = .ok (.enter F (#[.func (.yield L) #[] #[]]++vsC)) w1:=by
  simp only[invoke];exact run_callFunc hI.1 _ _
 have e4:Fence.wide.depth.isSome=true→1≤0:=fun h=>by simp [Fence.wide] at h
 refine⟨L,_,w1,_,w1,F,_,w1,e1,e2,?_,e3,e4,?_⟩
 ·intro f' _;exact trivial
 ·refine callsIn_wide.2 (hcall.mono ?_)
  have haL':({ a with defers:=[{ target:=.collected w.heap.size,args:=#[] }]++a.defers }:Act)=aL:=by rw[haL];rfl
  rintro e w' ⟨⟨v,rfl⟩,Ψ',Θ',hX|hX⟩
  ·obtain⟨p',s',hS',hsn',⟨hI',hL'⟩,hLR',hLβ',_⟩:=hX
   have hend:=run_endLoop (P:=P) hL' (by rw[hrec];simp)
   have hp:(rec .ready none).pending=none:=by rw[hrec]
   rw[hp] at hend
   refine⟨none,_,hend,?_⟩
   obtain⟨avs,hrow,hQ⟩:=done us s' (hsn'.trans hsn.symm) hI'
   have hS4:∀ o,SR C p' ⟨s.n,look (ts.zip avs),s'.rows⟩ aL (w'.putObj L o):=fun o=>by
    have:=(hS'.turn (o:=o) hLR' hLβ' hL0 (hS'.ex.ψn hn) hLm).awake (by rw[hrow,hus])
    rw[hsn'.trans hsn.symm] at this
    exact this
   rw[haL']
   exact⟨_,⟨_,hS4 _⟩,hQ⟩
  ·obtain⟨p',s',hS',hsn',⟨c,hJ',hL'⟩,hLR',hLβ',_⟩:=hX
   have hend:=run_endLoop (P:=P) hL' (by rw[hrec];simp)
   have hp:(rec .done (some c)).pending=some c:=by rw[hrec]
   rw[hp] at hend
   refine⟨some c,_,hend,?_⟩
   obtain⟨avs,hrow,hQ⟩:=stop c us s' (hsn'.trans hsn.symm) hJ'
   have hS4:∀ o,SR C p' ⟨s.n,look (ts.zip avs),s'.rows⟩ aL (w'.putObj L o):=fun o=>by
    have:=(hS'.turn (o:=o) hLR' hLβ' hL0 (hS'.ex.ψn hn) hLm).awake (by rw[hrow,hus])
    rw[hsn'.trans hsn.symm] at this
    exact this
   have hQ':=fun o=>hQ _ _ ⟨_,hS4 o⟩
   rw[hF0] at hQ'
   rw[haL']
   exact hQ' _
end
end Go.Oc

namespace Go.Oc
open Go Go.RowKit
theorem zI {n:Int}(h1 : -9223372036854775808≤n) (h2:n≤9223372036854775807):IntKind.i64.wrap n=n:=by
 unfold IntKind.wrap
 simp only[IntKind.bits,IntKind.signed,Bool.true_and]
 split<;>rename_i h<;>simp only[ge_iff_le,decide_eq_true_eq] at h<;>omega
theorem getD_map_opt {α:Type}{f:α→List RV}{l:List α}{i:Nat}:(l.map f).getD i []=match l[i]? with|some x=>f x|none=>[]:=by
 rw[List.getD_eq_getElem?_getD,List.getElem?_map]
 cases l[i]? <;> rfl
abbrev i64 (n:Int):RV:=.it .i64 n
abbrev ints (l:List Int):RV:=.sl 1 (l.map fun x=>[.it .i64 x])
theorem zmo {α:Type}{l:List α}{i:Nat}{x:α}(h:l[i]? = some x):x∈l:=List.mem_of_getElem? h
theorem drop_of_opt {α:Type}{l:List α}{i:Nat}{x:α}(h:l[i]? = some x):l.drop i=x::l.drop (i+1):=by
 obtain⟨hi,rfl⟩:=List.getElem?_eq_some_iff.1 h
 exact List.drop_eq_getElem_cons hi
theorem zto {α:Type}{l:List α}{i:Nat}{x:α}(h:l[i]? = some x):l.take (i+1)=l.take i++[x]:=by
 obtain⟨hi,rfl⟩:=List.getElem?_eq_some_iff.1 h
 exact List.take_succ_eq_append_getElem hi
theorem zol {α:Type}{l:List α}{i:Nat}(h:i<l.length):∃ x,l[i]? = some x:=⟨l[i],List.getElem?_eq_getElem h⟩
theorem snapVL_ro {rows:Nat→Row}:∀ l:List RV,snapVL rows (l.map .r)=l
 | []=>by simp only[List.map_nil,snapVL]
 | x::l=>by simp only[List.map_cons,snapVL,snapV,snapVL_ro l]
theorem snapPL_ro {rows:Nat→Row}:∀ l:List RV,snapPL rows (l.map .r)↔True
 | []=>by simp only[List.map_nil,snapPL]
 | x::l=>by simp only[List.map_cons,snapPL,snapP,snapPL_ro l,true_and]
theorem take_map_len {α β:Type}{f:α→β}{l:List α}:(l.map f).take l.length=l.map f:=List.take_of_length_le (by simp)
theorem toNat_add1 {n:Nat}:((n:Int)+1).toNat=n+1:=rfl
def indexF {α:Type}(p:α→Bool):List α→Int
 | []=>-1
 | x::l=>if p x then 0 else if indexF p l<0 then -1 else indexF p l+1
theorem indexF_any {α:Type}(p:α→Bool):∀ l:List α,decide (indexF p l ≥ 0)=l.any p
 | []=>rfl
 | x::l=>by
   have ih:=indexF_any p l
   unfold indexF
   cases h:p x
   ·simp only[Bool.false_eq_true,if_false,List.any_cons,h,Bool.false_or,← ih]
    split
    ·rename_i h1
     have:¬ indexF p l ≥ 0:=by omega
     simp [this]
    ·rename_i h1
     have:indexF p l ≥ 0:=by omega
     have h2:indexF p l+1 ≥ 0:=by omega
     simp only[this,h2]
   ·simp [h]
theorem indexF_ge {α:Type}(p:α→Bool):∀ l:List α,-1≤indexF p l
 | []=>by simp [indexF]
 | x::l=>by
   have:=indexF_ge p l
   unfold indexF
   split
   ·omega
   ·split<;>omega
open Go
attribute [go_sem] reduceIte reduceCtorEq Nat.reduceEqDiff Nat.reduceAdd Nat.reduceSub Nat.reduceMul Nat.reduceLeDiff Nat.reduceLT Int.reduceToNat Int.reduceLE Int.reduceLT Int.reduceMul Int.reduceAdd Int.reduceSub Int.reduceNeg Int.reduceEq Int.reduceNe
attribute [go_sem] aops_nil aops_cons aops_guard gslot_zero gslot_succ gA_some gB_tt gB_ff gB_tf gB_ft gB_ud gB_bo aop_move aop_assign aop_pick aop_bin aop_un aop_conv aop_load aop_store aop_box aop_alloc aop_fieldAddr aop_field aop_indexAddr aop_index aop_slice aop_build aop_buildSlice aop_makeSlice aop_makeFunc aop_extract aop_nil aop_len aop_min aop_max aop_append aop_cap aop_clear sAppendZ sCap sClear sSlice3 lenA rowLen aop_call aop_next aop_makeMap aop_lookup aop_mapUpdate aop_mapEntry aop_entryStore sMapEntry sEntryStore bornAt aop_range aop_entry sNext sMakeMap sLookup sMapUpdate sRange sEntry mapOf valR agR sEq cmpL cmpB sameK findK keyOk allIt List.length_cons List.length_nil row_st verf_st lendA lendL lendC lendOk zLk backA backL backC backCs pinOf aR_when aR_val aR_bad aR_mk aF_false aF_true evs evp upd_app put_st put_none app_val app_st evt_st tm_st rows_st ver_st n_st ins insc delc look_nil look_cons lookc_nil zlc keepL killV killC argL allEq cond_true cond_false ev_const ev_func sPick pickA sBin sUn sConv sLoad sStore sBox sAlloc sField sFieldV sPart sIndex sIndexV sSlice sSliceA chunk bound sBuild lay sBuildSlice layE sMakeSlice news? sAppend sLen minA minF maxA maxF sMinMax sExtract sNil RV.flat1 AV.cells? roL cutR cutA need RV.ofV RV.ofV1
attribute [go_sem] opostL_normal opostL_ret resA_tmp resA_cell mpostL_normal mpostL_ret resM_nil resM_tmp resM_cell mfin fnOk frzC frzPC frzL frzPL frz1 frzP1 keyIn okC argA resC_when resC_val resOk_nil resOk_tmp resOk_cell fpostL_normal fpostL_ret andThen_normal andThen_ret andThen_exit inBlk_normal inBlk_ret inBlk_exit le_bo le_it le_ns le_sls le_ag leL_nil leL_cons le_nsns le_np snapV snapVL snapP snapPL snap1V snap1P snap1PL
attribute [go_sem] Bool.false_eq_true Bool.not_false Bool.not_true Bool.true_eq_false Int.le_refl List.append_nil List.cons_append List.drop_succ_cons List.drop_zero List.getElem?_cons_succ List.getElem?_cons_zero List.headD_cons List.length_cons List.length_nil List.map_cons List.map_nil List.nil_append List.replicate_succ List.replicate_zero List.set_cons_succ List.set_cons_zero List.take_succ_cons List.take_zero Nat.add_zero Nat.le_refl Nat.zero_add Nat.zero_le Option.bind_some Option.getD_none Option.getD_some Option.isSome_some Option.map_none Option.map_some Option.some.injEq and_false and_true decide_false decide_true eq_self false_and false_imp_iff forall_const ite_false ite_true true_and true_imp_iff
attribute [go_sem] not_false_eq_true not_true_eq_false toNat_add1 Nat.sub_zero beq_iff_eq beq_eq_false_iff_ne List.length_drop List.length_take upd_self List.drop_replicate Nat.add_sub_cancel_left take_map_len List.getD_cons_zero List.getD_cons_succ true_or or_true false_or or_false List.length_replicate Int.sub_zero Int.add_zero Int.zero_add getD_map_opt snapVL_ro snapPL_ro Int.ofNat_lt Int.ofNat_le Int.toNat_natCast Int.natCast_nonneg Int.natCast_add Int.cast_ofNat_Int Int.natCast_zero Int.natCast_one List.length_map List.mem_cons ge_iff_le gt_iff_lt decide_eq_true_eq decide_eq_false_iff_not AV.r.injEq RV.it.injEq RV.bo.injEq RV.sl.injEq
open Go Go.RowKit
def psL:List Nat→List RV→List (Nat × AV)→List (Nat × AV)
 | t::ts,x::xs,l=>psL ts xs ((t,.r x)::l)
 | _,_,l=>l
theorem psL_nil {l:List (Nat × AV)}:psL [] [] l=l:=rfl
theorem psL_cons {t:Nat}{ts:List Nat}{x:RV}{xs:List RV}{l:List (Nat × AV)}:psL (t::ts) (x::xs) l=psL ts xs ((t,.r x)::l):=rfl
theorem psA_look:∀ (ts:List Nat) (xs:List RV) (l:List (Nat × AV)),psA ts xs (look l)=look (psL ts xs l)
 | [],_,_=>rfl
 | _::_,[],_=>rfl
 | t::ts, x::xs, l=>by
   simp only[psA,psL];rw[← psA_look ts xs]
   rfl
def rfpost (n:Nat) (ts:List Nat) (Q:Exit→AS→Prop) (N:AS→Prop) (us:List Value):Exit→AS→Prop
 | .normal,s=>N s
 | .ret,s=>∃ avs,(s.rows 0).c = .sus avs us∧Q .ret ⟨n,look (ts.zip avs),s.rows⟩
 | .exit id,s=>∃ avs,(s.rows 0).c = .sus avs us∧Q (.exit id) ⟨n,look (ts.zip avs),s.rows⟩
 | _,_=>False
section
variable {n:Nat}{ts:List Nat}{Q:Exit→AS→Prop}{N:AS→Prop}{us:List Value}{l:List (Nat × AV)}{vs:Nat→Nat}{cs:List (Nat × RowC)}
theorem rfpost_normal {s:AS}:rfpost n ts Q N us .normal s=N s:=rfl
theorem rf_ret {avs:List AV}(h:lookc cs 0 = .sus avs us) (hq:Q .ret (st n (ts.zip avs) vs cs)):rfpost n ts Q N us .ret (st n l vs cs):=⟨avs,h,hq⟩
end
theorem sub_wake {n:Nat}{l:List (Nat × AV)}{vs:Nat→Nat}{cs:List (Nat × RowC)}{avs:List AV}{us:List Value}(h:lookc cs 0 = .dead):Sub (st n l vs ((0,.sus avs us)::cs)) (st n l vs cs):=fun C a w ⟨p,hp⟩=>by
 refine⟨p,{ hp with rw:=fun k=>?_,lk:=fun j km m l' cur hj hn=>?_ }⟩
 ·have hr:=hp.rw k
  show zrl w p vs k (lookc cs k)
  have hr':zrl w p vs k (lookc ((0,.sus avs us)::cs) k):=hr
  rw[zlc] at hr'
  split at hr'
  ·rename_i e
   subst e
   rw[h]
   simp only[zrl] at hr' ⊢
   exact⟨hr'.1,hr'.2.1⟩
  ·exact hr'
 ·have hj':lookc cs j = .mi km m l' cur:=hj
  have e1:j≠0:=fun e=>by subst e;rw[h] at hj';cases hj'
  have h1:=hp.lk j km m l' cur (by show lookc ((0,.sus avs us)::cs) j=_;rw[zlc,if_neg e1];exact hj') hn
  show (lookc cs km).isMpi=true
  have h2:(lookc ((0,.sus avs us)::cs) km).isMpi=true:=h1
  rw[zlc] at h2
  split at h2
  ·cases h2
  ·exact h2
theorem upd_rows_st {n:Nat}{l:List (Nat × AV)}{vs:Nat→Nat}{cs:List (Nat × RowC)}{k:Nat}{c:RowC}:(⟨n,look [],upd (st n l vs cs).rows k ⟨((st n l vs cs).rows k).ver,c⟩⟩:AS)=st n [] vs ((k,c)::cs):=by
 simp only[st,AS.mk.injEq,true_and]
 funext j
 rw[zlc]
 unfold upd
 split
 ·rename_i e;subst e;rfl
 ·rfl
theorem zip_keys:∀ l:List (Nat × AV),(l.map (·.1)).zip (l.map (·.2))=l
 | []=>rfl
 | _::l=>by simp only[List.map_cons,List.zip_cons_cons,zip_keys l]
attribute [go_sem] psL_nil psL_cons rfpost_normal List.zip_cons_cons List.zip_nil_right
theorem look_keys:∀ l:List (Nat × AV),(l.map (·.1)).Nodup→l.map (·.2)=(l.map (·.1)).map (look l)
 | [],_=>rfl
 | (k, v)::l, h=>by
   simp only[List.map_cons,List.nodup_cons] at h ⊢
   have h1:look ((k,v)::l) k=v:=by rw[look_cons,if_pos rfl]
   rw[h1,look_keys l h.2]
   congr 1
   refine List.map_congr_left fun j hj=>?_
   have hne:j≠k:=fun e=>h.1 (e▸hj)
   rw[look_cons,if_neg hne]
theorem awp_rangeF {P:Program}{C:Ctx}{n:Nat}{s:AS}{t:Nat}{ps:Array Tmp}{assign body:Code}{Q:Exit→AS→Prop}(hC:C.rd=none∧C.X=XS.none) {f:FuncId}{caps:List RV}{z:Bool}(xs:List (List RV)) (hI:ICalls P z f caps xs)
 (ts:List Nat) (hnd:ts.Nodup) (F:(Nat→Nat)→List (Nat × AV)) (R:Nat→(Nat→Nat)→List (Nat × RowC)) (I:Nat→Prop) (h0:FitV n F (R 0) s) (hi0:I 0)
 (hts:∀ vs,(F vs).map (·.1)=ts) (hg:∀ vs,look (F vs) t = .r (.fn f caps)) (hd:∀ i vs,lookc (R i vs) 0 = .dead) (hps:∀ t∈ps.toList,t<n) (hlen:∀ e∈xs,e.length=ps.size)
 (round:∀ i e vs us C,xs[i]? = some e→I i→awp P C assign (fun x s2=>x = .normal∧∀ C,awp P C body (rfpost n ts Q (fun s3=>I (i+1)∧∃ vs',Sub s3 (st n [] vs' ((0,.sus ((F vs').map (·.2)) us)::R (i+1) vs'))) us) s2)
  (st n (psL ps.toList e (F vs)) vs ((0,.sus ((F vs).map (·.2)) us)::R i vs)))
 (done:∀ vs us,I xs.length→Q .normal (st n (F vs) vs ((0,.sus ((F vs).map (·.2)) us)::R xs.length vs))):awp P C (.rangeFunc (.tmp t) ps assign body) Q s:=by
 obtain⟨vs0,h0⟩:=h0
 refine zw h0 ?_
 have hdrop:∀ i e rest,xs.drop i=e::rest→xs[i]? = some e∧xs.drop (i+1)=rest:=fun i e rest h=>by
  refine⟨?_,by rw[← List.drop_drop,h];rfl⟩
  have:(xs.drop i)[0]? = some e:=by rw[h];rfl
  simpa using this
 have hz:∀ vs,ts.zip ((F vs).map (·.2))=F vs:=fun vs=>by rw[← hts vs];exact zip_keys _
 refine awp_rangeFunc hC.1 hC.2 (F:=f) (cs:=caps.map .r) (args:=caps) (xs:=xs) (z:=z) (by
  show callee? (look (F vs0) t)=_
  rw[hg];rfl) (fun p a w _ us hV=>⟨fun _=>False,fun _ h=>h.elim,by
  have hp:AV.pureL (caps.map .r)=true:=by clear hI hg hV;induction caps with|nil=>rfl|cons c cs ih=>simpa [AV.pureL,AV.pure] using ih
  have h1:=pure_relV (rows:=fun _=>⟨0,.dead⟩) _ _ hp hV
  rw[snapVL_ro] at h1
  exact RV.relV_mono (fun _ h=>.inl h) (fun _ _=>rfl) _ _ h1⟩) hI (hd 0 vs0) ts hps
  (fun left us s'=>∃ i vs,left=xs.drop i∧i≤xs.length∧I i∧s'=st n [] vs ((0,.sus ((F vs).map (·.2)) us)::R i vs))
  (fun c us s'=>∃ avs,(s'.rows 0).c = .sus avs us∧((c = .ret∧Q .ret ⟨n,look (ts.zip avs),s'.rows⟩)∨∃ id,c = .exit id∧Q (.exit id) ⟨n,look (ts.zip avs),s'.rows⟩))
  (fun us=>⟨0,vs0,rfl,Nat.zero_le _,hi0,?_⟩) ?_ ?_ ?_
 ·refine (upd_rows_st (c:=.sus (ts.map (st n (F vs0) vs0 (R 0 vs0)).tm) us)).trans ?_
  congr 3
  have hk:(F vs0).map (·.2)=ts.map (look (F vs0)):=by
   have:=look_keys (F vs0) (by rw[hts vs0];exact hnd)
   rw[hts vs0] at this
   exact this
  rw[hk];rfl
 ·rintro e rest us s' _ ⟨i,vs,hl,hle,hI',rfl⟩
  obtain⟨h1,h2⟩:=hdrop i e rest hl.symm
  refine⟨hlen e (List.mem_of_getElem? h1),(F vs).map (·.2),rfl,fun C'=>?_⟩
  have hr:=round i e vs us C' h1 hI'
  rw[hz,psA_look]
  refine awp_mono ?_ hr
  rintro x s2 ⟨hx,hbody⟩
  refine⟨hx,fun C''=>awp_mono ?_ (hbody C'')⟩
  intro x s3 hq
  cases x with
  | normal =>
    obtain⟨hI3,vs',hsub⟩:=hq
    refine⟨_,hsub,i+1,vs',h2.symm,?_,hI3,rfl⟩
    have:=(List.getElem?_eq_some_iff.1 h1).1
    omega
  | ret =>
    obtain⟨avs,h3,h4⟩:=hq
    exact⟨s3,Sub.refl _,avs,h3,.inl ⟨rfl,h4⟩⟩
  | exit id =>
    obtain⟨avs,h3,h4⟩:=hq
    exact⟨s3,Sub.refl _,avs,h3,.inr ⟨id,rfl,h4⟩⟩
  | goto l=>exact hq.elim
  | panic c=>exact hq.elim
  | outgrown=>exact hq.elim
 ·rintro us s' _ ⟨i,vs,hl,hle,hI',rfl⟩
  have hi:i=xs.length:=by
   have:(xs.drop i).length=0:=by rw[← hl];rfl
   rw[List.length_drop] at this;omega
  subst hi
  refine⟨(F vs).map (·.2),rfl,?_⟩
  have:=done vs us hI'
  rw[hz]
  exact this
 ·rintro c us s' _ ⟨avs,h3,h4⟩
  refine⟨avs,h3,?_⟩
  rcases h4 with⟨rfl,h4⟩|⟨id,rfl,h4⟩
  ·exact ze h4
  ·exact zf h4
theorem zuv {P:Program}{C:Ctx}{c:Code}{n:Nat}{Q:Exit→AS→Prop}{s:AS}(N:Nat) (F:Nat→(Nat→Nat)→List (Nat × AV)) (R:Nat→(Nat→Nat)→List (Nat × RowC)) (I:Nat→Prop) (i0:Nat)
 (h0:FitV n (F i0) (R i0) s) (hi:i0≤N) (hI:I i0)
 (round:∀ i vs,i≤N→I i→awp P C c (andThen (fun s'=>i<N∧I (i+1)∧FitV n (F (i+1)) (R (i+1)) s') Q) (st n (F i vs) vs (R i vs))):awp P C (.loop c) Q s:=by
 refine awp_whileV F R (fun i=>i≤N∧I i) (fun i=>N-i) i0 h0 ⟨hi,hI⟩ ?_
 rintro i vs ⟨hi,hI⟩
 refine awp_mono ?_ (round i vs hi hI)
 intro e s' hq
 cases e with
 | normal =>
   obtain⟨h1,h2,h3⟩:=hq
   exact⟨i+1,⟨h1,h2⟩,by omega,h3⟩
 | _=>exact hq
end Go.Oc

namespace Go.Oc
open Go Go.RowKit
def sBuildOwn (P:Program) (s:AS) (d:Nat) (t:TypeId) (len:Nat) (parts:List (Nat × AV)):Res :=
 match tyq P t with
 | some ⟨.slice e esz _ ez, _, _, _⟩ =>
   if len=0 then .bad else
   match layE s.ver esz (List.replicate len ez) parts with
   | some es=>⟨0<esz∧len*esz≤16777216∧d<1000,True,⟨.os d ((s.rows d).ver+1) esz 0 len,[(d,⟨(s.rows d).ver+1,.arr e esz es⟩)]⟩⟩
   | none=>.bad
 | _=>.bad
section
variable {P:Program}{C:Ctx}{p:Plan}{s:AS}{a:Act}{w:World}{o:Oper}
theorem good_buildOwn {t:TypeId}{n:Nat}{ps:Array (Nat × Operand)}(h:SR C p s a w) (ho:o.op = .buildSlice t n ps) (hp:(sBuildOwn P s (o.dst.getD 0) t n (ps.toList.map fun (i,x)=>(i,s.ev x))).pre) :
 Done P C o s a w (sBuildOwn P s (o.dst.getD 0) t n (ps.toList.map fun (i,x)=>(i,s.ev x))):=by
 have hparts:=parts_rel h ps.toList
 unfold sBuildOwn at hp ⊢
 split at hp
 ·rename_i e esz eb ez sz agg z e1
  obtain⟨hu,hok,hsz,_,zv,hzv,hez⟩:=tyq_slice e1
  subst hsz
  obtain⟨i,zval,hi,hzero,hcells,hz1,hzl⟩:=zeroOf_spec hzv
  split at hp
  ·exact hp.elim
  ·rename_i hn0
   rw[if_neg hn0]
   split at hp
   ·rename_i es hlay
    obtain⟨hpos,hmax,hd⟩:0<P.cellsOf e∧n*P.cellsOf e≤16777216∧o.dst.getD 0<1000:=hp
    have hzc:zval.cells.size=P.cellsOf e:=by rw[← hzl,← hcells];simp
    obtain⟨cells',hf,hle,hl',hr,hr1⟩:=layE_rel (p:=p) (w:=w) _ (ps.toList.map fun x=>(x.1,a.eval x.2)) _ _ (madeCells zval.cells (n*P.cellsOf e)) hlay
     (by intro e he;rw[List.eq_of_mem_replicate he,hez,List.length_map,hzl])
     (by
      rw[← hzc,madeCells_list,hcells,hez]
      clear hlay hn0 ho hmax
      induction n with
      | zero=>simp [RV.relV]
      | succ n ih =>
        simp only[List.replicate_succ,List.flatten_cons];exact RV.relV_append (RV.relV_ofV1 w p.R zv) ih)
     (by
      rw[← hzc,madeCells_list,hcells]
      intro u hu
      obtain⟨l,hl,hul⟩:=List.mem_flatten.1 hu
      rw[List.eq_of_mem_replicate hl] at hul
      exact hz1 u hul)
     hparts.1 hparts.2
    have hnl:es.length=n:=by rw[hle];simp
    have hcl:cells'.size=n*P.cellsOf e:=by
     rw[← Array.length_toList,RV.relV_length hr]
     have:∀ (es:List (List RV)),(∀ x∈es,x.length=P.cellsOf e)→es.flatten.length=es.length*P.cellsOf e:=by
      intro es
      induction es with
      | nil=>simp
      | cons x es ih =>
        intro h
        rw[List.flatten_cons,List.length_append,ih fun y hy=>h y (by simp [hy]),h x (by simp),List.length_cons,Nat.add_mul]
        omega
     rw[this es hl',hnl]
    have hnm:n≤16777216:=Nat.le_trans (Nat.le_mul_of_pos_right n hpos) hmax
    have hn:=h.newRow (o.dst.getD 0) hd (.arr e (P.cellsOf e) es) rfl n (by simp only[maxLen];omega) (.cells cells' e) (fun p' ver' hR hβ hγ hk=>by
     simp only[zrl];rw[hγ]
     refine .inr ⟨_,_,hβ,heap_alloc_new w _,hcl,by rw[hnl];exact Nat.le_refl _,?_⟩
     rw[hR]
     have hV:RV.relV (w.alloc (.cells cells' e)) p.R es.flatten cells'.toList :=
      RV.relV_mono (fun _ h=>h) (fun ad hr=>World.cell?_alloc_lt w _ ad (h.rb _ hr)) _ _ hr
     refine relE_of_vals hl' hV hr1 (fun j u hj=>?_)
     rw[add_at]
     simp only[Nat.zero_add,World.cell?_alloc_new]
     simpa using hj)
    refine⟨_,.slice (some ⟨w.heap.size,0,none⟩) n n,_,_,?_,.inl rfl,trivial,by rw[zro];exact hn,?_⟩
    ·have hmap:(ps.map fun (x:Nat × Operand)=>(x.1,a.eval x.2)).toList=ps.toList.map fun x=>(x.1,a.eval x.2):=by simp
     have hne:¬ (n*P.cellsOf e=0):=by
      have:=Nat.mul_pos (show 0<n by omega) hpos
      omega
     have hz:(zeroValue e).run P w = .ok zval w:=by simp [zeroValue,typeInfo,hi,hzero]
     have hf':=hf
     simp only[madeCells] at hf'
     simp only[execOp,ho,Instr.buildSlice,Sem.run_bind,run_underlying hu,Result.andThen_ok,zrs hok,if_neg (show ¬ (n*P.cellsOf e > 2 ^ 24) by omega),if_neg hne,hz,Sem.run_pure,hmap,hf']
     simp [newRow]
    ·rw[zro]
     simp only[AV.rel,vers,zus];exact⟨Nat.le_refl _,fun _=>.inr ⟨_,_,rfl,by simp;rfl,by omega,fun _=>by simp⟩⟩
   ·exact hp.elim
 ·exact hp.elim
variable {Q:Exit→AS→Prop}{ops:Array Oper}
theorem sops_own {l:List Oper}{t:TypeId}{n:Nat}{ps:List (Nat × Operand)}{d:Nat}{ty:TypeId}{pos:String}{af:Array Edge}(hdn:d<s.n)
 (h:aR s (some d) (sBuildOwn P s d t n (evp s ps)) (fun s'=>sops P C ops l Q s')):sops P C ops (⟨some d,.buildSlice t n ps.toArray,ty,pos,af,none⟩::l) Q s:=fun a w ⟨p,hs⟩=>by
 rw[← evp_eq] at h
 unfold wpListIn
 rw[if_pos (wantA_sound hs (by simp [wantA]))]
 refine wpIn_of_wp (by intro c h;cases h) ?_
 obtain⟨nx,v,w',p',hrun,hnx,hass,hSR,hrel⟩:=good_buildOwn (o:=⟨some d,.buildSlice t n ps.toArray,ty,pos,af,none⟩) hs rfl h.1
 unfold Oper.wp
 rw[hrun]
 have hput:=hSR.put' (d:=some d) hrel (fun t ht=>by injection ht with ht;subst ht;exact hdn)
 rcases hnx with rfl|⟨rfl,rfl⟩
 ·exact h.2 hass _ _ ⟨p',hput⟩
 ·exact h.2 hass _ _ ⟨p',hput⟩
end
end Go.Oc

namespace Go.Oc
open Go Go.RowKit
mutual
def AV.park (k:Nat) (u:Addr):AV→AV
 | .r x=>.r x
 | .pt j n off=>if j=k then (if off=0 then .r (.vl u) else .r (.vl ⟨u.block,off,none⟩)) else .pt j n off
 | .pe j n sz idx off=>if j=k then .r .un else .pe j n sz idx off
 | .os j n sz off m=>if j=k then .r .un else .os j n sz off m
 | .mp j n=>if j=k then .r .un else .mp j n
 | .mi j n=>if j=k then .r .un else .mi j n
 | .pu j n u'=>if j=k then .r (.vl u') else .pu j n u'
 | .fn f cs=>.fn f (AV.parkL k u cs)
 | .ag cs=>.ag (AV.parkL k u cs)
 | .tu cs=>.tu (AV.parkL k u cs)
def AV.parkL (k:Nat) (u:Addr):List AV→List AV
 | []=>[]
 | x::xs=>x.park k u::AV.parkL k u xs
end
def RowC.park (k:Nat) (u:Addr):RowC→RowC
 | .box cs=>.box (AV.parkL k u cs)
 | .ara t sz cs=>.ara t sz (AV.parkL k u cs)
 | .sus cs vs=>.sus (AV.parkL k u cs) vs
 | c=>c
section
variable {w:World}{p:Plan}{ver:Nat→Nat}{k b0 g0:Nat}
mutual
theorem park_rel (hv:ver k=0) (hβ:p.β k=some b0):∀ (x:AV) (v:Value),x.rel w p ver v→(x.park k ⟨b0,0,none⟩).rel w { p with β:=upd p.β k none,γ:=upd p.γ k 1 } ver v
 | .r x,v,h=>by simpa only[AV.park,AV.rel] using h
 | .pt j n off, v, h=>by
   unfold AV.park
   split
   ·rename_i e
    subst e
    split
    ·rename_i e0
     subst e0
     simp only[AV.rel] at h
     obtain⟨b,hb,hv'⟩:=h.2 (by omega)
     rw[hβ] at hb
     injection hb with hb
     subst hb
     simp only[AV.rel,RV.rel];exact hv'
    ·simp only[AV.rel] at h
     obtain⟨b,hb,hv'⟩:=h.2 (by omega)
     rw[hβ] at hb
     injection hb with hb
     subst hb
     simp only[AV.rel,RV.rel];exact hv'
   ·rename_i e
    simp only[AV.rel,zuo _ _ e] at h ⊢
    exact h
 | .pe j n sz idx off, v, h=>by
   unfold AV.park
   split
   ·exact AV.rel_un _ _ _ _
   ·rename_i e
    simp only[AV.rel,zuo _ _ e] at h ⊢
    exact h
 | .os j n sz off m, v, h=>by
   unfold AV.park
   split
   ·exact AV.rel_un _ _ _ _
   ·rename_i e
    simp only[AV.rel,zuo _ _ e] at h ⊢
    exact h
 | .mp j n, v, h=>by
   unfold AV.park
   split
   ·exact AV.rel_un _ _ _ _
   ·rename_i e
    simp only[AV.rel,zuo _ _ e] at h ⊢
    exact h
 | .mi j n, v, h=>by
   unfold AV.park
   split
   ·exact AV.rel_un _ _ _ _
   ·rename_i e
    simp only[AV.rel,zuo _ _ e] at h ⊢
    exact h
 | .pu j n u', v, h=>by
   unfold AV.park
   split
   ·simp only[AV.rel] at h
    simp only[AV.rel,RV.rel];exact h.1
   ·rename_i e
    simp only[AV.rel,zuo _ _ e] at h ⊢
    exact h
 | .fn f cs, v, h=>by
   simp only[AV.park,AV.rel] at h ⊢
   obtain⟨vs,h1,h2⟩:=h
   exact⟨vs,h1,parkL_rel hv hβ cs _ h2⟩
 | .ag cs, v, h=>by
   simp only[AV.park,AV.rel] at h ⊢
   obtain⟨vs,h1,h2,h3⟩:=h
   exact⟨vs,h1,h2,parkL_rel hv hβ cs _ h3⟩
 | .tu cs, v, h=>by
   simp only[AV.park,AV.rel] at h ⊢
   obtain⟨vs,h1,h2⟩:=h
   exact⟨vs,h1,parkL_rel hv hβ cs _ h2⟩
theorem parkL_rel (hv:ver k=0) (hβ:p.β k=some b0):∀ (xs:List AV) (vs:List Value),AV.relV w p ver xs vs→AV.relV w { p with β:=upd p.β k none,γ:=upd p.γ k 1 } ver (AV.parkL k ⟨b0,0,none⟩ xs) vs
 | [],_,h=>by simpa only[AV.parkL,AV.relV] using h
 | x::xs, vs, h=>by
   simp only[AV.parkL,AV.relV] at h ⊢
   obtain⟨u,us,h1,h2,h3⟩:=h
   exact⟨u,us,h1,park_rel hv hβ x u h2,parkL_rel hv hβ xs us h3⟩
end
mutual
theorem unpark_rel (hv:ver k=0) (hβ:p.β k=none) (hγ:p.γ k=1):∀ (x:AV) (v:Value),x.rel w p ver v→x.rel w { p with β:=upd p.β k (some b0),γ:=upd p.γ k g0 } ver v
 | .r x,v,h=>by simpa only[AV.rel] using h
 | .pt j n off, v, h=>by
   by_cases e:j=k
   ·subst e
    simp only[AV.rel] at h
    obtain⟨b,hb,_⟩:=h.2 (by omega)
    rw[hβ] at hb;cases hb
   ·simp only[AV.rel,zuo _ _ e] at h ⊢
    exact h
 | .pe j n sz idx off, v, h=>by
   by_cases e:j=k
   ·subst e
    simp only[AV.rel] at h
    obtain⟨b,hb,_⟩:=h.2 (by omega)
    rw[hβ] at hb;cases hb
   ·simp only[AV.rel,zuo _ _ e] at h ⊢
    exact h
 | .os j n sz off m, v, h=>by
   by_cases e:j=k
   ·subst e
    simp only[AV.rel] at h
    rcases h.2 (by omega) with⟨_,h1,_⟩|⟨b,_,hb,_⟩
    ·rw[hγ] at h1;cases h1
    ·rw[hβ] at hb;cases hb
   ·simp only[AV.rel,zuo _ _ e] at h ⊢
    exact h
 | .mp j n, v, h=>by
   by_cases e:j=k
   ·subst e
    simp only[AV.rel] at h
    obtain⟨b,hb,_⟩:=h.2 (by omega)
    rw[hβ] at hb;cases hb
   ·simp only[AV.rel,zuo _ _ e] at h ⊢
    exact h
 | .mi j n, v, h=>by
   by_cases e:j=k
   ·subst e
    simp only[AV.rel] at h
    obtain⟨b,hb,_⟩:=h.2 (by omega)
    rw[hβ] at hb;cases hb
   ·simp only[AV.rel,zuo _ _ e] at h ⊢
    exact h
 | .pu j n u', v, h=>by
   by_cases e:j=k
   ·subst e
    simp only[AV.rel] at h
    obtain⟨b,hb,_⟩:=h.2.2 (by omega)
    rw[hβ] at hb;cases hb
   ·simp only[AV.rel,zuo _ _ e] at h ⊢
    exact h
 | .fn f cs, v, h=>by
   simp only[AV.rel] at h ⊢
   obtain⟨vs,h1,h2⟩:=h
   exact⟨vs,h1,unparkL_rel hv hβ hγ cs _ h2⟩
 | .ag cs, v, h=>by
   simp only[AV.rel] at h ⊢
   obtain⟨vs,h1,h2,h3⟩:=h
   exact⟨vs,h1,h2,unparkL_rel hv hβ hγ cs _ h3⟩
 | .tu cs, v, h=>by
   simp only[AV.rel] at h ⊢
   obtain⟨vs,h1,h2⟩:=h
   exact⟨vs,h1,unparkL_rel hv hβ hγ cs _ h2⟩
theorem unparkL_rel (hv:ver k=0) (hβ:p.β k=none) (hγ:p.γ k=1):∀ (xs:List AV) (vs:List Value),AV.relV w p ver xs vs→AV.relV w { p with β:=upd p.β k (some b0),γ:=upd p.γ k g0 } ver xs vs
 | [],_,h=>by simpa only[AV.relV] using h
 | x::xs, vs, h=>by
   simp only[AV.relV] at h ⊢
   obtain⟨u,us,h1,h2,h3⟩:=h
   exact⟨u,us,h1,unpark_rel hv hβ hγ x u h2,unparkL_rel hv hβ hγ xs us h3⟩
end
theorem parkRow_rel (hv:ver k=0) (hβ:p.β k=some b0) {j:Nat}(hj:j≠k):∀ (c:RowC),(∀ km n l cur,c = .mi km n l cur→km≠k)→zrl w p ver j c→zrl w { p with β:=upd p.β k none,γ:=upd p.γ k 1 } ver j (c.park k ⟨b0,0,none⟩)
 | .dead,_,h=>by simpa only[RowC.park,zrl,zuo _ _ hj] using h
 | .box cs, _, h=>by
   simp only[RowC.park,zrl,zuo _ _ hj] at h ⊢
   obtain⟨b,cells,t,h1,h2,h3,h4⟩:=h
   exact⟨b,cells,t,h1,h2,parkL_rel hv hβ cs _ h3,h4⟩
 | .arr t sz es,_,h=>by simpa only[RowC.park,zrl,zuo _ _ hj] using h
 | .arc t sz es c,_,h=>by simpa only[RowC.park,zrl,zuo _ _ hj] using h
 | .ara t sz cs, _, h=>by
   simp only[RowC.park,zrl,zuo _ _ hj] at h ⊢
   obtain⟨b,cells,h1,h2,h3,l,rest,h4,h5,h6⟩:=h
   exact⟨b,cells,h1,h2,h3,l,rest,h4,parkL_rel hv hβ cs _ h5,h6⟩
 | .mp m,_,h=>by simpa only[RowC.park,zrl,zuo _ _ hj] using h
 | .mpi m,_,h=>by simpa only[RowC.park,zrl,zuo _ _ hj] using h
 | .mpx m bs cl,_,h=>by simpa only[RowC.park,zrl,zuo _ _ hj] using h
 | .mem Φ,_,h=>by simpa only[RowC.park,zrl,zuo _ _ hj] using h
 | .mi km n left cur,hm,h=>by simpa only[RowC.park,zrl,zuo _ _ hj,zuo _ _ (hm km n left cur rfl)] using h
 | .gh P l z left,_,h=>by simpa only[RowC.park,zrl,zuo _ _ hj] using h
 | .sus cs vs, _, h=>by
   simp only[RowC.park,zrl,zuo _ _ hj] at h ⊢
   exact⟨h.1,h.2.1,parkL_rel hv hβ cs _ h.2.2⟩
theorem unparkRow_rel (hv:ver k=0) (hβ:p.β k=none) (hγ:p.γ k=1) {j:Nat}(hj:j≠k):∀ (c:RowC),(∀ km n l cur,c = .mi km n l cur→km≠k)→zrl w p ver j c→zrl w { p with β:=upd p.β k (some b0),γ:=upd p.γ k g0 } ver j c
 | .dead,_,h=>by simpa only[zrl,zuo _ _ hj] using h
 | .box cs, _, h=>by
   simp only[zrl,zuo _ _ hj] at h ⊢
   obtain⟨b,cells,t,h1,h2,h3,h4⟩:=h
   exact⟨b,cells,t,h1,h2,unparkL_rel hv hβ hγ cs _ h3,h4⟩
 | .arr t sz es,_,h=>by simpa only[zrl,zuo _ _ hj] using h
 | .arc t sz es c,_,h=>by simpa only[zrl,zuo _ _ hj] using h
 | .ara t sz cs, _, h=>by
   simp only[zrl,zuo _ _ hj] at h ⊢
   obtain⟨b,cells,h1,h2,h3,l,rest,h4,h5,h6⟩:=h
   exact⟨b,cells,h1,h2,h3,l,rest,h4,unparkL_rel hv hβ hγ cs _ h5,h6⟩
 | .mp m,_,h=>by simpa only[zrl,zuo _ _ hj] using h
 | .mpi m,_,h=>by simpa only[zrl,zuo _ _ hj] using h
 | .mpx m bs cl,_,h=>by simpa only[zrl,zuo _ _ hj] using h
 | .mem Φ,_,h=>by simpa only[zrl,zuo _ _ hj] using h
 | .mi km n left cur,hm,h=>by simpa only[zrl,zuo _ _ hj,zuo _ _ (hm km n left cur rfl)] using h
 | .gh P l z left,_,h=>by simpa only[zrl,zuo _ _ hj] using h
 | .sus cs vs, _, h=>by
   simp only[zrl,zuo _ _ hj] at h ⊢
   exact⟨h.1,h.2.1,unparkL_rel hv hβ hγ cs _ h.2.2⟩
end
section
variable {P:Program}{C:Ctx}{p:Plan}{s:AS}{a:Act}{w:World}{Q:Exit→AS→Prop}
theorem awp_name {c:Code}{n:Nat}{l:List (Nat × AV)}{vs:Nat→Nat}{cs:List (Nat × RowC)}(t:Nat) {k:Nat}(ht:look l t = .pt k (vs k) 0) (h:∀ u,awp P C c Q (st n ((t,.pu k (vs k) u)::l) vs cs)):awp P C c Q (st n l vs cs):=fun a w ⟨p,hp⟩=>by
 have hx:=hp.tm t
 have e2:(st n l vs cs).tm t = .pt k (vs k) 0:=ht
 rw[e2] at hx
 simp only[AV.rel] at hx
 obtain⟨b,hb,hbv⟩:=hx.2 rfl
 refine h ⟨b,0,none⟩ a w ⟨p,{ hp with tm:=fun j=>?_ }⟩
 show AV.rel w _ _ (look ((t,.pu k (vs k) ⟨b,0,none⟩)::l) j) _
 rw[look_cons]
 split
 ·rename_i e
  subst e
  simp only[AV.rel];exact⟨hbv,hx⟩
 ·exact hp.tm j
theorem sub_unname {n:Nat}{l:List (Nat × AV)}{vs:Nat→Nat}{cs:List (Nat × RowC)}(t:Nat) {k m:Nat}{u:Addr}(ht:look l t = .pu k m u):Sub (st n l vs cs) (st n ((t,.pt k m 0)::l) vs cs):=fun C a w ⟨p,hp⟩=>by
 refine⟨p,{ hp with tm:=fun j=>?_ }⟩
 show AV.rel w _ _ (look ((t,.pt k m 0)::l) j) _
 rw[look_cons]
 split
 ·rename_i e
  subst e
  have hx:=hp.tm j
  have e2:(st n l vs cs).tm j = .pu k m u:=ht
  rw[e2] at hx
  simp only[AV.rel] at hx ⊢
  exact hx.2
 ·exact hp.tm j
end
end Go.Oc
