/- Part 4 of the texts of this claim. -/
import Derived.Test.YtonpmcdkncbjoaaGreatVA3
import Derived.Test.YtonpmcdkncbjoaaGreatProg
import Derived.KernelRfl
set_option linter.unnecessarySimpa false
set_option linter.unusedSimpArgs false
set_option linter.unusedVariables false
namespace Go.Proofs.YtonpmcdkncbjoaaGreat
open Go Go.Oc
theorem ty3:tyq Tryz.prog 3=some ⟨.int .i64,1,false,[.it .i64 0]⟩:=by kernel_rfl
theorem ty4:tyq Tryz.prog 4=some ⟨.bool,1,false,[.bo false]⟩:=by kernel_rfl
theorem ty5:tyq Tryz.prog 5=some ⟨.int .u8,1,false,[.it .u8 0]⟩:=by kernel_rfl
theorem ty22:tyq Tryz.prog 22=some ⟨.slice 43 3 3 [.it .u8 0,.it .u8 0,.it .u8 0],1,false,[.ns]⟩:=by kernel_rfl
theorem ty23:tyq Tryz.prog 23=some ⟨.slice 5 1 1 [.it .u8 0],1,false,[.ns]⟩:=by kernel_rfl
theorem ty24:tyq Tryz.prog 24=some ⟨.slice 56 2 16 [.it .i64 0,.it .i64 0],1,false,[.ns]⟩:=by kernel_rfl
theorem ty25:tyq Tryz.prog 25=some ⟨.slice 59 2 16 [.it .i64 0,.it .i64 0],1,false,[.ns]⟩:=by kernel_rfl
theorem ty26:tyq Tryz.prog 26=some ⟨.slice 3 1 8 [.it .i64 0],1,false,[.ns]⟩:=by kernel_rfl
theorem ty28:tyq Tryz.prog 28=some ⟨.struct [(0,1,false),(1,1,false),(2,1,false),(3,1,false),(4,1,false),(5,1,false)],6,true,[.it .i64 0,.it .i64 0,.ns,.ns,.ns,.it .i64 0]⟩:=by kernel_rfl
theorem ty30:tyq Tryz.prog 30=some ⟨.arr 4 1 false,4,true,[.it .u8 0,.it .u8 0,.it .u8 0,.it .u8 0]⟩:=by kernel_rfl
theorem ty31:tyq Tryz.prog 31=some ⟨.int .i64,1,false,[.it .i64 0]⟩:=by kernel_rfl
theorem ty32:tyq Tryz.prog 32=some ⟨.slice 39 3 24 [.it .i64 0,.it .i64 0,.it .i64 0],1,false,[.ns]⟩:=by kernel_rfl
theorem ty34:tyq Tryz.prog 34=some ⟨.struct [(0,1,false),(1,1,false)],2,true,[.it .i64 0,.ns]⟩:=by kernel_rfl
theorem ty35:tyq Tryz.prog 35=some ⟨.slice 31 1 8 [.it .i64 0],1,false,[.ns]⟩:=by kernel_rfl
theorem ty37:tyq Tryz.prog 37=some ⟨.struct [(0,1,false),(1,1,false)],2,true,[.it .i64 0,.it .i64 0]⟩:=by kernel_rfl
theorem ty39:tyq Tryz.prog 39=some ⟨.struct [(0,1,false),(1,2,true)],3,true,[.it .i64 0,.it .i64 0,.it .i64 0]⟩:=by kernel_rfl
theorem ty40:tyq Tryz.prog 40=some ⟨.slice 42 2 32 [.ns,.it .i64 0],1,false,[.ns]⟩:=by kernel_rfl
theorem ty42:tyq Tryz.prog 42=some ⟨.struct [(0,1,false),(1,1,false)],2,true,[.ns,.it .i64 0]⟩:=by kernel_rfl
theorem ty43:tyq Tryz.prog 43=some ⟨.arr 3 1 false,3,true,[.it .u8 0,.it .u8 0,.it .u8 0]⟩:=by kernel_rfl
theorem ty45:tyq Tryz.prog 45=some ⟨.int .i64,1,false,[.it .i64 0]⟩:=by kernel_rfl
theorem ty56:tyq Tryz.prog 56=some ⟨.struct [(0,1,false),(1,1,false)],2,true,[.it .i64 0,.it .i64 0]⟩:=by kernel_rfl
theorem ty62:tyq Tryz.prog 62=some ⟨.slice 35 1 24 [.ns],1,false,[.ns]⟩:=by kernel_rfl
theorem ty65:tyq Tryz.prog 65=some ⟨.int .i64,1,false,[.it .i64 0]⟩:=by kernel_rfl
theorem ty67:tyq Tryz.prog 67=some ⟨.struct [(0,1,false),(1,1,false),(2,1,false)],3,true,[.ns,.it .i64 0,.it .i64 0]⟩:=by kernel_rfl
theorem ty68:tyq Tryz.prog 68=some ⟨.slice 37 2 16 [.it .i64 0,.it .i64 0],1,false,[.ns]⟩:=by kernel_rfl
theorem ty72:tyq Tryz.prog 72=some ⟨.slice 34 2 32 [.it .i64 0,.ns],1,false,[.ns]⟩:=by kernel_rfl
theorem ty74:tyq Tryz.prog 74=some ⟨.struct [(0,1,false),(1,1,false)],2,true,[.it .i64 0,.ns]⟩:=by kernel_rfl
theorem ty76:tyq Tryz.prog 76=some ⟨.struct [(0,2,true),(2,1,false)],3,true,[.it .i64 0,.ns,.it .i64 0]⟩:=by kernel_rfl
theorem ty77:tyq Tryz.prog 77=some ⟨.ptr 81,1,false,[.np]⟩:=by kernel_rfl
theorem ty79:tyq Tryz.prog 79=some ⟨.arr 10 1 false,10,true,[.it .i64 0,.it .i64 0,.it .i64 0,.it .i64 0,.it .i64 0,.it .i64 0,.it .i64 0,.it .i64 0,.it .i64 0,.it .i64 0]⟩:=by kernel_rfl
theorem ty81:tyq Tryz.prog 81=some ⟨.struct [(0,1,false),(1,10,true),(11,10,true)],21,true,[.ns,.it .i64 0,.it .i64 0,.it .i64 0,.it .i64 0,.it .i64 0,.it .i64 0,.it .i64 0,.it .i64 0,.it .i64 0,.it .i64 0,.it .i64 0,.it .i64 0,.it .i64 0,.it .i64 0,.it .i64 0,.it .i64 0,.it .i64 0,.it .i64 0,.it .i64 0,.it .i64 0]⟩:=by kernel_rfl
theorem ty84:tyq Tryz.prog 84=some ⟨.struct [(0,6,true)],6,true,[.it .i64 0,.it .i64 0,.ns,.ns,.ns,.it .i64 0]⟩:=by kernel_rfl
theorem ty87:tyq Tryz.prog 87=some ⟨.func,1,false,[.nf]⟩:=by kernel_rfl
theorem ty91:tyq Tryz.prog 91=some ⟨.struct [(0,1,false),(1,1,false)],2,true,[.ns,.ns]⟩:=by kernel_rfl
theorem ty99:tyq Tryz.prog 99=some ⟨.struct [(0,2,true)],2,true,[.it .i64 0,.it .i64 0]⟩:=by kernel_rfl
theorem ty100:tyq Tryz.prog 100=some ⟨.ptr 135,1,false,[.np]⟩:=by kernel_rfl
theorem ty102:tyq Tryz.prog 102=some ⟨.struct [(0,1,false),(1,3,true),(4,1,false)],5,true,[.np,.ns,.it .i64 0,.it .i64 0,.it .i64 0]⟩:=by kernel_rfl
theorem ty108:tyq Tryz.prog 108=some ⟨.func,1,false,[.nf]⟩:=by kernel_rfl
theorem ty113:tyq Tryz.prog 113=some ⟨.func,1,false,[.nf]⟩:=by kernel_rfl
theorem ty118:tyq Tryz.prog 118=some ⟨.slice 26 1 24 [.ns],1,false,[.ns]⟩:=by kernel_rfl
theorem ty120:tyq Tryz.prog 120=some ⟨.func,1,false,[.nf]⟩:=by kernel_rfl
theorem ty123:tyq Tryz.prog 123=some ⟨.func,1,false,[.nf]⟩:=by kernel_rfl
theorem ty133:tyq Tryz.prog 133=some ⟨.slice 158 1 8 [.it .i64 0],1,false,[.ns]⟩:=by kernel_rfl
theorem ty135:tyq Tryz.prog 135=some ⟨.struct [(0,1,false),(1,1,false),(2,1,false)],3,true,[.ns,.it .i64 0,.ns]⟩:=by kernel_rfl
theorem ty136:tyq Tryz.prog 136=some ⟨.func,1,false,[.nf]⟩:=by kernel_rfl
theorem ty139:tyq Tryz.prog 139=some ⟨.func,1,false,[.nf]⟩:=by kernel_rfl
theorem ty140:tyq Tryz.prog 140=some ⟨.func,1,false,[.nf]⟩:=by kernel_rfl
theorem ty141:tyq Tryz.prog 141=some ⟨.func,1,false,[.nf]⟩:=by kernel_rfl
theorem ty142:tyq Tryz.prog 142=some ⟨.func,1,false,[.nf]⟩:=by kernel_rfl
theorem ty145:tyq Tryz.prog 145=some ⟨.func,1,false,[.nf]⟩:=by kernel_rfl
theorem ty152:tyq Tryz.prog 152=some ⟨.func,1,false,[.nf]⟩:=by kernel_rfl
theorem ty158:tyq Tryz.prog 158=some ⟨.struct [(0,1,false)],1,true,[.it .i64 0]⟩:=by kernel_rfl
theorem ty160:tyq Tryz.prog 160=some ⟨.func,1,false,[.nf]⟩:=by kernel_rfl
theorem ty165:tyq Tryz.prog 165=some ⟨.func,1,false,[.nf]⟩:=by kernel_rfl
theorem ty172:tyq Tryz.prog 172=some ⟨.map 3 4,1,false,[.un]⟩:=by kernel_rfl
theorem ty174:tyq Tryz.prog 174=some ⟨.func,1,false,[.nf]⟩:=by kernel_rfl
theorem follows:Tryz.prog.follows .mixedOrders=true:=by kernel_rfl
theorem eqN7:eqN Tryz.prog 7=none:=by kernel_rfl
theorem eqB7:eqB Tryz.prog 7=some [false,false,true,false]:=by kernel_rfl
theorem eqN8:eqN Tryz.prog 8=none:=by kernel_rfl
theorem eqB8:eqB Tryz.prog 8=some [false,false,true,false]:=by kernel_rfl
theorem eqT30:eqT Tryz.prog 30=some 4:=by kernel_rfl
theorem eqT37:eqT Tryz.prog 37=some 2:=by kernel_rfl
theorem eqT43:eqT Tryz.prog 43=some 3:=by kernel_rfl
theorem eqT56:eqT Tryz.prog 56=some 2:=by kernel_rfl
theorem eqT79:eqT Tryz.prog 79=some 10:=by kernel_rfl
theorem eqT158:eqT Tryz.prog 158=some 1:=by kernel_rfl
theorem mapT172:mapT Tryz.prog 172=some (3,4,none):=by kernel_rfl
theorem zv4:zv Tryz.prog 4=some (.bo false):=by kernel_rfl
attribute [go_sem] ty3 ty4 ty5 ty22 ty23 ty24 ty25 ty26 ty28 ty30 ty31 ty32 ty34 ty35 ty37 ty39 ty40 ty42 ty43 ty45 ty56 ty62 ty65 ty67 ty68 ty72 ty74 ty76 ty77 ty79 ty81 ty84 ty87 ty91 ty99 ty100 ty102 ty108 ty113 ty118 ty120 ty123 ty133 ty135 ty136 ty139 ty140 ty141 ty142 ty145 ty152 ty158 ty160 ty165 ty172 ty174 eqN7 eqB7 eqN8 eqB8 eqT30 eqT37 eqT43 eqT56 eqT79 eqT158 mapT172 zv4
end Go.Proofs.YtonpmcdkncbjoaaGreat

namespace Go.Oc
open Go Go.RowKit
def keyOf:AV→Option Nat
 | .pt k _ _=>some k
 | .pe k _ _ _ _=>some k
 | .os k _ _ _ _=>some k
 | .mp k _=>some k
 | .mi k _=>some k
 | .pu k _ _=>some k
 | _=>none
def reads (o:Oper):Option (List Operand) :=
 match o.op with
 | .load _ a=>some [a]
 | .fieldAddr _ x _=>some [x]
 | .indexAddr _ x _=>some [x]
 | .nilCheck x=>some [x]
 | .slice _ x _ _ none=>some [x]
 | .buildSlice _ _ ps=>some (ps.toList.map (·.2))
 | .build _ ps=>some (ps.toList.map (·.2))
 | .call ⟨.builtin .len,args,ts⟩=>match args.toList,ts.toList with|[x],[_]=>some [x]|_,_=>none
 | _=>none
def writes (o:Oper):Option (Operand × Option Nat) :=
 match o.op with
 | .store _ a _=>some (a,none)
 | .call ⟨.builtin .append,args,ts⟩=>match args.toList,ts.toList with|[x,_],[t,t']=>if t=t' then some (x,some (o.dst.getD 0)) else none|_,_=>none
 | _=>none
def verOnly (o:Oper):Bool:=match o.op with
 | .fieldAddr _ _ _=>true
 | .indexAddr _ _ _=>true
 | .nilCheck _=>true
 | _=>false
def isStore (o:Oper):Bool:=match o.op with
 | .store _ _ _=>true
 | _=>false
def wrow (key:Option Nat) (d:Option Nat):Option Nat:=match key with|some k=>some k|none=>d
section
variable {P:Program}{s:AS}{ops:Array Oper}
theorem cells_set {r:Row}{k:Nat}{x:AV}(hk:keyOf x≠some k):x.cells? (AS.ver { s with rows:=upd s.rows k r })=x.cells? s.ver:=by
 have hv:∀ j,j≠k→AS.ver { s with rows:=upd s.rows k r } j=s.ver j:=fun j hj=>by
  show (upd s.rows k r j).ver=_
  rw[zuo _ _ hj];rfl
 cases x with
 | pt j n off=>have:j≠k:=fun e=>hk (by rw[e];rfl)
               simp only[AV.cells?,hv j this]
 | pe j n sz i off=>have:j≠k:=fun e=>hk (by rw[e];rfl)
                    simp only[AV.cells?,hv j this]
 | os j n sz off m=>have:j≠k:=fun e=>hk (by rw[e];rfl)
                    simp only[AV.cells?,hv j this]
 | mp j n=>have:j≠k:=fun e=>hk (by rw[e];rfl)
           simp only[AV.cells?,hv j this]
 | mi j n=>have:j≠k:=fun e=>hk (by rw[e];rfl)
           simp only[AV.cells?,hv j this]
 | pu j n u=>have:j≠k:=fun e=>hk (by rw[e];rfl)
             simp only[AV.cells?,hv j this]
 | r v=>cases v<;>rfl
 | _=>rfl
theorem layE_set {ver ver':Nat→Nat}{esz:Nat}:∀ (ps:List (Nat × AV)) (es:List (List RV)),(∀ p∈ps,p.2.cells? ver'=p.2.cells? ver)→layE ver' esz es ps=layE ver esz es ps
 | [],_,_=>rfl
 | (i, x)::rest, es, h=>by
   simp only[layE,h (i,x) (by simp)]
   split
   ·split
    ·exact layE_set rest _ fun p hp=>h p (by simp [hp])
    ·rfl
   ·rfl
theorem lay_set {ver ver':Nat→Nat}{place:Nat→Option (Nat × Nat)}:∀ (ps:List (Nat × AV)) (cs:List AV),(∀ p∈ps,p.2.cells? ver'=p.2.cells? ver)→lay ver' place cs ps=lay ver place cs ps
 | [],_,_=>rfl
 | (i, x)::rest, cs, h=>by
   simp only[lay,h (i,x) (by simp)]
   split
   ·split
    ·exact lay_set rest _ fun p hp=>h p (by simp [hp])
    ·rfl
   ·rfl
theorem reads_step {o:Oper}{xs:List Operand}(h:reads o=some xs) {k:Nat}(hk:∀ x∈xs,keyOf (s.ev x)≠some k) (r:Row):step P o { s with rows:=upd s.rows k r }=step P o s:=by
 have hev:∀ y:Operand,AS.ev { s with rows:=upd s.rows k r } y=s.ev y:=fun y=>zer y
 have hver:∀ j,j≠k→AS.ver { s with rows:=upd s.rows k r } j=s.ver j:=fun j hj=>by
  show (upd s.rows k r j).ver=_
  rw[zuo _ _ hj];rfl
 unfold reads at h
 split at h<;>rename_i ho<;>first
  | (injection h with h;subst h)
  | (cases h;done)
  | skip
 ·have hk:=hk _ (List.mem_singleton.2 rfl)
  simp only[step,ho,hev]
  unfold sLoad
  split<;>first
   | rfl
   | (rename_i e;rw[e] at hk;simp only[keyOf,ne_eq,Option.some.injEq] at hk;simp only[zuo _ _ hk])
 ·have hk:=hk _ (List.mem_singleton.2 rfl)
  simp only[step,ho,hev]
  unfold sField
  split
  ·split
   ·split<;>first
     | rfl
     | (rename_i e;rw[e] at hk;simp only[keyOf,ne_eq,Option.some.injEq] at hk;simp only[hver _ hk])
   ·rfl
  ·rfl
 ·have hk:=hk _ (List.mem_singleton.2 rfl)
  simp only[step,ho,hev]
  unfold sIndex
  split
  ·split<;>first
    | rfl
    | (rename_i e;rw[e] at hk;simp only[keyOf,ne_eq,Option.some.injEq] at hk;simp only[hver _ hk])
  ·split<;>first
    | rfl
    | (rename_i e;rw[e] at hk;simp only[keyOf,ne_eq,Option.some.injEq] at hk;simp only[hver _ hk])
  ·rfl
 ·have hk:=hk _ (List.mem_singleton.2 rfl)
  simp only[step,ho,hev]
  unfold sNil
  split<;>first
   | rfl
   | (rename_i e;rw[e] at hk;simp only[keyOf,ne_eq,Option.some.injEq] at hk;simp only[hver _ hk])
 ·have hk:=hk _ (List.mem_singleton.2 rfl)
  have hb:∀ lo:Option Operand,lo.map (AS.ev { s with rows:=upd s.rows k r })=lo.map s.ev:=fun lo=>by cases lo<;>simp [hev]
  simp only[step,ho,hev,hb,Option.map_none]
  unfold sSlice
  split
  ·split<;>first
    | rfl
    | (rename_i e;rw[e] at hk;simp only[keyOf,ne_eq,Option.some.injEq] at hk;simp only[hver _ hk,zuo _ _ hk])
  ·rename_i e;cases e
  ·rfl
  ·rfl
 ·rename_i t n ps
  simp only[step,ho]
  have hps:(ps.toList.map fun (x:Nat × Operand)=>(x.1,AS.ev { s with rows:=upd s.rows k r } x.2))=ps.toList.map fun (x:Nat × Operand)=>(x.1,s.ev x.2):=by
   simp only[hev]
  show sBuildSlice P _ t n (ps.toList.map fun (x:Nat × Operand)=>(x.1,AS.ev { s with rows:=upd s.rows k r } x.2))=sBuildSlice P s t n (ps.toList.map fun (x:Nat × Operand)=>(x.1,s.ev x.2))
  rw[hps]
  unfold sBuildSlice
  have hl:∀ es ez,layE (AS.ver { s with rows:=upd s.rows k r }) ez es (ps.toList.map fun (x:Nat × Operand)=>(x.1,s.ev x.2))=layE s.ver ez es (ps.toList.map fun (x:Nat × Operand)=>(x.1,s.ev x.2)):=fun es ez=>layE_set _ _ fun p hp=>by
   obtain⟨x,hx,rfl⟩:=List.mem_map.1 hp
   exact cells_set (hk x.2 (List.mem_map.2 ⟨x,hx,rfl⟩))
  simp only[hl]
 ·rename_i t ps
  simp only[step,ho]
  have hps:(ps.toList.map fun (x:Nat × Operand)=>(x.1,AS.ev { s with rows:=upd s.rows k r } x.2))=ps.toList.map fun (x:Nat × Operand)=>(x.1,s.ev x.2):=by
   simp only[hev]
  show sBuild P _ t (ps.toList.map fun (x:Nat × Operand)=>(x.1,AS.ev { s with rows:=upd s.rows k r } x.2))=sBuild P s t (ps.toList.map fun (x:Nat × Operand)=>(x.1,s.ev x.2))
  rw[hps]
  unfold sBuild
  have hl:∀ pl cs,lay (AS.ver { s with rows:=upd s.rows k r }) pl cs (ps.toList.map fun (x:Nat × Operand)=>(x.1,s.ev x.2))=lay s.ver pl cs (ps.toList.map fun (x:Nat × Operand)=>(x.1,s.ev x.2)):=fun pl cs=>lay_set _ _ fun p hp=>by
   obtain⟨x,hx,rfl⟩:=List.mem_map.1 hp
   exact cells_set (hk x.2 (List.mem_map.2 ⟨x,hx,rfl⟩))
  simp only[hl]
 ·split at h
  ·rename_i x' t' hx ht
   injection h with h;subst h
   have hk:=hk _ (List.mem_singleton.2 rfl)
   simp only[step,ho,hev,hx,ht,List.map_cons,List.map_nil,sBuiltin]
   unfold sLen
   split<;>first
    | rfl
    | (rename_i e;rw[e] at hk;simp only[keyOf,ne_eq,Option.some.injEq] at hk;simp only[zuo _ _ hk,hver _ hk])
  ·cases h
theorem reads_cls {o:Oper}{xs:List Operand}(h:reads o=some xs):cls o=1:=by
 unfold reads at h
 split at h<;>rename_i ho<;>first
  | (simp [cls,ho];done)
  | (cases h;done)
theorem reads_mk {o:Oper}{xs:List Operand}(h:reads o=some xs) {y:Yi}:¬ mk o y:=fun hm=>by
 have hc:=reads_cls h
 rcases hm with hm|⟨hm,_⟩
 ·omega
 ·unfold vcall at hm
  split at hm
  ·rename_i ho;simp [reads,ho] at h
  ·cases hm
theorem reads_AY {o:Oper}{xs:List Operand}(h:reads o=some xs) {y:Yi}:AY P o s y↔rx o (step P o s) y:=by
 unfold AY
 split
 ·rename_i ho;simp [reads,ho] at h
 ·refine⟨fun hy=>hy.elim id fun hy=>?_,.inl⟩
  obtain⟨x,z,t,d,rv,h1,_⟩:=hy
  simp [reads,h1] at h
theorem writes_cls {o:Oper}{a:Operand × Option Nat}(h:writes o=some a):cls o=3:=by
 unfold writes at h
 split at h<;>rename_i ho<;>first
  | (simp [cls,ho];done)
  | (cases h;done)
theorem writes_mk {o:Oper}{a:Operand × Option Nat}(h:writes o=some a) {y:Yi}:¬ mk o y:=fun hm=>by
 have hc:=writes_cls h
 rcases hm with hm|⟨hm,_⟩
 ·omega
 ·rw[vcall_cls hm] at hc;omega
theorem writes_eff {o:Oper}{a:Operand}{d:Option Nat}(h:writes o=some (a,d)) {y:Yi}(hy:AY P o s y):∃ k r,wrow (keyOf (s.ev a)) d=some k∧y.eff=[(k,r)]:=by
 unfold writes at h
 split at h
 ·rename_i t a' x ho
  injection h with h;injection h with h1 h2;subst h1;subst h2
  unfold AY at hy
  split at hy
  ·rename_i ho';rw[ho] at ho';cases ho'
  ·rcases hy with hy|hy
   case inr=>exact (hy.no (by simp [isApp,ho])).elim
   obtain⟨hp,rfl⟩:=rx_no hy (by simp [isBS,ho])
   simp only[step,ho] at hp ⊢
   unfold sStore at hp ⊢
   split at hp
   ·rename_i k n off xs _ e _
    split at hp
    ·exact⟨k,_,by rw[e];rfl,rfl⟩
    ·exact hp.elim
   ·rename_i k n sz idx off xs _ e _
    split at hp
    ·exact⟨k,_,by rw[e];rfl,rfl⟩
    ·exact⟨k,_,by rw[e];rfl,rfl⟩
    ·exact hp.elim
   ·exact hp.elim
 ·rename_i args ts ho
  split at h
  ·rename_i x y' t t' hx ht
   split at h
   ·rename_i htt
    injection h with h;injection h with h1 h2;subst h1;subst h2;subst htt
    unfold AY at hy
    split at hy
    ·rename_i ho';rw[ho] at ho';cases ho'
    ·rcases hy with hy|hy
     case inr =>
      obtain⟨x2,z2,t2,d2,rv2,q1,q2,q3,⟨b2,q4⟩,q6,_⟩:=hy
      rw[ho] at q1
      injection q1 with q1;injection q1 with _ q1 _
      subst q1
      injection hx with hx _
      subst hx
      subst q6
      exact⟨d2,_,by rw[q4,q2];rfl,rfl⟩
     obtain⟨hp,rfl⟩:=rx_no hy (by simp [isBS,ho])
     simp only[step,ho,hx,ht,List.map_cons,List.map_nil,sBuiltin,if_true] at hp ⊢
     unfold sAppend at hp ⊢
     split at hp
     ·rename_i _ _ e _
      exact⟨o.dst.getD 0,_,by rw[e];rfl,rfl⟩
     ·rename_i _ _ e _
      exact⟨o.dst.getD 0,_,by rw[e];rfl,rfl⟩
     ·rename_i k n sz0 off m _ _ _ _ e _
      split at hp
      ·exact⟨_,_,by rw[e];rfl,rfl⟩
      ·split
       ·exact⟨_,_,by rw[e];rfl,rfl⟩
       ·exact⟨_,_,by rw[e];rfl,rfl⟩
      ·exact hp.elim
     ·exact hp.elim
   ·cases h
  ·cases h
 ·cases h
theorem reads_none {oi:Oper}{xs:List Operand}(hr:reads oi=some xs) {y:Yi}(hy:YieldsA P ops oi y s):y.eff=[]:=by
 have ci:=reads_cls hr
 rcases hy with⟨_,hy,_⟩|⟨_,rfl⟩
 ·rcases AY_eff hy (by omega) with⟨_,h⟩|⟨h,_⟩
  ·exact h
  ·exact (reads_mk hr h).elim
 ·rfl
theorem writes_rows {oj:Oper}{a:Operand}{d:Option Nat}(hw:writes oj=some (a,d)) {k:Nat}(hka:wrow (keyOf (s.ev a)) d=some k) {z:Yi}(hz:YieldsA P ops oj z s):∃ r,z.rows s.rows=upd s.rows k r:=by
 rcases hz with⟨_,hz,_⟩|⟨_,rfl⟩
 ·obtain⟨k',r,h1,h2⟩:=writes_eff hw hz
  rw[hka] at h1
  injection h1 with h1;subst h1
  exact⟨r,by simp [Yi.rows,h2]⟩
 ·refine⟨s.rows k,?_⟩
  show s.rows=_
  exact (upd_self s.rows k).symm
theorem app_states {oi oj:Oper}{y z:Yi}(hap2:∀ d,oi.dst=some d→oj.dst≠some d) (h:y.eff=[]∨z.eff=[]):(s.app oj.dst z).app oi.dst y=(s.app oi.dst y).app oj.dst z:=by
 refine AS.ext (by simp only[app_n]) ?_ ?_
 ·rw[app_tm,app_tm,app_tm,app_tm]
  cases hi:oi.dst with
  | none=>cases oj.dst<;>rfl
  | some d =>
    cases hj:oj.dst with
    | none=>rfl
    | some d' =>
      have:d≠d':=fun e=>hap2 d hi (by rw[hj,e])
      exact upd_comm _ (Ne.symm this) _ _
 ·rw[zar,zar,zar,zar]
  rcases h with h|h<;>simp [Yi.rows,h]
theorem exchange2 {oi oj:Oper}{y z:Yi}{xs:List Operand}{a:Operand}{d:Option Nat}{k:Nat}(hap:oi.apart ops oj=true) (hr:reads oi=some xs) (hw:writes oj=some (a,d)) (hka:wrow (keyOf (s.ev a)) d=some k) (hkx:∀ x∈xs,keyOf (s.ev x)≠some k)
 (hy:YieldsA P ops oi y s) (hz:YieldsA P ops oj z (s.app oi.dst y)) :
 YieldsA P ops oj z s∧YieldsA P ops oi y (s.app oj.dst z)∧(s.app oj.dst z).app oi.dst y=(s.app oi.dst y).app oj.dst z:=by
 obtain⟨hap1,hap2,hap3⟩:=Oper.apart_spec hap
 have ci:=reads_cls hr
 have cj:=writes_cls hw
 have wj:wantA ops (s.app oi.dst y) oj=wantA ops s oj:=wantA_put hap1 _
 have wi:wantA ops (s.app oj.dst z) oi=wantA ops s oi:=wantA_put hap3 _
 have hye:=reads_none hr hy
 have hyr:y.rows s.rows=s.rows:=by simp [Yi.rows,hye]
 have tmj:∀ x∈oj.op.operands,(s.app oi.dst y).ev x=s.ev x:=fun x hx=>by
  show (AS.put { s with rows:=y.rows s.rows } oi.dst y.av).ev x=s.ev x
  rw[ev_put (fun t ht e=>hap1 t ht (by subst e;exact List.mem_append_left _ (List.mem_filterMap.2 ⟨.tmp t,by simpa using hx,rfl⟩)))]
  exact zer x
 have hz':YieldsA P ops oj z s:=by
  rcases hz with⟨hw',hz,hdead⟩|⟨hw',hz⟩
  ·refine .inl ⟨by rw[← wj];exact hw',?_,fun h=>(writes_mk hw h).elim⟩
   exact AY_congr (s:=s.app oi.dst y) (by rw[zar,hyr]) (fun x hx=>(tmj x hx).symm) hz
  ·exact .inr ⟨by rw[← wj];exact hw',hz⟩
 obtain⟨r,hzr⟩:=writes_rows hw hka hz'
 refine⟨hz',?_,app_states hap2 (.inl hye)⟩
 rcases hy with⟨hw',hy,hdead⟩|⟨hw',hy⟩
 ·refine .inl ⟨by rw[wi];exact hw',?_,fun h=>(reads_mk hr h).elim⟩
  have tmi:∀ x∈oi.op.operands,(s.app oj.dst z).ev x=s.ev x:=fun x hx=>by
   show (AS.put { s with rows:=z.rows s.rows } oj.dst z.av).ev x=s.ev x
   rw[ev_put (fun t ht e=>hap3 t ht (by subst e;exact List.mem_append_left _ (List.mem_filterMap.2 ⟨.tmp t,by simpa using hx,rfl⟩)))]
   exact zer x
  have h1:AY P oi { s with rows:=z.rows s.rows } y:=by
   rw[hzr,reads_AY hr,reads_step hr hkx r,← reads_AY hr]
   exact hy
  exact AY_congr (s:={ s with rows:=z.rows s.rows }) (by rw[zar]) (fun x hx=>by rw[tmi x hx];exact (zer x).symm) h1
 ·exact .inr ⟨by rw[wi];exact hw',hy⟩
theorem exchange3 {oi oj:Oper}{y z:Yi}{xs:List Operand}{a:Operand}{d:Option Nat}{k:Nat}(hap:oi.apart ops oj=true) (hr:reads oj=some xs) (hw:writes oi=some (a,d)) (hka:wrow (keyOf (s.ev a)) d=some k) (hkx:∀ x∈xs,keyOf (s.ev x)≠some k)
 (hy:YieldsA P ops oi y s) (hz:YieldsA P ops oj z (s.app oi.dst y)) :
 YieldsA P ops oj z s∧YieldsA P ops oi y (s.app oj.dst z)∧(s.app oj.dst z).app oi.dst y=(s.app oi.dst y).app oj.dst z:=by
 obtain⟨hap1,hap2,hap3⟩:=Oper.apart_spec hap
 have cj:=reads_cls hr
 have ci:=writes_cls hw
 have wj:wantA ops (s.app oi.dst y) oj=wantA ops s oj:=wantA_put hap1 _
 have wi:wantA ops (s.app oj.dst z) oi=wantA ops s oi:=wantA_put hap3 _
 have hze:=reads_none hr hz
 obtain⟨r,hyr⟩:=writes_rows hw hka hy
 have tmj:∀ x∈oj.op.operands,(s.app oi.dst y).ev x=s.ev x:=fun x hx=>by
  show (AS.put { s with rows:=y.rows s.rows } oi.dst y.av).ev x=s.ev x
  rw[ev_put (fun t ht e=>hap1 t ht (by subst e;exact List.mem_append_left _ (List.mem_filterMap.2 ⟨.tmp t,by simpa using hx,rfl⟩)))]
  exact zer x
 have hz':YieldsA P ops oj z s:=by
  rcases hz with⟨hw',hz,hdead⟩|⟨hw',hz⟩
  ·refine .inl ⟨by rw[← wj];exact hw',?_,fun h=>(reads_mk hr h).elim⟩
   have h1:AY P oj { s with rows:=y.rows s.rows } z:=AY_congr (s:=s.app oi.dst y) (by rw[zar]) (fun x hx=>by rw[tmj x hx];exact zer x) hz
   rw[hyr,reads_AY hr,reads_step hr hkx r,← reads_AY hr] at h1
   exact h1
  ·exact .inr ⟨by rw[← wj];exact hw',hz⟩
 refine⟨hz',?_,app_states hap2 (.inr hze)⟩
 rcases hy with⟨hw',hy,hdead⟩|⟨hw',hy⟩
 ·refine .inl ⟨by rw[wi];exact hw',?_,fun h=>(writes_mk hw h).elim⟩
  have tmi:∀ x∈oi.op.operands,(s.app oj.dst z).ev x=s.ev x:=fun x hx=>by
   show (AS.put { s with rows:=z.rows s.rows } oj.dst z.av).ev x=s.ev x
   rw[ev_put (fun t ht e=>hap3 t ht (by subst e;exact List.mem_append_left _ (List.mem_filterMap.2 ⟨.tmp t,by simpa using hx,rfl⟩)))]
   exact zer x
  have hzr:z.rows s.rows=s.rows:=by simp [Yi.rows,hze]
  exact AY_congr (s:=s) (by rw[zar,hzr]) (fun x hx=>tmi x hx) hy
 ·exact .inr ⟨by rw[wi];exact hw',hy⟩
theorem verOnly_reads {o:Oper}(h:verOnly o=true):∃ xs,reads o=some xs:=by
 unfold verOnly at h
 split at h<;>first
  | (rename_i ho;exact⟨_,by unfold reads;rw[ho]⟩)
  | cases h
theorem verOnly_step {o:Oper}(h:verOnly o=true) {k:Nat}{r:Row}(hv:r.ver=(s.rows k).ver):step P o { s with rows:=upd s.rows k r }=step P o s:=by
 have hev:∀ y:Operand,AS.ev { s with rows:=upd s.rows k r } y=s.ev y:=fun y=>zer y
 have hver:AS.ver { s with rows:=upd s.rows k r }=s.ver:=by
  funext j
  show (upd s.rows k r j).ver=(s.rows j).ver
  unfold upd;split
  ·rename_i e;subst e;exact hv
  ·rfl
 unfold verOnly at h
 split at h<;>first
  | (rename_i ho;simp only[step,ho,hev,sField,sIndex,sNil,hver];done)
  | cases h
theorem isStore_writes {o:Oper}(h:isStore o=true):∃ a,writes o=some (a,none):=by
 unfold isStore at h
 split at h
 ·rename_i ho;exact⟨_,by unfold writes;rw[ho]⟩
 ·cases h
theorem isStore_eff {o:Oper}(h:isStore o=true) {y:Yi}(hy:AY P o s y):∃ k r,y.eff=[(k,r)]∧r.ver=(s.rows k).ver:=by
 unfold isStore at h
 split at h
 ·rename_i t a x ho
  unfold AY at hy
  split at hy
  ·rename_i ho';rw[ho] at ho';cases ho'
  ·rcases hy with hy|hy
   case inr=>exact (hy.no (by simp [isApp,ho])).elim
   obtain⟨hp,rfl⟩:=rx_no hy (by simp [isBS,ho])
   simp only[step,ho] at hp ⊢
   unfold sStore at hp ⊢
   split at hp
   ·rename_i k n off xs _ e _
    split at hp
    ·rename_i n' cs e5
     exact⟨k,_,rfl,by rw[e5]⟩
    ·exact hp.elim
   ·rename_i k n sz idx off xs _ e _
    split at hp
    ·rename_i n' t' sz' es _ e5 _
     exact⟨k,_,rfl,by rw[e5]⟩
    ·rename_i n' t' sz' cs e5
     exact⟨k,_,rfl,by rw[e5]⟩
    ·exact hp.elim
   ·exact hp.elim
 ·cases h
theorem isStore_rows {oj:Oper}(h:isStore oj=true) {z:Yi}(hz:YieldsA P ops oj z s):∃ k r,z.rows s.rows=upd s.rows k r∧r.ver=(s.rows k).ver:=by
 rcases hz with⟨_,hz,_⟩|⟨_,rfl⟩
 ·obtain⟨k,r,h1,h2⟩:=isStore_eff h hz
  exact⟨k,r,by simp [Yi.rows,h1],h2⟩
 ·exact⟨0,s.rows 0,(upd_self s.rows 0).symm,rfl⟩
theorem exchange2v {oi oj:Oper}{y z:Yi}(hap:oi.apart ops oj=true) (hro:verOnly oi=true) (hso:isStore oj=true)
 (hy:YieldsA P ops oi y s) (hz:YieldsA P ops oj z (s.app oi.dst y)) :
 YieldsA P ops oj z s∧YieldsA P ops oi y (s.app oj.dst z)∧(s.app oj.dst z).app oi.dst y=(s.app oi.dst y).app oj.dst z:=by
 obtain⟨hap1,hap2,hap3⟩:=Oper.apart_spec hap
 obtain⟨xs,hr⟩:=verOnly_reads hro
 obtain⟨a,hw⟩:=isStore_writes hso
 have ci:=reads_cls hr
 have cj:=writes_cls hw
 have wj:wantA ops (s.app oi.dst y) oj=wantA ops s oj:=wantA_put hap1 _
 have wi:wantA ops (s.app oj.dst z) oi=wantA ops s oi:=wantA_put hap3 _
 have hye:=reads_none hr hy
 have hyr:y.rows s.rows=s.rows:=by simp [Yi.rows,hye]
 have tmj:∀ x∈oj.op.operands,(s.app oi.dst y).ev x=s.ev x:=fun x hx=>by
  show (AS.put { s with rows:=y.rows s.rows } oi.dst y.av).ev x=s.ev x
  rw[ev_put (fun t ht e=>hap1 t ht (by subst e;exact List.mem_append_left _ (List.mem_filterMap.2 ⟨.tmp t,by simpa using hx,rfl⟩)))]
  exact zer x
 have hz':YieldsA P ops oj z s:=by
  rcases hz with⟨hw',hz,hdead⟩|⟨hw',hz⟩
  ·refine .inl ⟨by rw[← wj];exact hw',?_,fun h=>(writes_mk hw h).elim⟩
   exact AY_congr (s:=s.app oi.dst y) (by rw[zar,hyr]) (fun x hx=>(tmj x hx).symm) hz
  ·exact .inr ⟨by rw[← wj];exact hw',hz⟩
 obtain⟨k,r,hzr,hvr⟩:=isStore_rows hso hz'
 refine⟨hz',?_,app_states hap2 (.inl hye)⟩
 rcases hy with⟨hw',hy,hdead⟩|⟨hw',hy⟩
 ·refine .inl ⟨by rw[wi];exact hw',?_,fun h=>(reads_mk hr h).elim⟩
  have tmi:∀ x∈oi.op.operands,(s.app oj.dst z).ev x=s.ev x:=fun x hx=>by
   show (AS.put { s with rows:=z.rows s.rows } oj.dst z.av).ev x=s.ev x
   rw[ev_put (fun t ht e=>hap3 t ht (by subst e;exact List.mem_append_left _ (List.mem_filterMap.2 ⟨.tmp t,by simpa using hx,rfl⟩)))]
   exact zer x
  have h1:AY P oi { s with rows:=z.rows s.rows } y:=by
   rw[hzr,reads_AY hr,verOnly_step hro hvr,← reads_AY hr]
   exact hy
  exact AY_congr (s:={ s with rows:=z.rows s.rows }) (by rw[zar]) (fun x hx=>by rw[tmi x hx];exact (zer x).symm) h1
 ·exact .inr ⟨by rw[wi];exact hw',hy⟩
theorem exchange3v {oi oj:Oper}{y z:Yi}(hap:oi.apart ops oj=true) (hro:verOnly oj=true) (hso:isStore oi=true)
 (hy:YieldsA P ops oi y s) (hz:YieldsA P ops oj z (s.app oi.dst y)) :
 YieldsA P ops oj z s∧YieldsA P ops oi y (s.app oj.dst z)∧(s.app oj.dst z).app oi.dst y=(s.app oi.dst y).app oj.dst z:=by
 obtain⟨hap1,hap2,hap3⟩:=Oper.apart_spec hap
 obtain⟨xs,hr⟩:=verOnly_reads hro
 obtain⟨a,hw⟩:=isStore_writes hso
 have cj:=reads_cls hr
 have ci:=writes_cls hw
 have wj:wantA ops (s.app oi.dst y) oj=wantA ops s oj:=wantA_put hap1 _
 have wi:wantA ops (s.app oj.dst z) oi=wantA ops s oi:=wantA_put hap3 _
 have hze:=reads_none hr hz
 obtain⟨k,r,hyr,hvr⟩:=isStore_rows hso hy
 have tmj:∀ x∈oj.op.operands,(s.app oi.dst y).ev x=s.ev x:=fun x hx=>by
  show (AS.put { s with rows:=y.rows s.rows } oi.dst y.av).ev x=s.ev x
  rw[ev_put (fun t ht e=>hap1 t ht (by subst e;exact List.mem_append_left _ (List.mem_filterMap.2 ⟨.tmp t,by simpa using hx,rfl⟩)))]
  exact zer x
 have hz':YieldsA P ops oj z s:=by
  rcases hz with⟨hw',hz,hdead⟩|⟨hw',hz⟩
  ·refine .inl ⟨by rw[← wj];exact hw',?_,fun h=>(reads_mk hr h).elim⟩
   have h1:AY P oj { s with rows:=y.rows s.rows } z:=AY_congr (s:=s.app oi.dst y) (by rw[zar]) (fun x hx=>by rw[tmj x hx];exact zer x) hz
   rw[hyr,reads_AY hr,verOnly_step hro hvr,← reads_AY hr] at h1
   exact h1
  ·exact .inr ⟨by rw[← wj];exact hw',hz⟩
 refine⟨hz',?_,app_states hap2 (.inr hze)⟩
 rcases hy with⟨hw',hy,hdead⟩|⟨hw',hy⟩
 ·refine .inl ⟨by rw[wi];exact hw',?_,fun h=>(writes_mk hw h).elim⟩
  have tmi:∀ x∈oi.op.operands,(s.app oj.dst z).ev x=s.ev x:=fun x hx=>by
   show (AS.put { s with rows:=z.rows s.rows } oj.dst z.av).ev x=s.ev x
   rw[ev_put (fun t ht e=>hap3 t ht (by subst e;exact List.mem_append_left _ (List.mem_filterMap.2 ⟨.tmp t,by simpa using hx,rfl⟩)))]
   exact zer x
  have hzr:z.rows s.rows=s.rows:=by simp [Yi.rows,hze]
  exact AY_congr (s:=s) (by rw[zar,hzr]) (fun x hx=>tmi x hx) hy
 ·exact .inr ⟨by rw[wi];exact hw',hy⟩
end
def makes (o:Oper):Option Nat :=
 match o.op,o.dst with
 | .makeSlice _ _ _,some d=>some d
 | .alloc _,some d=>some d
 | _,_=>none
def puts (o:Oper):Option (Operand × Option Nat × Operand) :=
 match o.op with
 | .store _ a x=>some (a,none,x)
 | .call ⟨.builtin .append,args,ts⟩=>match args.toList,ts.toList with|[x,y],[t,t']=>if t=t' then some (x,some (o.dst.getD 0),y) else none|_,_=>none
 | _=>none
section
variable {P:Program}{s:AS}{ops:Array Oper}
theorem makes_cls {o:Oper}{d:Nat}(h:makes o=some d):cls o=2∧o.dst=some d:=by
 unfold makes at h
 split at h
 ·rename_i ho hd;injection h with h;subst h;exact⟨by simp [cls,ho],hd⟩
 ·rename_i ho hd;injection h with h;subst h;exact⟨by simp [cls,ho],hd⟩
 ·cases h
theorem puts_writes {o:Oper}{a x:Operand}{dd:Option Nat}(h:puts o=some (a,dd,x)):writes o=some (a,dd):=by
 unfold puts at h
 split at h
 ·rename_i ho
  injection h with h;injection h with h1 h2;injection h2 with h2 h3;subst h1;subst h2
  simp [writes,ho]
 ·rename_i args ts ho
  split at h
  ·rename_i x' y' t t' hx ht
   split at h
   ·rename_i htt
    injection h with h;injection h with h1 h2;injection h2 with h2 h3;subst h1;subst h2;subst htt
    simp [writes,ho,hx,ht]
   ·cases h
  ·cases h
 ·cases h
theorem puts_cls {o:Oper}{a x:Operand}{dd:Option Nat}(h:puts o=some (a,dd,x)):cls o=3:=writes_cls (puts_writes h)
theorem puts_mk {o:Oper}{a x:Operand}{dd:Option Nat}(h:puts o=some (a,dd,x)) {y:Yi}:¬ mk o y:=writes_mk (puts_writes h)
theorem makes_step {o:Oper}{d k:Nat}(h:makes o=some d) (hk:k≠d) (r:Row):step P o { s with rows:=upd s.rows k r }=step P o s:=by
 have hev:∀ y:Operand,AS.ev { s with rows:=upd s.rows k r } y=s.ev y:=fun y=>zer y
 unfold makes at h
 split at h
 ·rename_i ho hd
  injection h with h;subst h
  simp only[step,ho,hev,hd,Option.getD_some]
  unfold sMakeSlice
  simp only[zuo _ _ (Ne.symm hk)]
 ·rename_i ho hd
  injection h with h;subst h
  simp only[step,ho,hev,hd,Option.getD_some]
  unfold sAlloc
  simp only[zuo _ _ (Ne.symm hk)]
 ·cases h
theorem makes_AY {o:Oper}{d:Nat}(h:makes o=some d) {y:Yi}:AY P o s y↔(step P o s).pre∧y=(step P o s).y:=by
 unfold AY
 split
 ·rename_i ho;simp [makes,ho] at h
 ·refine⟨fun hy=>hy.elim (fun hy=>rx_no hy ?_) fun hy=>?_,fun hy=>.inl ⟨hy.1,.inl hy.2⟩⟩
  ·unfold makes at h
   split at h<;>rename_i ho _<;>first
    | (simp [isBS,ho];done)
    | cases h
  ·obtain⟨x,z,t,d,rv,h1,_⟩:=hy
   simp [makes,h1] at h
theorem makes_eff {o:Oper}{d:Nat}(h:makes o=some d) {y:Yi}(hy:AY P o s y):∃ r,y.eff=[(d,r)]:=by
 obtain⟨hp,rfl⟩:=(makes_AY h).1 hy
 unfold makes at h
 split at h
 ·rename_i ho hd
  injection h with h;subst h
  simp only[step,ho,hd,Option.getD_some] at hp ⊢
  unfold sMakeSlice at hp ⊢
  (repeat' split at hp)<;>first|exact hp.elim|exact⟨_,rfl⟩
 ·rename_i ho hd
  injection h with h;subst h
  simp only[step,ho,hd,Option.getD_some] at hp ⊢
  unfold sAlloc at hp ⊢
  (repeat' split at hp)<;>first|exact hp.elim|exact⟨_,rfl⟩
 ·cases h
theorem news_set {d:Nat}{r:Row}{y:AV}(hy:keyOf y≠some d):news? { s with rows:=upd s.rows d r } y=news? s y:=by
 unfold news?
 split<;>first
  | rfl
  | (simp only[keyOf,ne_eq,Option.some.injEq] at hy;simp only[zuo _ _ hy];done)
  | (simp only[keyOf, ne_eq, Option.some.injEq] at hy
     have hv:AS.ver { s with rows:=upd s.rows d r } _=s.ver _:=by show (upd s.rows d r _).ver=_;rw[zuo _ _ hy];rfl
     simp only[zuo _ _ hy,hv])
theorem puts_step {o:Oper}{a x:Operand}{dd:Option Nat}{d k:Nat}(h:puts o=some (a,dd,x)) (hka:wrow (keyOf (s.ev a)) dd=some k) (hkd:k≠d) (hx:keyOf (s.ev x)≠some d) (r:Row):step P o { s with rows:=upd s.rows d r }=step P o s:=by
 have hev:∀ y:Operand,AS.ev { s with rows:=upd s.rows d r } y=s.ev y:=fun y=>zer y
 have ha:keyOf (s.ev a)≠some d:=fun e=>by rw[e] at hka;injection hka with hka;exact hkd hka.symm
 unfold puts at h
 split at h
 ·rename_i t a' x' ho
  injection h with h;injection h with h1 h2;injection h2 with h2 h3;subst h1;subst h2;subst h3
  simp only[step,ho,hev]
  unfold sStore
  rw[cells_set hx]
  split<;>first
   | rfl
   | (rename_i e _;rw[e] at ha;simp only[keyOf,ne_eq,Option.some.injEq] at ha;simp only[zuo _ _ ha])
 ·rename_i args ts ho
  split at h
  ·rename_i x' y' t t' hx' ht
   split at h
   ·rename_i htt
    injection h with h;injection h with h1 h2;injection h2 with h2 h3;subst h1;subst h2;subst h3;subst htt
    simp only[step,ho,hx',ht,List.map_cons,List.map_nil,sBuiltin,if_true,hev]
    unfold sAppend
    rw[news_set hx]
    split
    ·rename_i e _
     rw[e] at hka
     have hk:o.dst.getD 0=k:=by simpa [keyOf,wrow] using hka
     rw[hk]
     simp only[zuo _ _ hkd]
    ·rename_i e _
     rw[e] at hka
     have hk:o.dst.getD 0=k:=by simpa [keyOf,wrow] using hka
     rw[hk]
     simp only[zuo _ _ hkd]
    ·rename_i k' n sz0 off m _ _ _ _ e _
     rw[e] at ha
     simp only[keyOf,ne_eq,Option.some.injEq] at ha
     simp only[zuo _ _ ha]
    ·rfl
   ·cases h
  ·cases h
 ·cases h
theorem puts_AY {o:Oper}{a x:Operand}{dd:Option Nat}(h:puts o=some (a,dd,x)) {y:Yi}:AY P o s y↔((step P o s).pre∧y=(step P o s).y)∨AYf P o s y:=by
 unfold AY
 split
 ·rename_i ho;simp [puts,ho] at h
 ·have hb:isBS o=false:=by
   unfold puts at h
   split at h<;>rename_i ho<;>first
    | (simp [isBS,ho];done)
    | cases h
  exact⟨fun hy=>hy.imp (fun hy=>rx_no hy hb) id,fun hy=>hy.imp (fun hy=>⟨hy.1,.inl hy.2⟩) id⟩
theorem puts_AYf {o:Oper}{a x:Operand}{dd:Option Nat}{d k:Nat}(h:puts o=some (a,dd,x)) (hka:wrow (keyOf (s.ev a)) dd=some k) (hkd:k≠d) (hx:keyOf (s.ev x)≠some d) (r:Row) {y:Yi}:AYf P o { s with rows:=upd s.rows d r } y=AYf P o s y:=by
 have hev:∀ y:Operand,AS.ev { s with rows:=upd s.rows d r } y=s.ev y:=fun y=>zer y
 have key:∀ x2 z2 t2 d2 rv2 b2,o.op = .call ⟨.builtin .append,#[x2,z2],#[t2,t2]⟩→o.dst=some d2→s.ev x2 = .r b2→(d2≠d∧frz P o { s with rows:=upd s.rows d r } x2 z2 t2 d2 rv2=frz P o s x2 z2 t2 d2 rv2):=by
  intro x2 z2 t2 d2 rv2 b2 q1 q2 q4
  have hp:=h
  unfold puts at h
  rw[q1] at h
  simp only[if_true,Option.some.injEq,Prod.mk.injEq] at h
  obtain⟨rfl,rfl,rfl⟩:=h
  rw[q4,q2] at hka
  have e:d2=k:=by simpa [keyOf,wrow] using hka
  have hd2:d2≠d:=by rw[e];exact hkd
  refine⟨hd2,?_⟩
  unfold frz
  rw[puts_step hp (by rw[q4,q2];exact hka) hkd hx r,hev,hev,news_set hx]
  simp only[zuo _ _ hd2]
 unfold AYf
 refine propext ⟨?_,?_⟩
 ·rintro ⟨x2,z2,t2,d2,rv2,q1,q2,q3,⟨b2,q4⟩,q5,q6⟩
  rw[hev] at q4
  obtain⟨k1,k2⟩:=key x2 z2 t2 d2 rv2 b2 q1 q2 q4
  rw[k2] at q6
  simp only[zuo _ _ k1] at q5
  exact⟨x2,z2,t2,d2,rv2,q1,q2,q3,⟨b2,q4⟩,q5,q6⟩
 ·rintro ⟨x2,z2,t2,d2,rv2,q1,q2,q3,⟨b2,q4⟩,q5,q6⟩
  obtain⟨k1,k2⟩:=key x2 z2 t2 d2 rv2 b2 q1 q2 q4
  rw[← k2] at q6
  refine⟨x2,z2,t2,d2,rv2,q1,q2,q3,⟨b2,by rw[hev];exact q4⟩,?_,q6⟩
  simp only[zuo _ _ k1];exact q5
theorem eff_comm {y z:Yi}{d k:Nat}(hdk:d≠k) (hy:y.eff=[]∨∃ r,y.eff=[(d,r)]) (hz:z.eff=[]∨∃ r,z.eff=[(k,r)]) (f:Nat→Row):y.rows (z.rows f)=z.rows (y.rows f):=by
 rcases hy with hy|⟨r,hy⟩
 ·simp [Yi.rows,hy]
 ·rcases hz with hz|⟨r',hz⟩
  ·simp [Yi.rows,hz]
  ·simp only[Yi.rows,hy,hz,List.foldl_cons,List.foldl_nil];exact upd_comm _ (Ne.symm hdk) _ _
theorem app_states3 {oi oj:Oper}{y z:Yi}(hap2:∀ d,oi.dst=some d→oj.dst≠some d) (h:y.rows (z.rows s.rows)=z.rows (y.rows s.rows)):(s.app oj.dst z).app oi.dst y=(s.app oi.dst y).app oj.dst z:=by
 refine AS.ext (by simp only[app_n]) ?_ ?_
 ·rw[app_tm,app_tm,app_tm,app_tm]
  cases hi:oi.dst with
  | none=>cases oj.dst<;>rfl
  | some d =>
    cases hj:oj.dst with
    | none=>rfl
    | some d' =>
      have:d≠d':=fun e=>hap2 d hi (by rw[hj,e])
      exact upd_comm _ (Ne.symm this) _ _
 ·rw[zar,zar,zar,zar]
  exact h
theorem makes_effs {o:Oper}{d:Nat}(h:makes o=some d) {y:Yi}(hy:YieldsA P ops o y s):y.eff=[]∨∃ r,y.eff=[(d,r)]:=by
 rcases hy with⟨_,hy,_⟩|⟨_,rfl⟩
 ·exact .inr (makes_eff h hy)
 ·exact .inl rfl
theorem puts_effs {o:Oper}{a x:Operand}{dd:Option Nat}{k:Nat}(h:puts o=some (a,dd,x)) (hka:wrow (keyOf (s.ev a)) dd=some k) {z:Yi}(hz:YieldsA P ops o z s):z.eff=[]∨∃ r,z.eff=[(k,r)]:=by
 rcases hz with⟨_,hz,_⟩|⟨_,rfl⟩
 ·obtain⟨k',r,h1,h2⟩:=writes_eff (puts_writes h) hz
  rw[hka] at h1
  injection h1 with h1;subst h1
  exact .inr ⟨r,h2⟩
 ·exact .inl rfl
theorem rows_upd {y:Yi}{d:Nat}(hy:y.eff=[]∨∃ r,y.eff=[(d,r)]) (f:Nat→Row):∃ r,y.rows f=upd f d r:=by
 rcases hy with hy|⟨r,hy⟩
 ·exact⟨f d,by rw[upd_self];simp [Yi.rows,hy]⟩
 ·exact⟨r,by simp [Yi.rows,hy]⟩
theorem exchange4 {oi oj:Oper}{y z:Yi}{a x:Operand}{dd:Option Nat}{d k:Nat}(hap:oi.apart ops oj=true) (hr:makes oi=some d) (hw:puts oj=some (a,dd,x)) (hka:wrow (keyOf (s.ev a)) dd=some k) (hkd:k≠d) (hkx:keyOf (s.ev x)≠some d)
 (hy:YieldsA P ops oi y s) (hz:YieldsA P ops oj z (s.app oi.dst y)) :
 YieldsA P ops oj z s∧YieldsA P ops oi y (s.app oj.dst z)∧(s.app oj.dst z).app oi.dst y=(s.app oi.dst y).app oj.dst z:=by
 obtain⟨hap1,hap2,hap3⟩:=Oper.apart_spec hap
 have ci:=(makes_cls hr).1
 have cj:=puts_cls hw
 have wj:wantA ops (s.app oi.dst y) oj=wantA ops s oj:=wantA_put hap1 _
 have wi:wantA ops (s.app oj.dst z) oi=wantA ops s oi:=wantA_put hap3 _
 have hye:=makes_effs hr hy
 obtain⟨r,hyr⟩:=rows_upd hye s.rows
 have tmj:∀ x∈oj.op.operands,(s.app oi.dst y).ev x=s.ev x:=fun x hx=>by
  show (AS.put { s with rows:=y.rows s.rows } oi.dst y.av).ev x=s.ev x
  rw[ev_put (fun t ht e=>hap1 t ht (by subst e;exact List.mem_append_left _ (List.mem_filterMap.2 ⟨.tmp t,by simpa using hx,rfl⟩)))]
  exact zer x
 have hz':YieldsA P ops oj z s:=by
  rcases hz with⟨hw',hz,hdead⟩|⟨hw',hz⟩
  ·refine .inl ⟨by rw[← wj];exact hw',?_,fun h=>(puts_mk hw h).elim⟩
   have h1:AY P oj { s with rows:=y.rows s.rows } z:=AY_congr (s:=s.app oi.dst y) (by rw[zar]) (fun x hx=>by rw[tmj x hx];exact zer x) hz
   rw[hyr,puts_AY hw,puts_step hw hka hkd hkx r,puts_AYf hw hka hkd hkx r,← puts_AY hw] at h1
   exact h1
  ·exact .inr ⟨by rw[← wj];exact hw',hz⟩
 have hze:=puts_effs hw hka hz'
 obtain⟨r',hzr⟩:=rows_upd hze s.rows
 refine⟨hz',?_,app_states3 hap2 (eff_comm (Ne.symm hkd) hye hze _)⟩
 rcases hy with⟨hw',hy,hdead⟩|⟨hw',hy⟩
 ·refine .inl ⟨by rw[wi];exact hw',?_,fun h=>?_⟩
  ·have tmi:∀ x∈oi.op.operands,(s.app oj.dst z).ev x=s.ev x:=fun x hx=>by
    show (AS.put { s with rows:=z.rows s.rows } oj.dst z.av).ev x=s.ev x
    rw[ev_put (fun t ht e=>hap3 t ht (by subst e;exact List.mem_append_left _ (List.mem_filterMap.2 ⟨.tmp t,by simpa using hx,rfl⟩)))]
    exact zer x
   have h1:AY P oi { s with rows:=z.rows s.rows } y:=by
    rw[hzr,makes_AY hr,makes_step hr hkd r',← makes_AY hr]
    exact hy
   exact AY_congr (s:={ s with rows:=z.rows s.rows }) (by rw[zar]) (fun x hx=>by rw[tmi x hx];exact (zer x).symm) h1
  ·obtain⟨h1,h2⟩:=hdead h
   refine⟨?_,h2⟩
   rw[(makes_cls hr).2,Option.getD_some] at h1 ⊢
   rw[zar,hzr,zuo _ _ (Ne.symm hkd)]
   exact h1
 ·exact .inr ⟨by rw[wi];exact hw',hy⟩
theorem exchange5 {oi oj:Oper}{y z:Yi}{a x:Operand}{dd:Option Nat}{d k:Nat}(hap:oi.apart ops oj=true) (hr:makes oj=some d) (hw:puts oi=some (a,dd,x)) (hka:wrow (keyOf (s.ev a)) dd=some k) (hkd:k≠d) (hkx:keyOf (s.ev x)≠some d)
 (hy:YieldsA P ops oi y s) (hz:YieldsA P ops oj z (s.app oi.dst y)) :
 YieldsA P ops oj z s∧YieldsA P ops oi y (s.app oj.dst z)∧(s.app oj.dst z).app oi.dst y=(s.app oi.dst y).app oj.dst z:=by
 obtain⟨hap1,hap2,hap3⟩:=Oper.apart_spec hap
 have cj:=(makes_cls hr).1
 have ci:=puts_cls hw
 have wj:wantA ops (s.app oi.dst y) oj=wantA ops s oj:=wantA_put hap1 _
 have wi:wantA ops (s.app oj.dst z) oi=wantA ops s oi:=wantA_put hap3 _
 have hye:=puts_effs hw hka hy
 obtain⟨r,hyr⟩:=rows_upd hye s.rows
 have tmj:∀ x∈oj.op.operands,(s.app oi.dst y).ev x=s.ev x:=fun x hx=>by
  show (AS.put { s with rows:=y.rows s.rows } oi.dst y.av).ev x=s.ev x
  rw[ev_put (fun t ht e=>hap1 t ht (by subst e;exact List.mem_append_left _ (List.mem_filterMap.2 ⟨.tmp t,by simpa using hx,rfl⟩)))]
  exact zer x
 have hz':YieldsA P ops oj z s:=by
  rcases hz with⟨hw',hz,hdead⟩|⟨hw',hz⟩
  ·refine .inl ⟨by rw[← wj];exact hw',?_,fun h=>?_⟩
   ·have h1:AY P oj { s with rows:=y.rows s.rows } z:=AY_congr (s:=s.app oi.dst y) (by rw[zar]) (fun x hx=>by rw[tmj x hx];exact zer x) hz
    rw[hyr,makes_AY hr,makes_step hr hkd r,← makes_AY hr] at h1
    exact h1
   ·obtain⟨h1,h2⟩:=hdead h
    refine⟨?_,h2⟩
    rw[(makes_cls hr).2,Option.getD_some] at h1 ⊢
    rw[zar,hyr,zuo _ _ (Ne.symm hkd)] at h1
    exact h1
  ·exact .inr ⟨by rw[← wj];exact hw',hz⟩
 have hze:=makes_effs hr hz'
 obtain⟨r',hzr⟩:=rows_upd hze s.rows
 refine⟨hz',?_,app_states3 hap2 (eff_comm hkd hye hze _)⟩
 rcases hy with⟨hw',hy,hdead⟩|⟨hw',hy⟩
 ·refine .inl ⟨by rw[wi];exact hw',?_,fun h=>(puts_mk hw h).elim⟩
  have tmi:∀ x∈oi.op.operands,(s.app oj.dst z).ev x=s.ev x:=fun x hx=>by
   show (AS.put { s with rows:=z.rows s.rows } oj.dst z.av).ev x=s.ev x
   rw[ev_put (fun t ht e=>hap3 t ht (by subst e;exact List.mem_append_left _ (List.mem_filterMap.2 ⟨.tmp t,by simpa using hx,rfl⟩)))]
   exact zer x
  have h1:AY P oi { s with rows:=z.rows s.rows } y:=by
   rw[hzr,puts_AY hw,puts_step hw hka hkd hkx r',puts_AYf hw hka hkd hkx r',← puts_AY hw]
   exact hy
  exact AY_congr (s:={ s with rows:=z.rows s.rows }) (by rw[zar]) (fun x hx=>by rw[tmi x hx];exact (zer x).symm) h1
 ·exact .inr ⟨by rw[wi];exact hw',hy⟩
end
def defAt:List Oper→Nat→Nat→Option Nat
 | [],_,_=>none
 | o::l,i,t=>if o.dst=some t then some i else defAt l (i+1) t
def defOf (ops:Array Oper) (t:Nat):Option Nat:=defAt ops.toList 0 t
theorem defAt_spec {t:Nat}:∀ {l:List Oper}{i j:Nat},defAt l i t=some j→i≤j∧∃ o,l[j-i]? = some o∧o.dst=some t
 | [],_,_,h=>by simp [defAt] at h
 | o::l, i, j, h=>by
   unfold defAt at h
   split at h
   ·rename_i e
    injection h with h;subst h
    exact⟨Nat.le_refl _,o,by simp,e⟩
   ·obtain⟨h1,o',h2,h3⟩:=defAt_spec h
    refine⟨by omega,o',?_,h3⟩
    rw[show j-i=(j-(i+1))+1 from by omega]
    simpa using h2
theorem defAt_none {t:Nat}:∀ {l:List Oper}{i:Nat},defAt l i t=none→∀ o∈l,o.dst≠some t
 | [],_,_,o,ho=>by simp at ho
 | o'::l, i, h, o, ho=>by
   unfold defAt at h
   split at h
   ·cases h
   ·rename_i e
    rcases List.mem_cons.1 ho with rfl|ho
    ·exact e
    ·exact defAt_none h o ho
theorem defOf_some {ops:Array Oper}{t j:Nat}(h:defOf ops t=some j):∃ o,ops[j]? = some o∧o.dst=some t:=by
 obtain⟨_,o,h1,h2⟩:=defAt_spec h
 exact⟨o,by simpa using h1,h2⟩
theorem defOf_none {ops:Array Oper}{t j:Nat}{o:Oper}(h:defOf ops t=none) (ho:ops[j]? = some o):o.dst≠some t:=by
 obtain⟨hi,rfl⟩:=Array.getElem?_eq_some_iff.1 ho
 exact defAt_none h _ (by simp)
def steady (o:Oper):Option Operand :=
 if o.guard.isSome then none else
 match o.op with
 | .fieldAddr _ x _=>some x
 | .indexAddr _ x _=>some x
 | .nilCheck x=>some x
 | .move x=>some x
 | _=>none
def plainOf (o:Oper):Option Operand :=
 if o.guard.isSome then none else
 match o.op with
 | .load _ a=>some a
 | _=>none
def sure (o:Oper):Bool:=o.guard.isNone&&(match o.op with | .buildSlice _ _ _=>true | .binOp ..=>true | .build _ _=>true|_=>false)
def lookK:List (Nat × Option Nat)→Nat→Option (Option Nat)
 | [],_=>none
 | (t,k)::l,u=>if u=t then some k else lookK l u
def freshOf (o:Oper):Option (Option Nat):=if o.guard.isSome then none else match o.op,o.dst with | .alloc _,some d=>some (some d)|_,_=>none
def apnd (o:Oper):Option (Operand × Nat) :=
 if o.guard.isSome then none else
 match o.op,o.dst with
 | .call ⟨.builtin .append,args,ts⟩,some d=>match args.toList,ts.toList with|[x,_],[t,t']=>if t=t' then some (x,d) else none|_,_=>none
 | _,_=>none
def outKey (ops:Array Oper) (κ:List (Nat × Option Nat)):Nat→Nat→Option (Option Nat)
 | 0,_=>none
 | n+1, e =>
   let inKey (u:Nat):Option (Option Nat):=match defOf ops u with
    | none=>lookK κ u
    | some e'=>if (deps ops e).contains e' then outKey ops κ n e' else if waits ops ops.size e' e then lookK κ u else none
   match ops[e]? with
   | some o=>match steady o with
     | some (.tmp u)=>inKey u
     | _=>match plainOf o with
       | some (.tmp u)=>match inKey u with|some none=>some none|_=>none
       | _=>if sure o then some none else match apnd o with
         | some (.tmp u,d)=>(match inKey u with|some (some key)=>some (some key)|_=>none)
         | _=>freshOf o
   | none=>none
def inKey (ops:Array Oper) (κ:List (Nat × Option Nat)) (n j u:Nat):Option (Option Nat):=match defOf ops u with
 | none=>lookK κ u
 | some e=>if (deps ops j).contains e then outKey ops κ n e else if waits ops ops.size e j then lookK κ u else none
def clear (ops:Array Oper) (κ:List (Nat × Option Nat)) (j k:Nat):List Operand→Bool
 | []=>true
 | .tmp t::xs=>(match inKey ops κ ops.size j t with|some k1=>k1 != some k|none=>false)&&clear ops κ j k xs
 | _::xs=>clear ops κ j k xs
def wkey (ops:Array Oper) (κ:List (Nat × Option Nat)) (j:Nat) (a:Operand × Option Nat):Option Nat :=
 match a.1 with
 | .tmp u=>match inKey ops κ ops.size j u with|some key=>wrow key a.2|none=>none
 | .const _=>a.2
 | _=>none
def rdOk (ops:Array Oper) (κ:List (Nat × Option Nat)) (i j:Nat):Bool :=
 match ops[i]?,ops[j]? with
 | some x, some y =>
   x.apart ops y&&(
    (match reads x,writes y with
    | some xs,some a=>match wkey ops κ j a with|some k=>clear ops κ i k xs|none=>false
    | _,_=>false) ||
    (match writes x,reads y with
    | some a,some xs=>match wkey ops κ i a with|some k=>clear ops κ j k xs|none=>false
    | _,_=>false) ||
    (match makes x,puts y with
    | some d,some (a,dd,v)=>(match wkey ops κ j (a,dd) with|some k=>decide (k≠d)&&clear ops κ j d [v]|none=>false)
    | _,_=>false) ||
    (match puts x,makes y with
    | some (a,dd,v),some d=>(match wkey ops κ i (a,dd) with|some k=>decide (k≠d)&&clear ops κ i d [v]|none=>false)
    | _,_=>false) ||
    (verOnly x&&isStore y) || (isStore x&&verOnly y))
 | _,_=>false
def uniq:List Oper→Bool
 | []=>true
 | o::l=>(match o.dst with|some t=>l.all fun o'=>o'.dst != some t|none=>true)&&uniq l
def lexOk2 (ops:Array Oper) (κ:List (Nat × Option Nat)):Bool :=
 uniq ops.toList &&
 (List.range ops.size).all fun i=>(deps ops i).all (fun e=>decide (e<i)) &&
  (List.range ops.size).all fun j=>!decide (i<j) || waits ops ops.size j i ||
   (match ops[i]?,ops[j]? with|some x,some y=>okPair ops x y|_,_=>true) || rdOk ops κ i j
def keysOk (κ:List (Nat × Option Nat)) (s:AS):Prop:=∀ p∈κ,keyOf (s.tm p.1)=p.2
section
variable {P:Program}{s:AS}{ops:Array Oper}{κ:List (Nat × Option Nat)}
theorem lookK_mem:∀ {l:List (Nat × Option Nat)}{t:Nat}{k:Option Nat},lookK l t=some k→(t,k)∈l
 | [],_,_,h=>by simp [lookK] at h
 | (u, k')::l, t, k, h=>by
   unfold lookK at h
   split at h
   ·rename_i e;subst e;injection h with h;subst h;simp
   ·simp [lookK_mem h]
theorem uniq_spec:∀ {l:List Oper}{i j:Nat}{x y:Oper}{t:Nat},uniq l=true→l[i]? = some x→l[j]? = some y→x.dst=some t→y.dst=some t→i=j
 | [],_,_,_,_,_,_,h,_,_,_=>by simp at h
 | o::l, i, j, x, y, t, hu, hi, hj, hx, hy=>by
   simp only[uniq,Bool.and_eq_true] at hu
   have one:∀ {j:Nat}{x y:Oper},x.dst=some t→o=x→l[j]? = some y→y.dst=some t→False:=fun hx e hj hy=>by
    subst e
    have h1:=hu.1
    rw[hx] at h1
    have:=List.all_eq_true.1 h1 _ (List.mem_of_getElem? hj)
    simp [hy] at this
   cases i with
   | zero =>
     cases j with
     | zero=>rfl
     | succ j =>
       simp only[List.getElem?_cons_zero,Option.some.injEq,List.getElem?_cons_succ] at hi hj
       exact (one hx hi hj hy).elim
   | succ i =>
     cases j with
     | zero =>
       simp only[List.getElem?_cons_zero,Option.some.injEq,List.getElem?_cons_succ] at hi hj
       exact (one hy hj hi hx).elim
     | succ j =>
       simp only[List.getElem?_cons_succ] at hi hj
       rw[uniq_spec hu.2 hi hj hx hy]
def Told (ops:Array Oper) (κ:List (Nat × Option Nat)) (listed:Array Bool) (s:AS):Prop :=
 (∀ t k,lookK κ t=some k→(∀ e o,ops[e]? = some o→o.dst=some t→listed.getD e false=false)→keyOf (s.tm t)=k) ∧
 ∀ n e t k,defOf ops t=some e→listed.getD e false=true→outKey ops κ n e=some k→keyOf (s.tm t)=k
theorem told_start (h:keysOk κ s) {listed:Array Bool}(hl:∀ j,j<ops.size→listed.getD j false=false):Told ops κ listed s:=⟨fun t k hk _=>h _ (lookK_mem hk),fun n e t k hd hj _=>by
 obtain⟨o,ho,_⟩:=defOf_some hd
 have:e<ops.size:=(Array.getElem?_eq_some_iff.1 ho).1
 rw[hl e this] at hj;cases hj⟩
theorem told_in (hu:uniq ops.toList=true) {listed:Array Bool}(h:Told ops κ listed s) (hdown:down ops listed) {n j u:Nat}{k:Option Nat}(hr:j∈Region.ready .any ops listed) (hk:inKey ops κ n j u=some k):keyOf (s.tm u)=k:=by
 unfold inKey at hk
 split at hk
 ·rename_i hd
  exact h.1 u k hk fun e o ho hdst=>absurd hdst (defOf_none hd ho)
 ·rename_i e hd
  split at hk
  ·rename_i hc
   exact h.2 n e u k hd (ready_deps hr e (by simpa using hc)) hk
  ·split at hk
   ·rename_i hw
    refine h.1 u k hk fun e' o ho hdst=>?_
    obtain⟨o',ho',hdst'⟩:=defOf_some hd
    have:e'=e:=uniq_spec hu (by simpa using ho) (by simpa using ho') hdst hdst'
    subst this
    refine Bool.eq_false_iff.2 fun hl=>?_
    have h2:=waits_listed hdown _ _ _ (hdown _ hl) hw
    have h3:=(mem_ready.1 hr).1
    rcases Nat.lt_or_ge j listed.size with h'|h'
    ·simp [h'] at h2 h3;rw[h3] at h2;cases h2
    ·simp [Array.getElem?_eq_none h'] at h2
   ·cases hk
theorem steady_key {o:Oper}{x:Operand}(h:steady o=some x) {y:Yi}(hy:AY P o s y):keyOf y.av=keyOf (s.ev x):=by
 unfold steady at h
 split at h
 ·cases h
 ·unfold AY at hy
  split at h<;>rename_i ho<;>first
   | (injection h with h;subst h)
   | (cases h;done)
  all_goals
   split at hy
   ·rename_i ho';rw[ho] at ho';cases ho'
   ·rcases hy with hy|hy
    case inr=>exact (hy.no (by simp [isApp,ho])).elim
    obtain⟨hp,rfl⟩:=rx_no hy (by simp [isBS,ho])
    simp only[step,ho] at hp ⊢
    first
     | (unfold sField at hp ⊢;(repeat' split at hp)<;>first|(simp only[*];rfl)|exact hp.elim)
     | (unfold sIndex at hp ⊢;(repeat' split at hp)<;>first|(simp only[*];rfl)|exact hp.elim)
     | (unfold sNil at hp ⊢;(repeat' split at hp)<;>first|(simp only[*];rfl)|exact hp.elim)
     | rfl
theorem steady_guard {o:Oper}{x:Operand}(h:steady o=some x):o.guard=none:=by
 unfold steady at h
 split at h
 ·cases h
 ·rename_i hg;simpa using hg
theorem plain_guard {o:Oper}{x:Operand}(h:plainOf o=some x):o.guard=none:=by
 unfold plainOf at h
 split at h
 ·cases h
 ·rename_i hg;simpa using hg
theorem plain_key {o:Oper}{x:Operand}(h:plainOf o=some x) {y:Yi}(hx:keyOf (s.ev x)=none) (hy:AY P o s y):keyOf y.av=none:=by
 unfold plainOf at h
 split at h
 ·cases h
 ·unfold AY at hy
  split at h<;>rename_i ho<;>first
   | (injection h with h;subst h)
   | (cases h;done)
  split at hy
  ·rename_i ho';rw[ho] at ho';cases ho'
  ·rcases hy with hy|hy
   case inr=>exact (hy.no (by simp [isApp,ho])).elim
   obtain⟨hp,rfl⟩:=rx_no hy (by simp [isBS,ho])
   simp only[step,ho] at hp ⊢
   unfold sLoad at hp ⊢
   split at hp
   ·rfl
   ·rename_i e;rw[e] at hx;cases hx
   ·rename_i e;rw[e] at hx;cases hx
   ·exact hp.elim
theorem sure_guard {o:Oper}(h:sure o=true):o.guard=none:=by
 simp only[sure,Bool.and_eq_true,Option.isNone_iff_eq_none] at h
 exact h.1
theorem fresh_guard {o:Oper}{k:Option Nat}(h:freshOf o=some k):o.guard=none:=by
 unfold freshOf at h
 split at h
 ·cases h
 ·rename_i hg;simpa using hg
theorem fresh_key {o:Oper}{k:Option Nat}(h:freshOf o=some k) {y:Yi}(hy:AY P o s y):keyOf y.av=k:=by
 unfold freshOf at h
 split at h
 ·cases h
 ·split at h
  ·rename_i ho hd
   injection h with h
   subst h
   unfold AY at hy
   split at hy
   ·rename_i ho';rw[ho] at ho';cases ho'
   ·rcases hy with hy|hy
    case inr=>exact (hy.no (by simp [isApp,ho])).elim
    obtain⟨hp,rfl⟩:=rx_no hy (by simp [isBS,ho])
    simp only[step,ho,hd,Option.getD_some] at hp ⊢
    unfold sAlloc at hp ⊢
    split
    ·rfl
    ·rename_i e;rw[e] at hp;exact hp.elim
  ·cases h
theorem sure_key {o:Oper}(h:sure o=true) {y:Yi}(hy:AY P o s y):keyOf y.av=none:=by
 simp only[sure,Bool.and_eq_true] at h
 have h:=h.2
 unfold AY at hy
 split at h
 ·rename_i ho
  split at hy
  ·rename_i ho';rw[ho] at ho';cases ho'
  ·rcases hy with hy|hy
   case inr=>exact (hy.no (by simp [isApp,ho])).elim
   rcases hy with⟨hp,rfl|⟨_,_,_,_,_,rfl⟩⟩
   rotate_left
   ·rfl
   simp only[step,ho] at hp ⊢
   unfold sBuildSlice at hp ⊢
   split at hp
   ·split
    ·rfl
    ·split
     ·rfl
     ·rfl
   ·exact hp.elim
 ·rename_i ho
  split at hy
  ·rename_i ho';rw[ho] at ho';cases ho'
  ·rcases hy with hy|hy
   case inr=>exact (hy.no (by simp [isApp,ho])).elim
   obtain⟨hp,rfl⟩:=rx_no hy (by simp [isBS,ho])
   simp only[step,ho] at hp ⊢
   unfold sBin sEq at hp ⊢
   (repeat' split at hp)<;>first|rfl|exact hp.elim
 ·rename_i ho
  split at hy
  ·rename_i ho';rw[ho] at ho';cases ho'
  ·rcases hy with hy|hy
   case inr=>exact (hy.no (by simp [isApp,ho])).elim
   obtain⟨hp,rfl⟩:=rx_no hy (by simp [isBS,ho])
   simp only[step,ho] at hp ⊢
   unfold sBuild at hp ⊢
   (repeat' split at hp)<;>first|rfl|exact hp.elim
 ·cases h
theorem apnd_guard {o:Oper}{x:Operand}{d:Nat}(h:apnd o=some (x,d)):o.guard=none:=by
 unfold apnd at h
 split at h
 ·cases h
 ·rename_i hg
  cases hgo:o.guard with
  | none=>rfl
  | some g=>simp [hgo] at hg
theorem apnd_key {o:Oper}{x:Operand}{d key:Nat}(h:apnd o=some (x,d)) {y:Yi}(hy:AY P o s y) (hkey:keyOf (s.ev x)=some key):keyOf y.av=some key:=by
 rw[← show wrow (keyOf (s.ev x)) (some d)=some key by rw[hkey];rfl]
 unfold apnd at h
 split at h
 ·cases h
 ·split at h
  ·rename_i args ts d' ho hd
   split at h
   ·rename_i x' y' t t' hx ht
    split at h
    ·rename_i htt
     injection h with h;injection h with h1 h2;subst h1;subst h2;subst htt
     unfold AY at hy
     split at hy
     ·rename_i ho';rw[ho] at ho';cases ho'
     ·rcases hy with hy|hy
      case inr =>
       obtain⟨x2,z2,t2,d2,rv2,q1,q2,q3,⟨b2,q4⟩,q6,_⟩:=hy
       rw[ho] at q1
       injection q1 with q1;injection q1 with _ q1 _
       subst q1
       injection hx with hx _
       subst hx
       rw[q4] at hkey
       cases hkey
      obtain⟨hp,rfl⟩:=rx_no hy (by simp [isBS,ho])
      simp only[step,ho,hd,hx,ht,List.map_cons,List.map_nil,sBuiltin,if_true,Option.getD_some] at hp ⊢
      unfold sAppend at hp ⊢
      split at hp
      ·rename_i e _
       rw[e];rfl
      ·rename_i e _
       rw[e];rfl
      ·rename_i k n sz0 off m _ _ _ _ e _
       rw[e]
       split at hp
       ·rfl
       ·split<;>rfl
       ·exact hp.elim
      ·exact hp.elim
    ·cases h
   ·cases h
  ·cases h
theorem told_step (hu:uniq ops.toList=true) {listed:Array Bool}(h:Told ops κ listed s) (hdown:down ops listed) {j:Nat}{o:Oper}(ho:ops[j]? = some o) (hr:j∈Region.ready .any ops listed) {y:Yi}(hy:YieldsA P ops o y s) :
 Told ops κ (listed.setIfInBounds j true) (s.app o.dst y):=by
 have htm:∀ t,o.dst≠some t→(s.app o.dst y).tm t=s.tm t:=fun t hne=>by
  rw[app_tm]
  cases hod:o.dst with
  | none=>rfl
  | some d=>exact zuo _ _ (fun e=>hne (by rw[hod,e]))
 have hjl:j<listed.size:=by
  refine Decidable.byContradiction fun hn=>?_
  have h3:=(mem_ready.1 hr).1
  simp [Array.getElem?_eq_none (Nat.le_of_not_lt hn)] at h3
 refine⟨fun t k hk hno=>?_,fun n e t k hd he hk=>?_⟩
 ·have hne:o.dst≠some t:=fun e=>by
   have:=hno j o ho e
   simp [hjl] at this
  rw[htm t hne]
  refine h.1 t k hk fun e' o' ho' hd'=>?_
  have hej:j≠e':=fun e=>by subst e;rw[ho] at ho';injection ho' with ho';subst ho';exact hne hd'
  have:=hno e' o' ho' hd'
  rwa [getD_set_ne false hej] at this
 ·obtain⟨o',ho',hdst⟩:=defOf_some hd
  by_cases hej:e=j
  ·subst hej
   rw[ho] at ho';injection ho' with ho';subst ho'
   cases n with
   | zero=>simp [outKey] at hk
   | succ n =>
     have hin:∀ {u:Nat}{k:Option Nat},inKey ops κ n e u=some k→keyOf (s.tm u)=k:=fun hk=>told_in hu h hdown hr hk
     have hk':(match steady o with
      | some (.tmp u)=>inKey ops κ n e u
      | _=>match plainOf o with
        | some (.tmp u)=>match inKey ops κ n e u with|some none=>some none|_=>none
        | _=>if sure o then some none else match apnd o with
          | some (.tmp u,d)=>(match inKey ops κ n e u with|some (some key)=>some (some key)|_=>none)
          | _=>freshOf o)=some k:=by
      unfold outKey at hk
      rw[ho] at hk
      exact hk
     clear hk
     rw[app_tm,hdst]
     show keyOf (upd s.tm t y.av t)=k
     rw[zus]
     split at hk'
     ·rename_i u hs
      rcases hy with⟨_,hy,_⟩|⟨hw,_⟩
      ·rw[steady_key hs hy];exact hin hk'
      ·simp [wantA,steady_guard hs] at hw
     ·split at hk'
      ·rename_i u hs
       split at hk'
       ·rename_i hu0
        injection hk' with hk';subst hk'
        rcases hy with⟨_,hy,_⟩|⟨hw,_⟩
        ·exact plain_key hs (hin hu0) hy
        ·simp [wantA,plain_guard hs] at hw
       ·cases hk'
      ·split at hk'
       ·rename_i hsu
        injection hk' with hk';subst hk'
        rcases hy with⟨_,hy,_⟩|⟨hw,_⟩
        ·exact sure_key hsu hy
        ·simp [wantA,sure_guard hsu] at hw
       ·split at hk'
        ·rename_i u d hap
         split at hk'
         ·rename_i key hkey
          injection hk' with hk';subst hk'
          rcases hy with⟨_,hy,_⟩|⟨hw,_⟩
          ·exact apnd_key hap hy (hin hkey)
          ·simp [wantA,apnd_guard hap] at hw
         ·cases hk'
        ·rcases hy with⟨_,hy,_⟩|⟨hw,_⟩
         ·exact fresh_key hk' hy
         ·simp [wantA,fresh_guard hk'] at hw
  ·have hne:o.dst≠some t:=fun hod=>hej (uniq_spec hu (by simpa using ho') (by simpa using ho) hdst hod)
   rw[htm t hne]
   refine h.2 n e t k hd ?_ hk
   rw[getD_set_ne false (Ne.symm hej)] at he;exact he
theorem clear_told (hu:uniq ops.toList=true) {listed:Array Bool}(h:Told ops κ listed s) (hdown:down ops listed) {j k:Nat}(hr:j∈Region.ready .any ops listed):∀ {xs:List Operand},clear ops κ j k xs=true→∀ x∈xs,keyOf (s.ev x)≠some k
 | [],_,x,hx=>by simp at hx
 | y::xs, hc, x, hx=>by
   cases y with
   | tmp t =>
     simp only[clear,Bool.and_eq_true] at hc
     rcases List.mem_cons.1 hx with rfl|hx
     ·have h2:=hc.1
      split at h2
      ·rename_i k1 e1
       show keyOf (s.tm t)≠some k
       rw[told_in hu h hdown hr e1]
       simpa using h2
      ·cases h2
     ·exact clear_told hu h hdown hr hc.2 x hx
   | const v =>
     simp only[clear] at hc
     rcases List.mem_cons.1 hx with rfl|hx
     ·simp [AS.ev,keyOf]
     ·exact clear_told hu h hdown hr hc x hx
   | global g =>
     simp only[clear] at hc
     rcases List.mem_cons.1 hx with rfl|hx
     ·simp [AS.ev,keyOf]
     ·exact clear_told hu h hdown hr hc x hx
   | func f =>
     simp only[clear] at hc
     rcases List.mem_cons.1 hx with rfl|hx
     ·simp [AS.ev,keyOf]
     ·exact clear_told hu h hdown hr hc x hx
theorem wkey_told (hu:uniq ops.toList=true) {listed:Array Bool}(h:Told ops κ listed s) (hdown:down ops listed) {j k:Nat}{a:Operand × Option Nat}(hr:j∈Region.ready .any ops listed) (hk:wkey ops κ j a=some k):wrow (keyOf (s.ev a.1)) a.2=some k:=by
 obtain⟨a,d⟩:=a
 unfold wkey at hk
 dsimp only at hk
 split at hk
 ·rename_i u
  split at hk
  ·rename_i key e1
   show wrow (keyOf (s.tm u)) d=some k
   rw[told_in hu h hdown hr e1]
   exact hk
  ·cases hk
 ·exact hk
 ·cases hk
theorem anyA_first2 {Q:AS→Prop}{n i:Nat}{oi:Oper}{y:Yi}(hu:uniq ops.toList=true) (hi:ops[i]? = some oi) (hdst:dstOk ops n=true) :
 ∀ (fuel:Nat) (listed:Array Bool) (s:AS),s.n=n→NE s→down ops listed→Told ops κ listed s →
 (∀ j oj,ops[j]? = some oj→j≠i→listed.getD j true=false→waits ops ops.size j i=false→okPair ops oi oj=true∨rdOk ops κ i j=true) →
 i∈Region.ready .any ops listed→YieldsA P ops oi y s→anyA P ops Q fuel (listed.setIfInBounds i true) (s.app oi.dst y)→anyA P ops Q (fuel+1) listed s:=by
 intro fuel
 induction fuel with
 | zero =>
   intro listed s hn hne hdown _ _ hr hy H
   refine⟨fun h=>(by rw[h] at hr;cases hr),fun j hj=>?_⟩
   by_cases hji:j=i
   ·subst hji;unfold qA;rw[hi];exact⟨y,hy,H⟩
   ·have:=ready_mono hj hji
    rw[H.1] at this
    cases this
 | succ fuel ih =>
   intro listed s hn hne hdown htold hfree hr hy H
   refine⟨fun h=>(by rw[h] at hr;cases hr),fun j hj=>?_⟩
   by_cases hji:j=i
   ·subst hji;unfold qA;rw[hi];exact⟨y,hy,H⟩
   ·have h1:=H.2 j (ready_mono hj hji)
    obtain⟨hjun,oj,hoj,_⟩:=mem_ready.1 hj
    have hjun':listed.getD j true=false:=hjun
    have hnw:waits ops ops.size j i=false:=by
     refine Decidable.byContradiction fun hw=>?_
     have hw:waits ops ops.size j i=true:=by simpa using hw
     have h2:=waits_listed hdown _ _ _ (ready_deps hj) hw
     have h3:=(mem_ready.1 hr).1
     rcases Nat.lt_or_ge i listed.size with h'|h'
     ·simp [h'] at h2 h3;rw[h3] at h2;cases h2
     ·simp [Array.getElem?_eq_none h'] at h2
    have hpair:=hfree j oj hoj hji hjun' hnw
    unfold qA at h1 ⊢
    rw[hoj] at h1 ⊢
    obtain⟨z,hz,hK⟩:=h1
    have hex:YieldsA P ops oj z s∧YieldsA P ops oi y (s.app oj.dst z)∧(s.app oj.dst z).app oi.dst y=(s.app oi.dst y).app oj.dst z:=by
     rcases hpair with hpair|hpair
     ·exact exchange hpair hne hy hz
     ·unfold rdOk at hpair
      simp only[hi,hoj,Bool.and_eq_true,Bool.or_eq_true] at hpair
      obtain⟨hap,hpair⟩:=hpair
      rcases hpair with ((((hpair|hpair)|hpair)|hpair)|hpair)|hpair
      rotate_left 4
      ·exact exchange2v hap hpair.1 hpair.2 hy hz
      ·exact exchange3v hap hpair.2 hpair.1 hy hz
      ·split at hpair
       ·rename_i xs a hrd hwr
        split at hpair
        ·rename_i k hk
         exact exchange2 hap hrd hwr (k:=k) (wkey_told hu htold hdown hj hk) (clear_told hu htold hdown hr hpair) hy hz
        ·cases hpair
       ·cases hpair
      ·split at hpair
       ·rename_i a xs hwr hrd
        split at hpair
        ·rename_i k hk
         exact exchange3 hap hrd hwr (k:=k) (wkey_told hu htold hdown hr hk) (clear_told hu htold hdown hj hpair) hy hz
        ·cases hpair
       ·cases hpair
      ·split at hpair
       ·rename_i d a dd v hmk hst
        split at hpair
        ·rename_i k hk
         simp only[Bool.and_eq_true,decide_eq_true_eq] at hpair
         exact exchange4 hap hmk hst (k:=k) (wkey_told hu htold hdown hj hk) hpair.1 (clear_told hu htold hdown hj hpair.2 v (by simp)) hy hz
        ·cases hpair
       ·cases hpair
      ·split at hpair
       ·rename_i a dd v d hst hmk
        split at hpair
        ·rename_i k hk
         simp only[Bool.and_eq_true,decide_eq_true_eq] at hpair
         exact exchange5 hap hmk hst (k:=k) (wkey_told hu htold hdown hr hk) hpair.1 (clear_told hu htold hdown hr hpair.2 v (by simp)) hy hz
        ·cases hpair
       ·cases hpair
    obtain⟨hz',hy',heq⟩:=hex
    refine⟨z,hz',?_⟩
    refine ih (listed.setIfInBounds j true) (s.app oj.dst z) (by rw[app_n];exact hn) (hne.app hz' (by rw[hn];exact dstOk_get hdst hoj)) (down_set hdown hj) (told_step hu htold hdown hoj hj hz') (fun k ok hk hki hun hno=>?_) (ready_mono hr (Ne.symm hji)) hy' ?_
    ·refine hfree k ok hk hki ?_ hno
     by_cases hjk:j=k
     ·subst hjk;exact hjun'
     ·rw[getD_set_ne true hjk] at hun;exact hun
    ·rw[Array.setIfInBounds_comm _ _ hji,heq]
     exact hK
theorem lexOk2_spec (h:lexOk2 ops κ=true):uniq ops.toList=true∧∀ i,i<ops.size→(∀ e∈deps ops i,e<i)∧∀ j,i<j→j<ops.size→waits ops ops.size j i=false→∀ x y,ops[i]? = some x→ops[j]? = some y→okPair ops x y=true∨rdOk ops κ i j=true:=by
 unfold lexOk2 at h
 simp only[Bool.and_eq_true] at h
 obtain⟨h1,h⟩:=h
 refine⟨h1,fun i hi=>?_⟩
 have:=List.all_eq_true.1 h i (by simpa using hi)
 simp only[Bool.and_eq_true,List.all_eq_true,decide_eq_true_eq] at this
 refine⟨this.1,fun j hij hj hw x y hx hy=>?_⟩
 have h2:=this.2 j (by simpa using hj)
 rw[hx,hy] at h2
 simpa [hij,hw] using h2
theorem anyA_lex2 {Q:AS→Prop}{n:Nat}(hB:lexOk2 ops κ=true) (hdst:dstOk ops n=true):∀ (l:List Oper) (k:Nat) (listed:Array Bool) (s:AS),(∀ j,l[j]? = ops[k+j]?)→k+l.length=ops.size→listed.size=ops.size →
 (∀ j,j<ops.size→listed.getD j false=decide (j<k))→s.n=n→NE s→Told ops κ listed s→lexA P ops Q l s→anyA P ops Q l.length listed s
 | [], k, listed, s, _, hlen, hsz, hl, _, _, _, h=>by
   refine⟨?_,h⟩
   refine List.eq_nil_iff_forall_not_mem.2 fun j hj=>?_
   obtain⟨h1,o,ho,_⟩:=mem_ready.1 hj
   have hj':j<ops.size:=(Array.getElem?_eq_some_iff.1 ho).1
   have h2:=hl j hj'
   simp only[List.length_nil,Nat.add_zero] at hlen
   have hjl:j<listed.size:=by omega
   simp [hjl] at h1 h2
   rw[h1] at h2
   have:j<k:=by omega
   simp [this] at h2
 | o::l, k, listed, s, hlk, hlen, hsz, hl, hn, hne, htold, h=>by
   simp only[List.length_cons] at hlen
   have hk:k<ops.size:=by omega
   have ho:ops[k]? = some o:=by simpa using (hlk 0).symm
   obtain⟨hu,hsp⟩:=lexOk2_spec hB
   obtain⟨hdeps,hpairs⟩:=hsp k hk
   obtain⟨y,hy,hrest⟩:=h
   have hunk:listed.getD k false=false:=by rw[hl k hk];simp
   have hsame:∀ j,j<ops.size→listed.getD j true=listed.getD j false:=fun j hj=>by
    have:j<listed.size:=by omega
    simp [this]
   have hready:k∈Region.ready .any ops listed:=by
    refine mem_ready.2 ⟨by rw[hsame k hk];exact hunk,o,ho,fun e he hb=>?_⟩
    have:e.on<k:=hdeps e.on (by unfold deps;rw[ho];exact List.mem_map.2 ⟨e,List.mem_filter.2 ⟨by simpa using he,hb⟩,rfl⟩)
    rw[hl e.on (by omega)];simpa using this
   have hdown:down ops listed:=fun j hj e he=>by
    by_cases hjs:j<ops.size
    ·rw[hl j hjs] at hj
     have hjk:j<k:=by simpa using hj
     have:=(hsp j hjs).1 e he
     rw[hl e (by omega)];simp;omega
    ·have:¬ j<listed.size:=by omega
     simp [Array.getElem?_eq_none (Nat.le_of_not_lt this)] at hj
   refine anyA_first2 hu ho hdst l.length listed s hn hne hdown htold (fun j oj hj hjk hun hw=>?_) hready hy ?_
   ·have hj':j<ops.size:=(Array.getElem?_eq_some_iff.1 hj).1
    rw[hsame j hj',hl j hj'] at hun
    have:k<j:=by simp at hun;omega
    exact hpairs j this hj' hw o oj ho hj
   ·refine anyA_lex2 hB hdst l (k+1) _ _ (fun j=>by have:=hlk (j+1);simpa [Nat.add_assoc,Nat.add_comm 1 j] using this) (by omega) (by simpa using hsz) (fun j hj=>?_) (by rw[app_n];exact hn) (hne.app hy (by rw[hn];exact dstOk_get hdst ho))
     (told_step hu htold hdown ho hready hy) hrest
    by_cases hjk:k=j
    ·subst hjk
     have:k<listed.size:=by omega
     simp [this]
    ·rw[getD_set_ne false hjk,hl j hj]
     simp;omega
theorem region_draw2 {C:Ctx}{id:Nat}{a:Act}{w:World}{Q:AS→Prop}{Q':Exit→Act→World→Prop}(hm:P.follows .mixedOrders=true) (hB:lexOk2 ops κ=true) (hd:dstOk ops s.n=true) (hk:keysOk κ s)
 (hs:SRel C s a w) (hQ:∀ s a w,Q s→SRel C s a w→Q' .normal a w) (h:lexA P ops Q ops.toList s):(Code.region id ops true).wpIn (fnc C.rd) 0 P Q' a w:=by
 obtain⟨p,hs⟩:=hs
 have hs':SR C p s a { w with drawn:=w.drawn+1 }:=hs.below (w':=w.drew) ((Below.refl _ _).drew) (fun _ h=>h) (fun _ h=>.inl h) hs.rb
 refine wpIn_region_any hm (anyA_sound hQ _ _ _ _ _ p hd ?_ hs')
 have:=anyA_lex2 (n:=s.n) hB hd ops.toList 0 (Array.replicate ops.size false) s (by simp) (by simp) (by simp) (fun j hj=>by simp [hj]) rfl ⟨C,p,a,w,hs⟩ (told_start hk fun j hj=>by simp [hj]) h
 simpa using this
theorem awp_draw2 {C:Ctx}{Q:Exit→AS→Prop}{id:Nat}{l:List Oper}(hm:P.follows .mixedOrders=true) (hB:lexOk2 l.toArray κ=true) (hd:dstOk l.toArray s.n=true) (hk:keysOk κ s) (h:aops P true l.toArray l (Q .normal) s) :
 awp P C (.region id l.toArray true) Q s:=fun a w hs=>by
 obtain⟨p,hp⟩:=hs
 exact region_draw2 hm hB hd hk ⟨p,hp⟩ (fun s a w hq hs=>⟨s,hs,hq⟩) (aops_lex l s hd ⟨C,p,a,w,hp⟩ h)
theorem awp_dreg2 {C:Ctx}{Q:Exit→AS→Prop}{id:Nat}{l:List Oper}(κ:List (Nat × Option Nat)) (hm:P.follows .mixedOrders=true) (hB:lexOk2 l.toArray κ=true) (hd:dstOk l.toArray s.n=true) (hk:keysOk κ s)
 (h:∀ K:AS→Prop,(∀ s,Q .normal s→K s)→aops P true l.toArray l K s):awp P C (.region id l.toArray true) Q s:=awp_draw2 hm hB hd hk (h _ fun _ h=>h)
end
end Go.Oc

namespace Go.Oc
open Go Go.RowKit
def boxRow (s:AS) (k:Nat):Prop:=∃ cs,(s.rows k).c = .box cs
section
variable {P:Program}{s:AS}{ops:Array Oper}
theorem boxRow_upd {f:Nat→Row}{k j:Nat}{r:Row}(h:∃ cs,(f k).c = .box cs) (hr:j=k→∃ cs,r.c = .box cs):∃ cs,(upd f j r k).c = .box cs:=by
 by_cases e:k=j
 ·subst e;rw[zus];exact hr rfl
 ·rw[zuo _ _ e];exact h
def appends (o:Oper):Option (Operand × Nat × Operand) :=
 if o.guard.isSome then none else
 match o.op,o.dst with
 | .call ⟨.builtin .append,args,ts⟩,some d=>match args.toList,ts.toList with|[x,y],[t,t']=>if t=t' then some (x,d,y) else none|_,_=>none
 | _,_=>none
theorem appends_puts {o:Oper}{a x:Operand}{d:Nat}(h:appends o=some (a,d,x)):puts o=some (a,some d,x)∧o.dst=some d∧o.guard=none:=by
 unfold appends at h
 split at h
 ·cases h
 ·rename_i hg
  have hgn:o.guard=none:=by
   cases hgo:o.guard with
   | none=>rfl
   | some g=>simp [hgo] at hg
  split at h
  ·rename_i args ts d' ho hd
   split at h
   ·rename_i x' y' t t' hx ht
    split at h
    ·rename_i htt
     injection h with h;injection h with h1 h2;injection h2 with h2 h3;subst h1;subst h2;subst h3;subst htt
     refine⟨?_,hd,hgn⟩
     unfold puts
     simp only[ho,hx,ht,if_true,hd,Option.getD_some]
    ·cases h
   ·cases h
  ·cases h
theorem append_row {o:Oper}{a x:Operand}{d:Nat}(h:appends o=some (a,d,x)) {y:Yi}(hy:AY P o s y):∃ k,wrow (keyOf (s.ev a)) (some d)=some k∧(k=d∨∀ cs,(s.rows k).c ≠ .box cs):=by
 unfold appends at h
 split at h
 ·cases h
 ·split at h
  ·rename_i args ts d' ho hd
   split at h
   ·rename_i x' y' t t' hx ht
    split at h
    ·rename_i htt
     injection h with h;injection h with h1 h2;injection h2 with h2 h3;subst h1;subst h2;subst h3;subst htt
     unfold AY at hy
     split at hy
     ·rename_i ho';rw[ho] at ho';cases ho'
     ·rcases hy with hy|hy
      case inr =>
       obtain⟨x2,z2,t2,d2,rv2,q1,q2,q3,⟨b2,q4⟩,q6,_⟩:=hy
       rw[ho] at q1
       injection q1 with q1;injection q1 with _ q1 _
       subst q1
       injection hx with hx _
       subst hx
       exact⟨d',by rw[q4];rfl,.inl rfl⟩
      obtain⟨hp,rfl⟩:=rx_no hy (by simp [isBS,ho])
      simp only[step,ho,hx,ht,List.map_cons,List.map_nil,sBuiltin,if_true] at hp
      unfold sAppend at hp
      split at hp
      ·rename_i e _
       exact⟨d',by rw[e];rfl,.inl rfl⟩
      ·rename_i e _
       exact⟨d',by rw[e];rfl,.inl rfl⟩
      ·rename_i k n sz0 off m _ _ _ _ _ e _
       split at hp
       ·rename_i e2
        exact⟨k,by rw[e];rfl,.inr fun cs h=>by rw[e2] at h;cases h⟩
       ·rename_i e2
        exact⟨k,by rw[e];rfl,.inr fun cs h=>by rw[e2] at h;cases h⟩
       ·exact hp.elim
      ·exact hp.elim
    ·cases h
   ·cases h
  ·cases h
def tameB (bs:List Nat) (o:Oper):Bool:=(decide (cls o≠3) || (match o.op with | .store _ _ _=>true|_=>false) || (appends o).isSome)&&bs.all fun k=>decide (k≠0)&&(o.dst != some k)
theorem box_stays {bs:List Nat}{o:Oper}{y:Yi}{k:Nat}(ht:tameB bs o=true) (hk:k∈bs) (hy:YieldsA P ops o y s) (hb:boxRow s k):boxRow (s.app o.dst y) k:=by
 show ∃ cs,((s.app o.dst y).rows k).c = .box cs
 rw[zar]
 simp only[tameB,Bool.and_eq_true,Bool.or_eq_true,decide_eq_true_eq,List.all_eq_true,bne_iff_ne,ne_eq] at ht
 obtain⟨ht,hd⟩:=ht
 obtain⟨hk0,hdk⟩:=hd k hk
 rcases hy with⟨_,hy,hdead⟩|⟨_,rfl⟩
 ·rcases ht with (h3|hst)|hap
  ·rcases AY_eff hy h3 with⟨_,he⟩|⟨hm,c,he,_⟩
   ·rw[show y.rows s.rows=s.rows by simp [Yi.rows,he]];exact hb
   ·obtain⟨_,h2⟩:=hdead hm
    obtain⟨d',hd'⟩:=Option.isSome_iff_exists.1 h2
    rw[show y.rows s.rows=upd s.rows (o.dst.getD 0) ⟨(s.rows (o.dst.getD 0)).ver+1,c⟩ by simp [Yi.rows,he]]
    refine boxRow_upd hb fun e=>?_
    rw[hd',Option.getD_some] at e
    exact absurd (by rw[hd',e]) hdk
  ·split at hst
   ·rename_i t a x ho
    unfold AY at hy
    split at hy
    ·rename_i ho';rw[ho] at ho';cases ho'
    ·rcases hy with hy|hy
     case inr=>exact (hy.no (by simp [isApp,ho])).elim
     obtain⟨hp,rfl⟩:=rx_no hy (by simp [isBS,ho])
     simp only[step,ho] at hp ⊢
     unfold sStore at hp ⊢
     split at hp
     ·split at hp
      ·simp only[Yi.rows,List.foldl_cons,List.foldl_nil];exact boxRow_upd hb fun _=>⟨_,rfl⟩
      ·exact hp.elim
     ·rename_i k2 n sz idx off xs _ _ _
      split at hp
      ·rename_i e2 _
       simp only[Yi.rows,List.foldl_cons,List.foldl_nil]
       refine boxRow_upd hb fun e=>?_
       subst e
       obtain⟨cs,hb⟩:=hb
       rw[e2] at hb
       cases hb
      ·rename_i e2
       simp only[Yi.rows,List.foldl_cons,List.foldl_nil]
       refine boxRow_upd hb fun e=>?_
       subst e
       obtain⟨cs,hb⟩:=hb
       rw[e2] at hb
       cases hb
      ·exact hp.elim
     ·exact hp.elim
   ·cases hst
  ·obtain⟨⟨a,d,x⟩,hap⟩:=Option.isSome_iff_exists.1 hap
   obtain⟨hpu,hdd,_⟩:=appends_puts hap
   obtain⟨k1,h1,h2⟩:=append_row hap hy
   obtain⟨k2,r,h3,h4⟩:=writes_eff (puts_writes hpu) hy
   rw[h1] at h3
   injection h3 with h3;subst h3
   rw[show y.rows s.rows=upd s.rows k1 r by simp [Yi.rows,h4]]
   refine boxRow_upd hb fun e=>?_
   subst e
   rcases h2 with h2|h2
   ·exact absurd (by rw[hdd,h2]) hdk
   ·obtain⟨cs,hb⟩:=hb
    exact absurd hb (h2 cs)
 ·exact hb
def boxed (ops:Array Oper) (κ:List (Nat × Option Nat)) (bs:List Nat) (j:Nat):List Operand→Bool
 | []=>true
 | .tmp t::xs=>(match inKey ops κ ops.size j t with|some none=>true|some (some k)=>bs.contains k|none=>false)&&boxed ops κ bs j xs
 | _::xs=>boxed ops κ bs j xs
def apOk (ops:Array Oper) (κ:List (Nat × Option Nat)) (bs:List Nat) (i j:Nat):Bool :=
 match ops[i]?,ops[j]? with
 | some x, some y =>
   x.apart ops y&&(
    (match reads x,appends y with
    | some xs,some (_,d,_)=>!bs.contains d&&boxed ops κ bs i xs
    | _,_=>false) ||
    (match appends x,reads y with
    | some (_,d,_),some xs=>!bs.contains d&&boxed ops κ bs j xs
    | _,_=>false))
 | _,_=>false
def lexOk3 (ops:Array Oper) (κ:List (Nat × Option Nat)) (bs:List Nat):Bool :=
 uniq ops.toList&&ops.toList.all (tameB bs) &&
 (List.range ops.size).all fun i=>(deps ops i).all (fun e=>decide (e<i)) &&
  (List.range ops.size).all fun j=>!decide (i<j) || waits ops ops.size j i ||
   (match ops[i]?,ops[j]? with|some x,some y=>okPair ops x y|_,_=>true) || rdOk ops κ i j || apOk ops κ bs i j
variable {κ:List (Nat × Option Nat)}{bs:List Nat}
theorem boxed_told (hu:uniq ops.toList=true) {listed:Array Bool}(h:Told ops κ listed s) (hdown:down ops listed) {j:Nat}(hr:j∈Region.ready .any ops listed):∀ {xs:List Operand},boxed ops κ bs j xs=true→∀ x∈xs,∀ k,keyOf (s.ev x)=some k→k∈bs
 | [],_,x,hx,_,_=>by simp at hx
 | y::xs, hc, x, hx, k, hk=>by
   cases y with
   | tmp t =>
     simp only[boxed,Bool.and_eq_true] at hc
     rcases List.mem_cons.1 hx with rfl|hx
     ·have h2:=hc.1
      have hk':keyOf (s.tm t)=some k:=hk
      split at h2
      ·rename_i e1
       rw[told_in hu h hdown hr e1] at hk';cases hk'
      ·rename_i k1 e1
       rw[told_in hu h hdown hr e1] at hk'
       injection hk' with hk';subst hk'
       simpa using h2
      ·cases h2
     ·exact boxed_told hu h hdown hr hc.2 x hx k hk
   | const v =>
     simp only[boxed] at hc
     rcases List.mem_cons.1 hx with rfl|hx
     ·simp [AS.ev,keyOf] at hk
     ·exact boxed_told hu h hdown hr hc x hx k hk
   | global g =>
     simp only[boxed] at hc
     rcases List.mem_cons.1 hx with rfl|hx
     ·simp [AS.ev,keyOf] at hk
     ·exact boxed_told hu h hdown hr hc x hx k hk
   | func f =>
     simp only[boxed] at hc
     rcases List.mem_cons.1 hx with rfl|hx
     ·simp [AS.ev,keyOf] at hk
     ·exact boxed_told hu h hdown hr hc x hx k hk
theorem append_clear {o:Oper}{a x:Operand}{d:Nat}(h:appends o=some (a,d,x)) (hd:bs.contains d=false) (hb:∀ k∈bs,boxRow s k) {y:Yi}(hy:AY P o s y) {xs:List Operand}(hx:∀ x∈xs,∀ k,keyOf (s.ev x)=some k→k∈bs) :
 ∃ k,wrow (keyOf (s.ev a)) (some d)=some k∧∀ x∈xs,keyOf (s.ev x)≠some k:=by
 obtain⟨k,h1,h2⟩:=append_row h hy
 refine⟨k,h1,fun x hxs e=>?_⟩
 have hk:=hx x hxs k e
 rcases h2 with h2|h2
 ·subst h2
  have:bs.contains k=true:=by simpa using hk
  rw[hd] at this;cases this
 ·obtain⟨cs,hc⟩:=hb k hk
  exact h2 cs hc
theorem anyA_first3 {Q:AS→Prop}{n i:Nat}{oi:Oper}{y:Yi}(hu:uniq ops.toList=true) (hi:ops[i]? = some oi) (hdst:dstOk ops n=true) (htame:∀ (j:Nat) (o:Oper),ops[j]? = some o→tameB bs o=true) :
 ∀ (fuel:Nat) (listed:Array Bool) (s:AS),s.n=n→NE s→down ops listed→Told ops κ listed s→(∀ k∈bs,boxRow s k) →
 (∀ j oj,ops[j]? = some oj→j≠i→listed.getD j true=false→waits ops ops.size j i=false→okPair ops oi oj=true∨rdOk ops κ i j=true∨apOk ops κ bs i j=true) →
 i∈Region.ready .any ops listed→YieldsA P ops oi y s→anyA P ops Q fuel (listed.setIfInBounds i true) (s.app oi.dst y)→anyA P ops Q (fuel+1) listed s:=by
 intro fuel
 induction fuel with
 | zero =>
   intro listed s hn hne hdown _ _ _ hr hy H
   refine⟨fun h=>(by rw[h] at hr;cases hr),fun j hj=>?_⟩
   by_cases hji:j=i
   ·subst hji;unfold qA;rw[hi];exact⟨y,hy,H⟩
   ·have:=ready_mono hj hji
    rw[H.1] at this
    cases this
 | succ fuel ih =>
   intro listed s hn hne hdown htold hbox hfree hr hy H
   refine⟨fun h=>(by rw[h] at hr;cases hr),fun j hj=>?_⟩
   by_cases hji:j=i
   ·subst hji;unfold qA;rw[hi];exact⟨y,hy,H⟩
   ·have h1:=H.2 j (ready_mono hj hji)
    obtain⟨hjun,oj,hoj,_⟩:=mem_ready.1 hj
    have hjun':listed.getD j true=false:=hjun
    have hnw:waits ops ops.size j i=false:=by
     refine Decidable.byContradiction fun hw=>?_
     have hw:waits ops ops.size j i=true:=by simpa using hw
     have h2:=waits_listed hdown _ _ _ (ready_deps hj) hw
     have h3:=(mem_ready.1 hr).1
     rcases Nat.lt_or_ge i listed.size with h'|h'
     ·simp [h'] at h2 h3;rw[h3] at h2;cases h2
     ·simp [Array.getElem?_eq_none h'] at h2
    have hpair:=hfree j oj hoj hji hjun' hnw
    unfold qA at h1 ⊢
    rw[hoj] at h1 ⊢
    obtain⟨z,hz,hK⟩:=h1
    have hex:YieldsA P ops oj z s∧YieldsA P ops oi y (s.app oj.dst z)∧(s.app oj.dst z).app oi.dst y=(s.app oi.dst y).app oj.dst z:=by
     rcases hpair with hpair|hpair|hpair
     ·exact exchange hpair hne hy hz
     ·unfold rdOk at hpair
      simp only[hi,hoj,Bool.and_eq_true,Bool.or_eq_true] at hpair
      obtain⟨hap,hpair⟩:=hpair
      rcases hpair with ((((hpair|hpair)|hpair)|hpair)|hpair)|hpair
      rotate_left 4
      ·exact exchange2v hap hpair.1 hpair.2 hy hz
      ·exact exchange3v hap hpair.2 hpair.1 hy hz
      ·split at hpair
       ·rename_i xs a hrd hwr
        split at hpair
        ·rename_i k hk
         exact exchange2 hap hrd hwr (k:=k) (wkey_told hu htold hdown hj hk) (clear_told hu htold hdown hr hpair) hy hz
        ·cases hpair
       ·cases hpair
      ·split at hpair
       ·rename_i a xs hwr hrd
        split at hpair
        ·rename_i k hk
         exact exchange3 hap hrd hwr (k:=k) (wkey_told hu htold hdown hr hk) (clear_told hu htold hdown hj hpair) hy hz
        ·cases hpair
       ·cases hpair
      ·split at hpair
       ·rename_i d a dd v hmk hst
        split at hpair
        ·rename_i k hk
         simp only[Bool.and_eq_true,decide_eq_true_eq] at hpair
         exact exchange4 hap hmk hst (k:=k) (wkey_told hu htold hdown hj hk) hpair.1 (clear_told hu htold hdown hj hpair.2 v (by simp)) hy hz
        ·cases hpair
       ·cases hpair
      ·split at hpair
       ·rename_i a dd v d hst hmk
        split at hpair
        ·rename_i k hk
         simp only[Bool.and_eq_true,decide_eq_true_eq] at hpair
         exact exchange5 hap hmk hst (k:=k) (wkey_told hu htold hdown hr hk) hpair.1 (clear_told hu htold hdown hr hpair.2 v (by simp)) hy hz
        ·cases hpair
       ·cases hpair
     ·unfold apOk at hpair
      simp only[hi,hoj,Bool.and_eq_true,Bool.or_eq_true] at hpair
      obtain⟨hap,hpair⟩:=hpair
      rcases hpair with hpair|hpair
      ·split at hpair
       ·rename_i xs a d v hrd hwr
        simp only[Bool.and_eq_true,Bool.not_eq_true'] at hpair
        obtain⟨hpu,hdd,hgn⟩:=appends_puts hwr
        have hzA:AY P oj s z:=by
         have hye:=reads_none hrd hy
         rcases hz with⟨_,hz,_⟩|⟨hw,_⟩
         ·obtain⟨hap1,_,_⟩:=Oper.apart_spec hap
          refine AY_congr (s:=s.app oi.dst y) (by rw[zar];simp [Yi.rows,hye]) (fun x hx=>?_) hz
          show s.ev x=(AS.put { s with rows:=y.rows s.rows } oi.dst y.av).ev x
          rw[ev_put (fun t ht e=>hap1 t ht (by subst e;exact List.mem_append_left _ (List.mem_filterMap.2 ⟨.tmp t,by simpa using hx,rfl⟩)))]
          exact (zer x).symm
         ·simp [wantA,hgn] at hw
        obtain⟨k,hk,hkx⟩:=append_clear hwr hpair.1 hbox hzA (boxed_told hu htold hdown hr hpair.2)
        exact exchange2 hap hrd (puts_writes hpu) (k:=k) hk hkx hy hz
       ·cases hpair
      ·split at hpair
       ·rename_i a d v xs hwr hrd
        simp only[Bool.and_eq_true,Bool.not_eq_true'] at hpair
        obtain⟨hpu,hdd,hgn⟩:=appends_puts hwr
        have hyA:AY P oi s y:=by
         rcases hy with⟨_,hy,_⟩|⟨hw,_⟩
         ·exact hy
         ·simp [wantA,hgn] at hw
        obtain⟨k,hk,hkx⟩:=append_clear hwr hpair.1 hbox hyA (boxed_told hu htold hdown hj hpair.2)
        exact exchange3 hap hrd (puts_writes hpu) (k:=k) hk hkx hy hz
       ·cases hpair
    obtain⟨hz',hy',heq⟩:=hex
    refine⟨z,hz',?_⟩
    refine ih (listed.setIfInBounds j true) (s.app oj.dst z) (by rw[app_n];exact hn) (hne.app hz' (by rw[hn];exact dstOk_get hdst hoj)) (down_set hdown hj) (told_step hu htold hdown hoj hj hz') (fun k hk=>box_stays (htame j oj hoj) hk hz' (hbox k hk)) (fun k ok hk hki hun hno=>?_) (ready_mono hr (Ne.symm hji)) hy' ?_
    ·refine hfree k ok hk hki ?_ hno
     by_cases hjk:j=k
     ·subst hjk;exact hjun'
     ·rw[getD_set_ne true hjk] at hun;exact hun
    ·rw[Array.setIfInBounds_comm _ _ hji,heq]
     exact hK
theorem lexOk3_spec (h:lexOk3 ops κ bs=true):uniq ops.toList=true∧(∀ (j:Nat) (o:Oper),ops[j]? = some o→tameB bs o=true)∧∀ i,i<ops.size→(∀ e∈deps ops i,e<i)∧∀ j,i<j→j<ops.size→waits ops ops.size j i=false→∀ x y,ops[i]? = some x→ops[j]? = some y→okPair ops x y=true∨rdOk ops κ i j=true∨apOk ops κ bs i j=true:=by
 unfold lexOk3 at h
 simp only[Bool.and_eq_true] at h
 obtain⟨⟨h1,h0⟩,h⟩:=h
 refine⟨h1,fun j o ho=>List.all_eq_true.1 h0 o (by simpa using Array.mem_of_getElem? ho),fun i hi=>?_⟩
 have:=List.all_eq_true.1 h i (by simpa using hi)
 simp only[Bool.and_eq_true,List.all_eq_true,decide_eq_true_eq] at this
 refine⟨this.1,fun j hij hj hw x y hx hy=>?_⟩
 have h2:=this.2 j (by simpa using hj)
 rw[hx,hy] at h2
 simpa [hij,hw,or_assoc] using h2
theorem anyA_lex3 {Q:AS→Prop}{n:Nat}(hB:lexOk3 ops κ bs=true) (hdst:dstOk ops n=true):∀ (l:List Oper) (k:Nat) (listed:Array Bool) (s:AS),(∀ j,l[j]? = ops[k+j]?)→k+l.length=ops.size→listed.size=ops.size →
 (∀ j,j<ops.size→listed.getD j false=decide (j<k))→s.n=n→NE s→Told ops κ listed s→(∀ k∈bs,boxRow s k)→lexA P ops Q l s→anyA P ops Q l.length listed s
 | [], k, listed, s, _, hlen, hsz, hl, _, _, _, _, h=>by
   refine⟨?_,h⟩
   refine List.eq_nil_iff_forall_not_mem.2 fun j hj=>?_
   obtain⟨h1,o,ho,_⟩:=mem_ready.1 hj
   have hj':j<ops.size:=(Array.getElem?_eq_some_iff.1 ho).1
   have h2:=hl j hj'
   simp only[List.length_nil,Nat.add_zero] at hlen
   have hjl:j<listed.size:=by omega
   simp [hjl] at h1 h2
   rw[h1] at h2
   have:j<k:=by omega
   simp [this] at h2
 | o::l, k, listed, s, hlk, hlen, hsz, hl, hn, hne, htold, hbox, h=>by
   simp only[List.length_cons] at hlen
   have hk:k<ops.size:=by omega
   have ho:ops[k]? = some o:=by simpa using (hlk 0).symm
   obtain⟨hu,htame,hsp⟩:=lexOk3_spec hB
   obtain⟨hdeps,hpairs⟩:=hsp k hk
   obtain⟨y,hy,hrest⟩:=h
   have hunk:listed.getD k false=false:=by rw[hl k hk];simp
   have hsame:∀ j,j<ops.size→listed.getD j true=listed.getD j false:=fun j hj=>by
    have:j<listed.size:=by omega
    simp [this]
   have hready:k∈Region.ready .any ops listed:=by
    refine mem_ready.2 ⟨by rw[hsame k hk];exact hunk,o,ho,fun e he hb=>?_⟩
    have:e.on<k:=hdeps e.on (by unfold deps;rw[ho];exact List.mem_map.2 ⟨e,List.mem_filter.2 ⟨by simpa using he,hb⟩,rfl⟩)
    rw[hl e.on (by omega)];simpa using this
   have hdown:down ops listed:=fun j hj e he=>by
    by_cases hjs:j<ops.size
    ·rw[hl j hjs] at hj
     have hjk:j<k:=by simpa using hj
     have:=(hsp j hjs).1 e he
     rw[hl e (by omega)];simp;omega
    ·have:¬ j<listed.size:=by omega
     simp [Array.getElem?_eq_none (Nat.le_of_not_lt this)] at hj
   refine anyA_first3 hu ho hdst htame l.length listed s hn hne hdown htold hbox (fun j oj hj hjk hun hw=>?_) hready hy ?_
   ·have hj':j<ops.size:=(Array.getElem?_eq_some_iff.1 hj).1
    rw[hsame j hj',hl j hj'] at hun
    have:k<j:=by simp at hun;omega
    exact hpairs j this hj' hw o oj ho hj
   ·refine anyA_lex3 hB hdst l (k+1) _ _ (fun j=>by have:=hlk (j+1);simpa [Nat.add_assoc,Nat.add_comm 1 j] using this) (by omega) (by simpa using hsz) (fun j hj=>?_) (by rw[app_n];exact hn) (hne.app hy (by rw[hn];exact dstOk_get hdst ho))
     (told_step hu htold hdown ho hready hy) (fun k' hk'=>box_stays (htame k o ho) hk' hy (hbox k' hk')) hrest
    by_cases hjk:k=j
    ·subst hjk
     have:k<listed.size:=by omega
     simp [this]
    ·rw[getD_set_ne false hjk,hl j hj]
     simp;omega
theorem region_draw3 {C:Ctx}{id:Nat}{a:Act}{w:World}{Q:AS→Prop}{Q':Exit→Act→World→Prop}(hm:P.follows .mixedOrders=true) (hB:lexOk3 ops κ bs=true) (hd:dstOk ops s.n=true) (hk:keysOk κ s) (hbx:∀ k∈bs,boxRow s k)
 (hs:SRel C s a w) (hQ:∀ s a w,Q s→SRel C s a w→Q' .normal a w) (h:lexA P ops Q ops.toList s):(Code.region id ops true).wpIn (fnc C.rd) 0 P Q' a w:=by
 obtain⟨p,hs⟩:=hs
 have hs':SR C p s a { w with drawn:=w.drawn+1 }:=hs.below (w':=w.drew) ((Below.refl _ _).drew) (fun _ h=>h) (fun _ h=>.inl h) hs.rb
 refine wpIn_region_any hm (anyA_sound hQ _ _ _ _ _ p hd ?_ hs')
 have:=anyA_lex3 (n:=s.n) hB hd ops.toList 0 (Array.replicate ops.size false) s (by simp) (by simp) (by simp) (fun j hj=>by simp [hj]) rfl ⟨C,p,a,w,hs⟩ (told_start hk fun j hj=>by simp [hj]) hbx h
 simpa using this
theorem awp_draw3 {C:Ctx}{Q:Exit→AS→Prop}{id:Nat}{l:List Oper}(hm:P.follows .mixedOrders=true) (hB:lexOk3 l.toArray κ bs=true) (hd:dstOk l.toArray s.n=true) (hk:keysOk κ s) (hbx:∀ k∈bs,boxRow s k) (h:aops P true l.toArray l (Q .normal) s) :
 awp P C (.region id l.toArray true) Q s:=fun a w hs=>by
 obtain⟨p,hp⟩:=hs
 exact region_draw3 hm hB hd hk hbx ⟨p,hp⟩ (fun s a w hq hs=>⟨s,hs,hq⟩) (aops_lex l s hd ⟨C,p,a,w,hp⟩ h)
theorem awp_dreg3 {C:Ctx}{Q:Exit→AS→Prop}{id:Nat}{l:List Oper}(κ:List (Nat × Option Nat)) (bs:List Nat) (hm:P.follows .mixedOrders=true) (hB:lexOk3 l.toArray κ bs=true) (hd:dstOk l.toArray s.n=true) (hk:keysOk κ s) (hbx:∀ k∈bs,boxRow s k)
 (h:∀ K:AS→Prop,(∀ s,Q .normal s→K s)→aops P true l.toArray l K s):awp P C (.region id l.toArray true) Q s:=awp_draw3 hm hB hd hk hbx (h _ fun _ h=>h)
end
end Go.Oc

namespace Go.Oc
open Go Go.RowKit
def aR (s:AS) (d:Option Nat) (r:Res) (K:AS→Prop):Prop:=r.pre∧(r.ass→K (s.app d r.y))
def aF (D:Bool) (s:AS) (d:Option Nat) (r:Res) (K:AS→Prop):Prop:=(D=true→(s.rows (d.getD 0)).c = .dead∧d.isSome=true)∧aR s d r K
section
variable {P:Program}{D:Bool}{s:AS}{K:AS→Prop}{d:Option Nat}{ty:TypeId}{pos:String}{af:Array Edge}{g:Option (Nat × Bool)}
theorem aR_when {c:Prop}{v:AV}:aR s d (.when c v) K↔c∧K (s.put d v):=by
 constructor
 ·rintro ⟨h1,h2⟩;exact⟨h1,h2 trivial⟩
 ·rintro ⟨h1,h2⟩;exact⟨h1,fun _=>h2⟩
theorem aR_val {v:AV}:aR s d (.val v) K↔K (s.put d v):=by
 constructor
 ·rintro ⟨_,h2⟩;exact h2 trivial
 ·intro h;exact⟨trivial,fun _=>h⟩
theorem aR_bad:aR s d .bad K↔False:=⟨fun h=>h.1.elim,fun h=>h.elim⟩
theorem aR_mk {c e:Prop}{v:AV}{eff:List (Nat × Row)}:aR s d ⟨c,e,⟨v,eff⟩⟩ K↔c∧(e→K (s.app d ⟨v,eff⟩)):=Iff.rfl
theorem aF_false {r:Res}:aF false s d r K↔aR s d r K:=by simp [aF]
theorem aF_true {r:Res}:aF true s d r K↔((s.rows (d.getD 0)).c = .dead∧d.isSome=true)∧aR s d r K:=by simp [aF]
theorem xop_aop {o:Op}(h1:∀ f args ts,o ≠ .call ⟨.value f,args,ts⟩) (h3:∀ x,o ≠ .next x false):xop P D ⟨d,o,ty,pos,af,g⟩ K s↔aop P D ⟨d,o,ty,pos,af,g⟩ K s:=by
 unfold xop
 cases D
 ·rw[if_neg (by simp)]
  split
  ·rename_i f args ts e;exact absurd e (h1 f args ts)
  ·rename_i x e;exact absurd e (h3 x)
  ·exact Iff.rfl
 ·rw[if_pos rfl]
theorem zap {o:Op}(h1:∀ f args ts,o ≠ .call ⟨.value f,args,ts⟩) (h2:cls ⟨d,o,ty,pos,af,g⟩≠2) (h3:∀ x,o ≠ .next x false:=by simp):xop P D ⟨d,o,ty,pos,af,g⟩ K s↔aR s d (step P ⟨d,o,ty,pos,af,g⟩ s) K:=by
 rw[xop_aop h1 h3]
 unfold aop
 split
 ·rename_i f args ts e;exact absurd e (h1 f args ts)
 ·rename_i x e;exact absurd e (h3 x)
 ·constructor
  ·rintro ⟨a,_,b⟩;exact⟨a,b⟩
  ·rintro ⟨a,b⟩;exact⟨a,fun _ e=>absurd e h2,b⟩
theorem aop_new {o:Op}(h1:∀ f args ts,o ≠ .call ⟨.value f,args,ts⟩) (h2:cls ⟨d,o,ty,pos,af,g⟩=2) (h3:∀ x,o ≠ .next x false:=by simp):xop P D ⟨d,o,ty,pos,af,g⟩ K s↔aF D s d (step P ⟨d,o,ty,pos,af,g⟩ s) K:=by
 rw[xop_aop h1 h3]
 unfold aop
 split
 ·rename_i f args ts e;exact absurd e (h1 f args ts)
 ·rename_i x e;exact absurd e (h3 x)
 ·constructor
  ·rintro ⟨a,c,b⟩;exact⟨fun hD=>c hD h2,a,b⟩
  ·rintro ⟨c,a,b⟩;exact⟨a,fun hD _=>c hD,b⟩
theorem aop_move {x:Operand}:xop P D ⟨d,.move x,ty,pos,af,g⟩ K s↔K (s.put d (s.ev x)):=(zap (by simp) (by simp [cls])).trans aR_val
theorem aop_assign {x:Operand}:xop P D ⟨d,.assign x,ty,pos,af,g⟩ K s↔K (s.put d (s.ev x)):=(zap (by simp) (by simp [cls])).trans aR_val
theorem aop_pick {a b c:Operand}:xop P D ⟨d,.pick a b c,ty,pos,af,g⟩ K s↔aR s d (sPick (s.ev a) (s.ev b) (s.ev c)) K:=zap (by simp) (by simp [cls])
theorem aop_bin {op:BinOp}{t t':TypeId}{x y:Operand}:xop P D ⟨d,.binOp op t x y t',ty,pos,af,g⟩ K s↔aR s d (sBin P op t (s.ev x) (s.ev y)) K:=zap (by simp) (by simp [cls])
theorem aop_un {op:UnOp}{t:TypeId}{x:Operand}:xop P D ⟨d,.unOp op t x,ty,pos,af,g⟩ K s↔aR s d (sUn op (s.ev x)) K:=zap (by simp) (by simp [cls])
theorem aop_conv {t t':TypeId}{x:Operand}:xop P D ⟨d,.convert t t' x,ty,pos,af,g⟩ K s↔aR s d (sConv P t t' (s.ev x)) K:=zap (by simp) (by simp [cls])
theorem aop_load {t:TypeId}{x:Operand}:xop P D ⟨d,.load t x,ty,pos,af,g⟩ K s↔aR s d (sLoad P s t (s.ev x)) K:=zap (by simp) (by simp [cls])
theorem aop_store {t:TypeId}{x y:Operand}:xop P D ⟨d,.store t x y,ty,pos,af,g⟩ K s↔aR s d (sStore P s t (s.ev x) (s.ev y)) K:=zap (by simp) (by simp [cls])
theorem aop_box {t:TypeId}{x:Operand}:xop P D ⟨d,.box t x,ty,pos,af,g⟩ K s↔aF D s d (sBox s (d.getD 0) (s.ev x)) K:=aop_new (by simp) (by simp [cls])
theorem aop_alloc {t:TypeId}:xop P D ⟨d,.alloc t,ty,pos,af,g⟩ K s↔aF D s d (sAlloc P s (d.getD 0) t) K:=aop_new (by simp) (by simp [cls])
theorem aop_fieldAddr {t:TypeId}{x:Operand}{f:Nat}:xop P D ⟨d,.fieldAddr t x f,ty,pos,af,g⟩ K s↔aR s d (sField P s t (s.ev x) f) K:=zap (by simp) (by simp [cls])
theorem aop_field {t:TypeId}{x:Operand}{f:Nat}:xop P D ⟨d,.field t x f,ty,pos,af,g⟩ K s↔aR s d (sFieldV P t (s.ev x) f) K:=zap (by simp) (by simp [cls])
theorem aop_indexAddr {t:TypeId}{x i:Operand}:xop P D ⟨d,.indexAddr t x i,ty,pos,af,g⟩ K s↔aR s d (sIndex P s t (s.ev x) (s.ev i)) K:=zap (by simp) (by simp [cls])
theorem aop_index {t:TypeId}{x i:Operand}:xop P D ⟨d,.index t x i,ty,pos,af,g⟩ K s↔aR s d (sIndexV P t (s.ev x) (s.ev i)) K:=zap (by simp) (by simp [cls])
theorem aop_slice {t:TypeId}{x:Operand}{lo hi mx:Option Operand}:xop P D ⟨d,.slice t x lo hi mx,ty,pos,af,g⟩ K s↔aR s d (sSlice P s t (s.ev x) (lo.map s.ev) (hi.map s.ev) (mx.map s.ev)) K:=zap (by simp) (by simp [cls])
def evs (s:AS):List Operand→List AV
 | []=>[]
 | x::l=>s.ev x::evs s l
def evp (s:AS):List (Nat × Operand)→List (Nat × AV)
 | []=>[]
 | x::l=>(x.1,s.ev x.2)::evp s l
theorem evs_eq:∀ l:List Operand,l.map s.ev=evs s l
 | []=>rfl
 | x::l=>by simp only[List.map_cons,evs,evs_eq l]
theorem evp_eq:∀ l:List (Nat × Operand),l.map (fun x=>(x.1,s.ev x.2))=evp s l
 | []=>rfl
 | x::l=>by simp only[List.map_cons,evp,evp_eq l]
theorem aop_build {t:TypeId}{ps:List (Nat × Operand)}:xop P D ⟨d,.build t ps.toArray,ty,pos,af,g⟩ K s↔aR s d (sBuild P s t (evp s ps)) K:=by
 rw[← evp_eq];exact zap (by simp) (by simp [cls])
theorem aop_buildSlice {t:TypeId}{n:Nat}{ps:List (Nat × Operand)}:xop P D ⟨d,.buildSlice t n ps.toArray,ty,pos,af,g⟩ K s↔aR s d (sBuildSlice P s t n (evp s ps)) K:=by
 rw[← evp_eq];exact zap (by simp) (by simp [cls])
theorem aop_makeSlice {t:TypeId}{l c:Operand}:xop P D ⟨d,.makeSlice t l c,ty,pos,af,g⟩ K s↔aF D s d (sMakeSlice P s (d.getD 0) t (s.ev l) (s.ev c)) K:=aop_new (by simp) (by simp [cls])
theorem aop_makeFunc {f:FuncId}{caps:List Operand}:xop P D ⟨d,.makeFunc (.func f) #[] caps.toArray,ty,pos,af,g⟩ K s↔K (s.put d (.fn f (evs s caps))):=by
 rw[← evs_eq]
 refine (zap (by simp) (by simp [cls])).trans ?_
 exact aR_val
theorem aop_extract {x:Operand}{i:Nat}:xop P D ⟨d,.extract x i,ty,pos,af,g⟩ K s↔aR s d (sExtract (s.ev x) i) K:=zap (by simp) (by simp [cls])
theorem aop_nil {x:Operand}:xop P D ⟨d,.nilCheck x,ty,pos,af,g⟩ K s↔aR s d (sNil s (s.ev x)) K:=zap (by simp) (by simp [cls])
theorem aop_len {x:Operand}{t:TypeId}:xop P D ⟨d,.call ⟨.builtin .len,#[x],#[t]⟩,ty,pos,af,g⟩ K s↔aR s d (sLen P s t (s.ev x)) K:=zap (by simp) (by simp [cls])
theorem aop_min {xs:List Operand}{ts:Array TypeId}:xop P D ⟨d,.call ⟨.builtin .min,xs.toArray,ts⟩,ty,pos,af,g⟩ K s↔aR s d (sMinMax (minA (evs s xs))) K:=by
 rw[← evs_eq]
 refine (zap (by simp) (by simp [cls])).trans ?_
 exact Iff.of_eq (by simp only[step,sBuiltin])
theorem aop_max {xs:List Operand}{ts:Array TypeId}:xop P D ⟨d,.call ⟨.builtin .max,xs.toArray,ts⟩,ty,pos,af,g⟩ K s↔aR s d (sMinMax (maxA (evs s xs))) K:=by
 rw[← evs_eq]
 refine (zap (by simp) (by simp [cls])).trans ?_
 exact Iff.of_eq (by simp only[step,sBuiltin])
theorem aop_append {x y:Operand}{t t':TypeId}:xop P D ⟨d,.call ⟨.builtin .append,#[x,y],#[t,t']⟩,ty,pos,af,g⟩ K s↔aR s d (if t=t' then sAppend P s (d.getD 0) t t' (s.ev x) (s.ev y) else sAppendZ P s (d.getD 0) t t' (s.ev x) (s.ev y)) K:=zap (by simp) (by simp [cls])
theorem aop_cap {x:Operand}{t:TypeId}:xop P D ⟨d,.call ⟨.builtin .cap,#[x],#[t]⟩,ty,pos,af,g⟩ K s↔aR s d (sCap P t (s.ev x)) K:=zap (by simp) (by simp [cls])
theorem aop_clear {x:Operand}{t:TypeId}:xop P D ⟨d,.call ⟨.builtin .clear,#[x],#[t]⟩,ty,pos,af,g⟩ K s↔aR s d (sClear P s t (s.ev x)) K:=zap (by simp) (by simp [cls])
def xcall (P:Program) (D:Bool) (s:AS) (d:Option Nat) (f:AV) (xs:List AV) (K:AS→Prop):Prop:=acall P s f xs (fun r=>K (s.put d (.r r)))∨(D=false∧(mcall P s d f xs K∨ocall P s d f xs K∨ycall P s d f xs K∨ncall P s d f xs K))∨(D=true∧(s.rows (d.getD 0)).c = .dead∧ocall P s d f xs K)
theorem aop_call {f:Operand}{xs:List Operand}{ts:Array TypeId}:xop P D ⟨d,.call ⟨.value f,xs.toArray,ts⟩,ty,pos,af,g⟩ K s↔xcall P D s d (s.ev f) (evs s xs) K:=by
 rw[← evs_eq]
 unfold xop xcall
 cases D
 ·rw[if_neg (by simp)];simp
 ·rw[if_pos rfl];simp [aop]
theorem aop_next {x:Operand}:xop P false ⟨d,.next x false,ty,pos,af,g⟩ K s↔sNext s d (s.ev x) K:=Iff.rfl
theorem aop_makeMap {t:TypeId}:xop P D ⟨d,.makeMap t none,ty,pos,af,g⟩ K s↔aF D s d (sMakeMap P s (d.getD 0) t) K:=aop_new (by simp) (by simp [cls])
theorem aop_lookup {t:TypeId}{x i:Operand}{ok:Bool}:xop P D ⟨d,.lookup t x i ok,ty,pos,af,g⟩ K s↔aR s d (sLookup P s t (s.ev x) (s.ev i) ok) K:=zap (by simp) (by simp [cls])
theorem aop_mapUpdate {t:TypeId}{x i y:Operand}:xop P D ⟨d,.mapUpdate t x i y,ty,pos,af,g⟩ K s↔aR s d (sMapUpdate P s t (s.ev x) (s.ev i) (s.ev y)) K:=zap (by simp) (by simp [cls])
theorem aop_mapEntry {t:TypeId}{x i:Operand}:xop P D ⟨d,.mapEntry t x i,ty,pos,af,g⟩ K s↔aR s d (sMapEntry P s t (s.ev x) (s.ev i)) K:=zap (by simp) (by simp [cls])
theorem aop_entryStore {t:TypeId}{x i y:Operand}:xop P D ⟨d,.entryStore t x i y,ty,pos,af,g⟩ K s↔aR s d (sEntryStore s (s.ev x) (s.ev i) (s.ev y)) K:=zap (by simp) (by simp [cls])
theorem aop_range {t:TypeId}{x:Operand}:xop P D ⟨d,.range t x,ty,pos,af,g⟩ K s↔aR s d (sRange P s (d.getD 0) t (s.ev x)) K:=zap (by simp) (by simp [cls])
theorem aop_entry {x:Operand}:xop P D ⟨d,.entry x,ty,pos,af,g⟩ K s↔aR s d (sEntry s (s.ev x)) K:=zap (by simp) (by simp [cls])
theorem aops_nil {ops:Array Oper}:aops P D ops [] K s↔K s:=Iff.rfl
theorem aops_cons {ops:Array Oper}{o:Op}{rest:List Oper}:aops P D ops (⟨d,o,ty,pos,af,none⟩::rest) K s↔xop P D ⟨d,o,ty,pos,af,none⟩ (aops P D ops rest K) s:=Iff.rfl
def gslot (ops:Array Oper) (j:Nat):Option Nat:=(ops[j]?).bind (·.dst)
theorem gslot_zero {o:Oper}{l:List Oper}:gslot (o::l).toArray 0=o.dst:=rfl
theorem gslot_succ {o:Oper}{l:List Oper}{j:Nat}:gslot (o::l).toArray (j+1)=gslot l.toArray j:=by
 unfold gslot
 simp only[List.getElem?_toArray,List.getElem?_cons_succ]
def gB (P:Program) (D:Bool) (ops:Array Oper) (o:Oper) (rest:List Oper) (K:AS→Prop) (t:Nat) (want:Bool) (v:AV) (s:AS):Prop :=
 match v with
 | .r (.bo b)=>(b=want→xop P D o (aops P D ops rest K) (s.put (some t) (.r (.bo want))))∧(b = !want→aops P D ops rest K ((s.put (some t) (.r (.bo (!want)))).put o.dst (.r .ud)))
 | .r .ud=>aops P D ops rest K (s.put o.dst (.r .ud))
 | _=>False
def gA (P:Program) (D:Bool) (ops:Array Oper) (o:Oper) (rest:List Oper) (K:AS→Prop) (x:Option Nat) (want:Bool) (s:AS):Prop :=
 match x with
 | none=>aops P D ops rest K (s.put o.dst (.r .ud))
 | some t=>gB P D ops o rest K t want (s.tm t) s
theorem gA_some {ops:Array Oper}{o:Oper}{rest:List Oper}{t:Nat}{want:Bool}:gA P D ops o rest K (some t) want s=gB P D ops o rest K t want (s.tm t) s:=rfl
theorem gB_tt {ops:Array Oper}{o:Oper}{rest:List Oper}{t:Nat}:gB P D ops o rest K t true (.r (.bo true)) s↔xop P D o (aops P D ops rest K) (s.put (some t) (.r (.bo true))):=by simp [gB]
theorem gB_ff {ops:Array Oper}{o:Oper}{rest:List Oper}{t:Nat}:gB P D ops o rest K t false (.r (.bo false)) s↔xop P D o (aops P D ops rest K) (s.put (some t) (.r (.bo false))):=by simp [gB]
theorem gB_tf {ops:Array Oper}{o:Op}{rest:List Oper}{t:Nat}:gB P D ops ⟨d,o,ty,pos,af,g⟩ rest K t true (.r (.bo false)) s↔aops P D ops rest K ((s.put (some t) (.r (.bo false))).put d (.r .ud)):=by simp [gB]
theorem gB_ft {ops:Array Oper}{o:Op}{rest:List Oper}{t:Nat}:gB P D ops ⟨d,o,ty,pos,af,g⟩ rest K t false (.r (.bo true)) s↔aops P D ops rest K ((s.put (some t) (.r (.bo true))).put d (.r .ud)):=by simp [gB]
theorem gB_ud {ops:Array Oper}{o:Op}{rest:List Oper}{t:Nat}{want:Bool}:gB P D ops ⟨d,o,ty,pos,af,g⟩ rest K t want (.r .ud) s↔aops P D ops rest K (s.put d (.r .ud)):=Iff.rfl
theorem gB_bo {ops:Array Oper}{o:Op}{rest:List Oper}{t:Nat}{want b:Bool}:gB P D ops ⟨d,o,ty,pos,af,g⟩ rest K t want (.r (.bo b)) s ↔
 (b=want→xop P D ⟨d,o,ty,pos,af,g⟩ (aops P D ops rest K) (s.put (some t) (.r (.bo want))))∧(b=(!want)→aops P D ops rest K ((s.put (some t) (.r (.bo (!want)))).put d (.r .ud))):=Iff.rfl
theorem aops_guard {ops:Array Oper}{o:Op}{rest:List Oper}{j:Nat}{want:Bool} :
 aops P D ops (⟨d,o,ty,pos,af,some (j,want)⟩::rest) K s↔gA P D ops ⟨d,o,ty,pos,af,some (j,want)⟩ rest K (gslot ops j) want s:=by
 simp only[aops]
 unfold gA gslot gB
 exact Iff.rfl
theorem upd_app {α:Type}(f:Nat→α) (k:Nat) (v:α) (j:Nat):upd f k v j=if j=k then v else f j:=rfl
theorem put_none {v:AV}:AS.put s none v=s:=rfl
theorem app_val {v:AV}:AS.app s d ⟨v,[]⟩=AS.put s d v:=by cases d<;>rfl
theorem ev_const {v:Value}:AS.ev s (.const v) = .r (RV.ofV v):=rfl
theorem ev_func {f:FuncId}:AS.ev s (.func f) = .r (.fn f []):=rfl
theorem zb {C:Ctx}{Q:Exit→AS→Prop}{id:Nat}{l:List Oper}(h:∀ K:AS→Prop,(∀ s,Q .normal s→K s)→aops P false l.toArray l K s) (hd:dstOk l.toArray s.n=true:=by kernel_rfl):awp P C (.region id l.toArray false) Q s :=
 awp_region hd (h _ fun _ h=>h)
theorem zg {C:Ctx}{Q:Exit→AS→Prop}{id:Nat}{l:List Oper}(hm:P.follows .mixedOrders=true) (hB:lexOk l.toArray=true) (hd:dstOk l.toArray s.n=true)
 (h:∀ K:AS→Prop,(∀ s,Q .normal s→K s)→aops P true l.toArray l K s):awp P C (.region id l.toArray true) Q s:=awp_draw hm hB hd (h _ fun _ h=>h)
theorem acall_of {f:AV}{F:FuncId}{cs xs:List AV}{args:List RV}{r:RV}{K:RV→Prop}(h:ACalls P F args r) (hf:callee? f=some (F,cs)) (hs:snapPL s.rows (xs++cs)) (hle:RV.leL (snapVL s.rows (xs++cs)) args)
 (hfl:r.flatB=true∨AV.pureL (xs++cs)=true) (hK:K r):acall P s f xs K:=⟨r,.inl ⟨F,cs,args,hf,hs,hle,h,hfl⟩,hK⟩
theorem leL_refl:∀ xs:List RV,RV.leL xs xs
 | []=>trivial
 | x::xs=>by simp only[RV.leL];exact⟨le_refl x,leL_refl xs⟩
 where le_refl:∀ x:RV,RV.le x x
 | .un=>by simp [RV.le]
 | .bo _=>by simp [RV.le]
 | .it _ _=>by simp [RV.le]
 | .ns=>by simp [RV.le]
 | .sl _ _=>by simp [RV.le]
 | .np=>by simp [RV.le]
 | .rp cs=>by simp only[RV.le];exact leL_refl cs
 | .ag cs=>by simp only[RV.le];exact leL_refl cs
 | .fn f cs=>by simp only[RV.le];exact⟨trivial,leL_refl cs⟩
 | .nf=>by simp [RV.le]
 | .nz=>by simp [RV.le]
 | .tu cs=>by simp [RV.le]
 | .st _=>by simp [RV.le]
 | .ud=>by simp [RV.le]
 | .yl _=>by simp [RV.le]
 | .sx _ _=>by simp [RV.le]
 | .vl _=>by simp [RV.le]
 | .bf _ _=>by simp [RV.le]
theorem zh {f:AV}{F:FuncId}{cs xs:List AV}{args:List RV}{r:RV}{d:Option Nat}(h:ACalls P F args r) (hf:callee? f=some (F,cs)) (hs:snapPL s.rows (xs++cs)) (he:snapVL s.rows (xs++cs)=args)
 (hK:K (s.put d (.r r))) (hfl:r.flatB=true∨AV.pureL (xs++cs)=true:=by first|exact .inl rfl|exact .inr rfl):xcall P D s d f xs K:=.inl (acall_of h hf hs (he▸leL_refl _) hfl hK)
end
end Go.Oc

namespace Go.Oc
open Go Go.RowKit
def ins:List (Nat × AV)→Nat→AV→List (Nat × AV)
 | [],k,v=>[(k,v)]
 | (j,u)::l,k,v=>if k=j then (k,v)::l else if k<j then (k,v)::(j,u)::l else (j,u)::ins l k v
def insc:List (Nat × RowC)→Nat→RowC→List (Nat × RowC)
 | [],k,v=>[(k,v)]
 | (j,u)::l,k,v=>if k=j then (k,v)::l else if k<j then (k,v)::(j,u)::l else (j,u)::insc l k v
def delc:List (Nat × RowC)→Nat→List (Nat × RowC)
 | [],_=>[]
 | (j,u)::l,k=>if k=j then delc l k else (j,u)::delc l k
def st (n:Nat) (l:List (Nat × AV)) (vs:Nat→Nat) (cs:List (Nat × RowC)):AS:=⟨n,look l,fun k=>⟨vs k,lookc cs k⟩⟩
section
variable {n:Nat}{l:List (Nat × AV)}{vs:Nat→Nat}{cs:List (Nat × RowC)}
theorem look_nil {j:Nat}:look [] j = .r .un:=rfl
theorem look_cons {k j:Nat}{v:AV}:look ((k,v)::l) j=if j=k then v else look l j:=rfl
theorem look_ins (k:Nat) (v:AV) (j:Nat):look (ins l k v) j=if j=k then v else look l j:=by
 induction l with
 | nil=>rfl
 | cons p l ih =>
   obtain⟨i,u⟩:=p
   unfold ins
   split
   ·rename_i e;subst e
    simp only[look_cons]
    split<;>rfl
   ·split
    ·simp only[look_cons]
    ·rename_i h1 h2
     simp only[look_cons,ih]
     by_cases e1:j=i
     ·have:¬ j=k:=by omega
      simp [e1];omega
     ·simp [e1]
theorem lookc_insc (k:Nat) (v:RowC) (j:Nat):lookc (insc cs k v) j=if j=k then v else lookc cs j:=by
 induction cs with
 | nil=>rfl
 | cons p l ih =>
   obtain⟨i,u⟩:=p
   unfold insc
   split
   ·rename_i e;subst e
    simp only[zlc]
    split<;>rfl
   ·split
    ·simp only[zlc]
    ·rename_i h1 h2
     simp only[zlc,ih]
     by_cases e1:j=i
     ·have:¬ j=k:=by omega
      simp [e1];omega
     ·simp [e1]
theorem lookc_delc (k:Nat) (j:Nat):lookc (delc cs k) j=if j=k then .dead else lookc cs j:=by
 induction cs with
 | nil=>simp [delc,lookc_nil]
 | cons p l ih =>
   obtain⟨i,u⟩:=p
   unfold delc
   split
   ·rename_i e;subst e
    rw[ih,zlc]
    split<;>rfl
   ·rename_i h1
    simp only[zlc,ih]
    by_cases e1:j=i
    ·have:¬ j=k:=by omega
     simp [e1];omega
    ·simp [e1]
theorem put_st {k:Nat}{v:AV}:AS.put (st n l vs cs) (some k) v=st n ((k,v)::l) vs cs:=rfl
theorem tm_st {t:Nat}:(st n l vs cs).tm t=look l t:=rfl
theorem n_st:(st n l vs cs).n=n:=rfl
theorem evt_st {t:Nat}:AS.ev (st n l vs cs) (.tmp t)=look l t:=rfl
theorem rows_st {k:Nat}:(st n l vs cs).rows k=⟨vs k,lookc cs k⟩:=rfl
theorem ver_st {k:Nat}:(st n l vs cs).ver k=vs k:=rfl
theorem app_st {d:Option Nat}{v:AV}{k m:Nat}{c:RowC}{e:List (Nat × Row)}:AS.app (st n l vs cs) d ⟨v,(k,⟨m,c⟩)::e⟩=AS.app (st n l (upd vs k m) (insc cs k c)) d ⟨v,e⟩:=by
 have:(⟨n,look l,upd (fun k=>⟨vs k,lookc cs k⟩) k ⟨m,c⟩⟩:AS)=st n l (upd vs k m) (insc cs k c):=by
  simp only[st,AS.mk.injEq,true_and]
  funext j
  rw[lookc_insc]
  unfold upd
  split<;>rfl
 rw[← this]
 cases d<;>rfl
theorem row_st {k m:Nat}{c:RowC}:AS.row (st n l vs cs) k ⟨m,c⟩=st n l (upd vs k m) (insc cs k c):=by
 simp only[AS.row,st,AS.mk.injEq,true_and]
 funext j
 rw[lookc_insc]
 unfold upd
 split<;>rfl
theorem verf_st:(st n l vs cs).ver=vs:=rfl
def backCs (ρ:List (Nat × Nat)) (ver:Nat→Nat) (L':List (Nat × RowC)):List (Nat × Nat)→List (Nat × RowC)→List (Nat × RowC)
 | [],cs=>cs
 | (pk,ck)::l,cs=>backCs ρ ver L' l (insc cs ck (backC ρ ver (lookc L' pk)))
theorem backs_st {ρ:List (Nat × Nat)}{L':List (Nat × RowC)}:(st n l vs cs).backs ρ L'=st n l vs (backCs ρ vs L' ρ cs):=by
 have:∀ (q:List (Nat × Nat)) (cs:List (Nat × RowC)),backRows ρ vs L' q (fun k=>⟨vs k,lookc cs k⟩)=fun k=>⟨vs k,lookc (backCs ρ vs L' q cs) k⟩:=by
  intro q
  induction q with
  | nil=>intro cs;rfl
  | cons x q ih =>
    intro cs
    obtain⟨pk,ck⟩:=x
    simp only[backRows,backCs];rw[← ih]
    congr 1
    funext j
    rw[lookc_insc]
    unfold upd
    split
    ·rename_i e;subst e;rfl
    ·rfl
 show (⟨n,look l,backRows ρ vs L' ρ fun k=>⟨vs k,lookc cs k⟩⟩:AS)=_
 rw[this]
 rfl
theorem xcall_mut {P:Program}{F:FuncId}{L L':List (Nat × RowC)}{args caps:List AV}{r:AV}{d:Option Nat}{f:AV}{xs:List AV}{K:AS→Prop}(h:MCalls P F L L' args r) (ρ:List (Nat × Nat)) (hf:callee? f=some (F,caps))
 (hx:lendL ρ vs (xs++caps)=some args) (hl:lendOk ρ (st n l vs cs) ρ L) (ha:apart ρ=true) (hs:sameKeys ρ L'=true) (hK:K (AS.put (st n l vs (backCs ρ vs L' ρ cs)) d (backA ρ vs r))):xcall P false (st n l vs cs) d f xs K:=by
 refine .inr (.inl ⟨rfl,.inl ⟨F,caps,ρ,L,L',args,r,hf,hx,hl,ha,hs,h,?_⟩⟩)
 rw[backs_st]
 exact hK
theorem xcall_own {P:Program}{D:Bool}{F:FuncId}{args:List RV}{caps:List AV}{t sz m dd:Nat}{es:List (List RV)}{f:AV}{xs:List AV}{K:AS→Prop}(h:OCalls P F args t sz es m) (hf:callee? f=some (F,caps))
 (hs:snapPL (st n l vs cs).rows (xs++caps)) (he:snapVL (st n l vs cs).rows (xs++caps)=args) (hd:dd<1000) (hD:D=true→lookc cs dd = .dead) (hK:K (st n ((dd,.os dd (vs dd+1) sz 0 m)::l) (upd vs dd (vs dd+1)) (insc cs dd (.arr t sz es)))):xcall P D (st n l vs cs) (some dd) f xs K:=by
 have ho:ocall P (st n l vs cs) (some dd) f xs K:=by
  refine⟨F,caps,args,t,sz,es,m,dd,hf,hs,he▸leL_refl _,h,rfl,hd,?_⟩
  rw[row_st,put_st]
  exact hK
 cases D
 ·exact .inr (.inl ⟨rfl,.inr (.inl ho)⟩)
 ·exact .inr (.inr ⟨rfl,hD rfl,ho⟩)
def keepL (tm:Nat→AV):List Nat→List (Nat × AV)
 | []=>[]
 | k::l=>(k,tm k)::keepL tm l
theorem keepL_mem {tm:Nat→AV}:∀ {ks:List Nat},∀ p∈keepL tm ks,tm p.1=p.2
 | [],p,h=>by simp [keepL] at h
 | k::ks, p, h=>by
   simp only[keepL,List.mem_cons] at h
   rcases h with rfl|h
   ·rfl
   ·exact keepL_mem p h
theorem zk (ks:List Nat):Sub (st n l vs cs) (st n (keepL (look l) ks) vs cs):=sub_look _ keepL_mem
theorem sub_killc (k:Nat) (hk0:k<1000):Sub (st n l vs cs) (st n l (upd vs k (vs k+1)) (delc cs k)):=by
 have:=sub_kill (st n l vs cs) k hk0
 have e:({ st n l vs cs with rows:=upd (st n l vs cs).rows k ⟨((st n l vs cs).rows k).ver+1,.dead⟩ }:AS)=st n l (upd vs k (vs k+1)) (delc cs k):=by
  simp only[st,AS.mk.injEq,true_and]
  funext j
  rw[lookc_delc]
  unfold upd
  split<;>rfl
 rwa [e] at this
def killV (vs:Nat→Nat):List Nat→Nat→Nat
 | []=>vs
 | k::ks=>killV (upd vs k (vs k+1)) ks
def killC (cs:List (Nat × RowC)):List Nat→List (Nat × RowC)
 | []=>cs
 | k::ks=>killC (delc cs k) ks
def small:List Nat→Bool
 | []=>true
 | k::ks=>decide (k<1000)&&small ks
theorem sub_kills:∀ (ks:List Nat) (vs:Nat→Nat) (cs:List (Nat × RowC)),small ks=true→Sub (st n l vs cs) (st n l (killV vs ks) (killC cs ks))
 | [],_,_,_=>Sub.refl _
 | k::ks, _, _, h=>by
   simp only[small,Bool.and_eq_true,decide_eq_true_eq] at h
   exact (sub_killc k h.1).trans (sub_kills ks _ _ h.2)
theorem sub_own (t k e sz:Nat) (hk0:k<1000) (h:look l t = .r .ns):Sub (st n l vs cs) (st n (ins l t (.os k (vs k+1) sz 0 0)) (upd vs k (vs k+1)) (insc cs k (.arr e sz []))):=by
 have:=sub_adopt (st n l vs cs) t k e sz hk0 h
 have e:({ st n l vs cs with tm:=upd (st n l vs cs).tm t (.os k (((st n l vs cs).rows k).ver+1) sz 0 0),rows:=upd (st n l vs cs).rows k ⟨((st n l vs cs).rows k).ver+1,.arr e sz []⟩ }:AS)
  = st n (ins l t (.os k (vs k+1) sz 0 0)) (upd vs k (vs k+1)) (insc cs k (.arr e sz [])):=by
  simp only[st,AS.mk.injEq,true_and]
  constructor
  ·funext j;rw[look_ins];rfl
  ·funext j
   rw[lookc_insc]
   unfold upd
   split<;>rfl
 rwa [e] at this
def allEq (l:List (Nat × AV)):List (Nat × AV)→Prop
 | []=>True
 | (k,v)::r=>look l k=v∧allEq l r
theorem allEq_mem:∀ {r:List (Nat × AV)},allEq l r→∀ p∈r,look l p.1=p.2
 | [],_,p,h=>by simp at h
 | q::r, h, p, hp=>by
   simp only[List.mem_cons] at hp
   rcases hp with rfl|hp
   ·exact h.1
   ·exact allEq_mem h.2 p hp
def Fit (n:Nat) (F:(Nat→Nat)→List (Nat × AV)) (R:List (Nat × RowC)) (s:AS):Prop:=∃ vs,Sub s (st n (F vs) vs R)
theorem zfo (ks:List Nat) {F:(Nat→Nat)→List (Nat × AV)}{R:List (Nat × RowC)}(h1:allEq l (F (killV vs ks))) (h2:killC cs ks=R) (h3:small ks=true:=by rfl):Fit n F R (st n l vs cs):=by
 refine⟨killV vs ks,(sub_kills ks vs cs h3).trans ?_⟩
 subst h2
 exact sub_look _ (allEq_mem h1)
theorem awp_while {P:Program}{C:Ctx}{c:Code}{Q:Exit→AS→Prop}{s:AS}{α:Type}(F:α→(Nat→Nat)→List (Nat × AV)) (R:α→List (Nat × RowC)) (I:α→Prop) (m:α→Nat) (x0:α)
 (h0:Fit n (F x0) (R x0) s) (hI:I x0)
 (round:∀ x vs,I x→awp P C c (andThen (fun s'=>∃ y,I y∧m y<m x∧Fit n (F y) (R y) s') Q) (st n (F x vs) vs (R x))):awp P C (.loop c) Q s:=by
 refine awp_loop (fun k s=>∃ x,I x∧m x=k∧Fit n (F x) (R x) s) (m x0) ⟨x0,hI,rfl,h0⟩ ?_
 rintro k s ⟨x,hx,rfl,vs,hs⟩
 refine zw hs (awp_mono ?_ (round x vs hx))
 intro e s' hq
 cases e with
 | normal =>
   obtain⟨y,hy,hlt,hf⟩:=hq
   exact⟨m y,hlt,y,hy,rfl,hf⟩
 | _=>exact hq
theorem zup {P:Program}{C:Ctx}{c:Code}{Q:Exit→AS→Prop}{s:AS}(N:Nat) (F:Nat→(Nat→Nat)→List (Nat × AV)) (R:Nat→List (Nat × RowC)) (I:Nat→Prop) (i0:Nat)
 (h0:Fit n (F i0) (R i0) s) (hi:i0≤N) (hI:I i0)
 (round:∀ i vs,i≤N→I i→awp P C c (andThen (fun s'=>i<N∧I (i+1)∧Fit n (F (i+1)) (R (i+1)) s') Q) (st n (F i vs) vs (R i))):awp P C (.loop c) Q s:=by
 refine awp_while F R (fun i=>i≤N∧I i) (fun i=>N-i) i0 h0 ⟨hi,hI⟩ ?_
 rintro i vs ⟨hi,hI⟩
 refine awp_mono ?_ (round i vs hi hI)
 intro e s' hq
 cases e with
 | normal =>
   obtain⟨h1,h2,h3⟩:=hq
   exact⟨i+1,⟨h1,h2⟩,by omega,h3⟩
 | _=>exact hq
def argL:Nat→List RV→List (Nat × AV)
 | _,[]=>[]
 | k,x::xs=>(k,.r x)::argL (k+1) xs
theorem argL_mem:∀ {k:Nat}{xs:List RV},∀ p∈argL k xs,∃ i x,p=(k+i,.r x)∧xs[i]? = some x
 | k,[],p,h=>by simp [argL] at h
 | k, x::xs, p, h=>by
   simp only[argL,List.mem_cons] at h
   rcases h with rfl|h
   ·exact⟨0,x,rfl,rfl⟩
   ·obtain⟨i,y,rfl,e⟩:=argL_mem p h
    exact⟨i+1,y,by rw[Nat.add_right_comm,Nat.add_assoc],by simpa using e⟩
def fpostL (P:Program) (res:List ResultVar) (rs:List RV):Exit→AS→Prop
 | .normal,s=>resOk P s res rs
 | .ret,s=>resOk P s res rs
 | _,_=>False
theorem argL_look:∀ {k:Nat}{xs:List RV}{j:Nat}{x:RV},xs[j]? = some x→look (argL k xs) (k+j) = .r x
 | k,[],j,x,h=>by simp at h
 | k, y::xs, j, x, h=>by
   simp only[argL,look_cons]
   cases j with
   | zero=>simp at h;subst h;simp
   | succ j =>
     have:¬ k+(j+1)=k:=by omega
     simp only[this,if_false];rw[show k+(j+1)=k+1+j from by omega]
     exact argL_look (by simpa using h)
theorem look_none {l:List (Nat × AV)}{t:Nat}(h:¬ ∃ x,(t,x)∈l):look l t = .r .un:=by
 induction l with
 | nil=>rfl
 | cons q l ih =>
   obtain⟨k,v⟩:=q
   simp only[look_cons]
   by_cases e:t=k
   ·subst e;exact absurd ⟨v,by simp⟩ h
   ·simp only[e,if_false];exact ih (fun ⟨x,hx⟩=>h ⟨x,by simp [hx]⟩)
theorem acalls_stR {P:Program}{f:FuncId}{fn:Func}{c:Code}{n:Nat}{args rs:List RV}{r:RV}(res:List ResultVar) (hf:P.funcs[f]? = some fn) (hb:fn.body=some c) (hc:callable P f=true) (hn:fn.ntmps=n) (hres:fn.results.toList=res) (hargs:args.length≤n) (hr:resV rs=r)
 (h:∀ C:Ctx,C.rd=none∧C.X=XS.none→∀ vs,awp P C c (fpostL P res rs) (st n (argL 0 args) vs [])):ACalls P f args r :=
 acalls_ofR hf hb hc hn hargs hr fun C hC=>zw (sub_look _ fun p hp=>by
  obtain⟨i,x,rfl,e⟩:=argL_mem p hp
  simp only[argTm,Nat.zero_add,e]) (awp_mono (fun e s h=>by subst hres;cases e<;>exact h) (h C hC fun _=>0))
def keyIn:List (Nat × RowC)→Nat→Bool
 | [],_=>false
 | (k,_)::L,j=>if j=k then true else keyIn L j
theorem zas {P:Program}{f:FuncId}{fn:Func}{c:Code}{n:Nat}{args rs:List RV}{r:RV}(res:List ResultVar) (hf:P.funcs[f]? = some fn) (hb:fn.body=some c) (hc:callable P f=true) (hn:fn.ntmps=n) (hres:fn.results.toList=res) (hargs:args.length≤n) (hr:resV rs=r)
 (h:∀ C vs,awp P C c (fpostL P res rs) (st n (argL 0 args) vs [])):ACalls P f args r:=acalls_stR res hf hb hc hn hres hargs hr fun C _=>h C
def fnOk (ks:List (Nat × RowC)):List AV→Bool
 | []=>true
 | .r _::cs=>fnOk ks cs
 | .pt j _ _::cs=>keyIn ks j&&fnOk ks cs
 | _::_=>false
def frz1 (ks:List (Nat × RowC)) (rows:Nat→Row):AV→AV
 | .r v=>.r v
 | .os j n sz off m=>if keyIn ks j then .os j n sz off m else .r (snap1V rows (.os j n sz off m))
 | .pt j n off=>if keyIn ks j then .pt j n off else .r .un
 | .pe j n sz idx off=>if keyIn ks j then .pe j n sz idx off else .r .un
 | .mp j n=>if keyIn ks j then .mp j n else .r .un
 | .pu j n u=>if keyIn ks j then .pu j n u else .r .un
 | .fn f cs=>if fnOk ks cs then .fn f cs else .r .un
 | _=>.r .un
def frzP1 (ks:List (Nat × RowC)) (rows:Nat→Row):AV→Prop
 | .os j n sz off m=>if keyIn ks j then True else (j<1000∧snap1P rows (.os j n sz off m))
 | _=>True
def frzL (ks:List (Nat × RowC)) (rows:Nat→Row):List AV→List AV
 | []=>[]
 | x::xs=>frz1 ks rows x::frzL ks rows xs
def frzPL (ks:List (Nat × RowC)) (rows:Nat→Row):List AV→Prop
 | []=>True
 | x::xs=>frzP1 ks rows x∧frzPL ks rows xs
def frzC (ks:List (Nat × RowC)) (rows:Nat→Row):RowC→RowC
 | .box cs=>.box (frzL ks rows cs)
 | .arr t sz es=>.arr t sz es
 | .mp m=>.mp m
 | .mem Φ=>.mem Φ
 | _=>.dead
def frzPC (ks:List (Nat × RowC)) (rows:Nat→Row):RowC→Prop
 | .box cs=>frzPL ks rows cs
 | _=>True
def mfin (ks:List (Nat × RowC)) (rows:Nat→Row):List (Nat × RowC)→List (Nat × RowC)→Prop
 | [],[]=>True
 | (k,_)::L,(k',c')::L'=>k'=k∧okC (rows k).c=true∧frzPC ks rows (rows k).c∧frzC ks rows (rows k).c=c'∧mfin ks rows L L'
 | _,_=>False
def pinned:List (Nat × RowC)→Bool
 | []=>true
 | (k,c)::L=>decide (1000≤k)&&okC c && !keyIn L k&&pinned L
def resM (P:Program) (ks:List (Nat × RowC)) (s:AS):List ResultVar→List AV→Prop
 | [],rs=>rs=[]
 | v::vs,rs=>(resA P s v).pre∧frzP1 ks s.rows (resA P s v).y.av∧∃ rs',rs=frz1 ks s.rows (resA P s v).y.av::rs'∧resM P ks s vs rs'
def resMV:List AV→AV
 | [r]=>r
 | rs=>.tu rs
def mpostL (P:Program) (res:List ResultVar) (rs:List AV) (L L':List (Nat × RowC)):Exit→AS→Prop
 | .normal,s=>resM P L s res rs∧mfin L s.rows L L'
 | .ret,s=>resM P L s res rs∧mfin L s.rows L L'
 | _,_=>False
theorem mpostL_normal {P:Program}{s:AS}{us:List ResultVar}{rs:List AV}{L L':List (Nat × RowC)}:mpostL P us rs L L' .normal s=(resM P L s us rs∧mfin L s.rows L L'):=rfl
theorem mpostL_ret {P:Program}{s:AS}{us:List ResultVar}{rs:List AV}{L L':List (Nat × RowC)}:mpostL P us rs L L' .ret s=(resM P L s us rs∧mfin L s.rows L L'):=rfl
def argA:Nat→List AV→List (Nat × AV)
 | _,[]=>[]
 | k,x::xs=>(k,x)::argA (k+1) xs
theorem argA_look:∀ {k:Nat}{xs:List AV}{j:Nat},look (argA k xs) j=if k≤j then (xs[j-k]?).getD (.r .un) else .r .un
 | k,[],j=>by simp [argA,look_nil]
 | k, x::xs, j=>by
   simp only[argA,look_cons,argA_look]
   by_cases e:j=k
   ·subst e;simp
   ·by_cases e2:k≤j
    ·have h1:k+1≤j:=by omega
     simp only[e,if_false,h1,e2,if_true];rw[show j-k=(j-(k+1))+1 from by omega]
     simp
    ·have h1:¬ k+1≤j:=by omega
     simp [e,h1,e2]
theorem lookc_not {L:List (Nat × RowC)}{k:Nat}(h:keyIn L k=false):lookc L k = .dead:=by
 induction L with
 | nil=>rfl
 | cons x L ih =>
   obtain⟨j,c⟩:=x
   simp only[keyIn] at h
   simp only[zlc]
   split at h
   ·cases h
   ·rename_i e;simp only[e,if_false];exact ih h
theorem pinned_ge {L:List (Nat × RowC)}(h:pinned L=true) {k:Nat}(hk:keyIn L k=true):1000≤k∧okC (lookc L k)=true:=by
 induction L with
 | nil=>simp [keyIn] at hk
 | cons x L ih =>
   obtain⟨j,c⟩:=x
   simp only[pinned,Bool.and_eq_true,decide_eq_true_eq] at h
   simp only[keyIn] at hk
   simp only[zlc]
   split at hk
   ·rename_i e;subst e;simp only[if_true];exact⟨h.1.1.1,h.1.1.2⟩
   ·rename_i e;simp only[e,if_false];exact ih h.2 hk
theorem mfin_get {ks:List (Nat × RowC)}{rows:Nat→Row}:∀ {L L':List (Nat × RowC)},mfin ks rows L L'→(∀ k,keyIn L k=true→okC (rows k).c=true∧frzPC ks rows (rows k).c∧lookc L' k=frzC ks rows (rows k).c)∧∀ k,keyIn L k=false→lookc L' k = .dead
 | [],[],_=>⟨fun _ h=>by simp [keyIn] at h,fun _ _=>rfl⟩
 | [],_::_,h=>by simp [mfin] at h
 | _::_,[],h=>by simp [mfin] at h
 | (k, c)::L, (k', c')::L', h=>by
   simp only[mfin] at h
   obtain⟨rfl,h1,h2,h3,h4⟩:=h
   obtain⟨g1,g2⟩:=mfin_get h4
   refine⟨fun j hj=>?_,fun j hj=>?_⟩
   ·simp only[keyIn] at hj
    simp only[zlc]
    by_cases e:j=k'
    ·subst e;simp only[if_true];exact⟨h1,h2,h3.symm⟩
    ·simp only[e,if_false] at hj ⊢;exact g1 j hj
   ·simp only[keyIn] at hj
    simp only[zlc]
    by_cases e:j=k'
    ·simp [e] at hj
    ·simp only[e,if_false] at hj ⊢;exact g2 j hj
section
variable {P:Program}{C:Ctx}{p p0:Plan}{s:AS}{a:Act}{w:World}
theorem fn_relV {L:List (Nat × RowC)}(hpin:∀ k,keyIn L k=true→p.β k=p0.β k∧p.γ k=p0.γ k∧s.ver k=0) {R':Nat→Prop}(hR:∀ b,p.R b→R' b) :
 ∀ {xs:List AV}{vs:List Value},fnOk L xs=true→AV.relV w p s.ver xs vs→AV.relV w { p0 with R:=R' } (fun _=>0) xs vs
 | [],_,_,hV=>by simp only[AV.relV] at hV ⊢;exact hV
 | x::xs, _, hf, hV=>by
   simp only[AV.relV] at hV
   obtain⟨u,us,e,h1,h2⟩:=hV
   cases x with
   | r x =>
     simp only[fnOk] at hf
     simp only[AV.relV,AV.rel] at h1 ⊢
     exact⟨u,us,e,RV.rel_mono hR (fun _ _=>rfl) _ _ h1,fn_relV hpin hR hf h2⟩
   | pt j n off =>
     simp only[fnOk,Bool.and_eq_true] at hf
     obtain⟨g1,g2,g3⟩:=hpin j hf.1
     simp only[AV.relV,AV.rel] at h1 ⊢
     rw[g1,g3] at h1
     exact⟨u,us,e,h1,fn_relV hpin hR hf.2 h2⟩
   | _=>simp [fnOk] at hf
theorem frz_rel (h:SR C p s a w) {L:List (Nat × RowC)}(hpin:∀ k,keyIn L k=true→p.β k=p0.β k∧p.γ k=p0.γ k∧s.ver k=0) {R':Nat→Prop}(hR:∀ b,p.R b→R' b) (hR2:∀ j b,j<1000→p.β j=some b→R' b)
 {x:AV}{v:Value}(hp:frzP1 L s.rows x) (hv:x.rel w p s.ver v):(frz1 L s.rows x).rel w { p0 with R:=R' } (fun _=>0) v:=by
 have un:∀ {x:AV},x = .r .un→x.rel w { p0 with R:=R' } (fun _=>0) v:=fun e=>by rw[e];exact AV.rel_un _ _ _ _
 cases x with
 | r x =>
   simp only[AV.rel] at hv
   simp only[frz1,AV.rel];exact RV.rel_mono hR (fun _ _=>rfl) _ _ hv
 | os j n sz off m =>
   simp only[frz1]
   simp only[frzP1] at hp
   split
   ·rename_i hk
    obtain⟨h1,h2,h3⟩:=hpin j hk
    simp only[AV.rel] at hv ⊢
    rw[h1,h2,h3] at hv
    exact hv
   ·rename_i hk
    rw[if_neg hk] at hp
    simp only[AV.rel];exact snap_os h hp.2.1 hp.2.2 hv hR (fun b hb=>hR2 j b hp.1 hb)
 | pt j n off =>
   simp only[frz1]
   split
   ·rename_i hk
    obtain⟨h1,h2,h3⟩:=hpin j hk
    simp only[AV.rel] at hv ⊢
    rw[h1,h3] at hv
    exact hv
   ·exact AV.rel_un _ _ _ _
 | pu j n u =>
   simp only[frz1]
   split
   ·rename_i hk
    obtain⟨h1,h2,h3⟩:=hpin j hk
    simp only[AV.rel] at hv ⊢
    rw[h1,h3] at hv
    exact hv
   ·exact AV.rel_un _ _ _ _
 | pe j n sz idx off =>
   simp only[frz1]
   split
   ·rename_i hk
    obtain⟨h1,h2,h3⟩:=hpin j hk
    simp only[AV.rel] at hv ⊢
    rw[h1,h3] at hv
    exact hv
   ·exact AV.rel_un _ _ _ _
 | mp j n =>
   simp only[frz1]
   split
   ·rename_i hk
    obtain⟨h1,h2,h3⟩:=hpin j hk
    simp only[AV.rel] at hv ⊢
    rw[h1,h3] at hv
    exact hv
   ·exact AV.rel_un _ _ _ _
 | fn f cs =>
   simp only[frz1]
   split
   ·rename_i hk
    simp only[AV.rel] at hv ⊢
    obtain⟨us,hu,hV⟩:=hv
    exact⟨us,hu,fn_relV hpin hR hk hV⟩
   ·exact AV.rel_un _ _ _ _
 | _=>exact AV.rel_un _ _ _ _
theorem frz_relV (h:SR C p s a w) {L:List (Nat × RowC)}(hpin:∀ k,keyIn L k=true→p.β k=p0.β k∧p.γ k=p0.γ k∧s.ver k=0) {R':Nat→Prop}(hR:∀ b,p.R b→R' b) (hR2:∀ j b,j<1000→p.β j=some b→R' b) :
 ∀ {xs:List AV}{vs:List Value},frzPL L s.rows xs→AV.relV w p s.ver xs vs→AV.relV w { p0 with R:=R' } (fun _=>0) (frzL L s.rows xs) vs
 | [],_,_,hV=>by simp only[AV.relV] at hV;simp only[frzL,AV.relV];exact hV
 | x::xs, _, hp, hV=>by
   simp only[frzPL] at hp
   simp only[AV.relV] at hV
   obtain⟨u,us,e,h1,h2⟩:=hV
   simp only[frzL,AV.relV];exact⟨u,us,e,frz_rel h hpin hR hR2 hp.1 h1,frz_relV h hpin hR hR2 hp.2 h2⟩
theorem run_resML (h:SR C p s a w) {L:List (Nat × RowC)}(hpin:∀ k,keyIn L k=true→p.β k=p0.β k∧p.γ k=p0.γ k∧s.ver k=0) {R':Nat→Prop}(hR:∀ b,p.R b→R' b) (hR2:∀ j b,j<1000→p.β j=some b→R' b) :
 ∀ (vs:List ResultVar) (rs:List AV),resM P L s vs rs→∃ us,(vs.mapM (resOp a.tmps)).run P w = .ok us w∧AV.relV w { p0 with R:=R' } (fun _=>0) rs us
 | [],rs,hm=>by simp only[resM] at hm;subst hm;exact⟨[],rfl,by simp [AV.relV]⟩
 | v::vs, rs, hm=>by
   obtain⟨hp,hf,rs',rfl,hrest⟩:=hm
   obtain⟨u,hu,hrel⟩:=run_result h v hp
   obtain⟨us,hus,hV⟩:=run_resML h hpin hR hR2 vs rs' hrest
   refine⟨u::us,?_,by simp only[AV.relV];exact⟨u,us,rfl,frz_rel h hpin hR hR2 hf hrel,hV⟩⟩
   simp only[List.mapM_cons,Sem.run_bind,hu,Result.andThen_ok,hus,Sem.run_pure]
theorem run_resM (h:SR C p s a w) {L:List (Nat × RowC)}(hpin:∀ k,keyIn L k=true→p.β k=p0.β k∧p.γ k=p0.γ k∧s.ver k=0) {R':Nat→Prop}(hR:∀ b,p.R b→R' b) (hR2:∀ j b,j<1000→p.β j=some b→R' b)
 {fn:Func}{rs:List AV}(hm:resM P L s fn.results.toList rs):∃ v,(results fn a.tmps).run P w = .ok v w∧(resMV rs).rel w { p0 with R:=R' } (fun _=>0) v:=by
 obtain⟨us,hus,hV⟩:=run_resML h hpin hR hR2 _ _ hm
 have hm:(fn.results.mapM (resOp a.tmps)).run P w = .ok us.toArray w:=by
  rw[Array.mapM_eq_mapM_toList]
  simp only[Sem.run_map,hus,Result.andThen_ok]
 have hl:=AV.relV_length hV
 refine⟨if h:us.toArray.size=1 then us.toArray[0] else .tuple us.toArray,?_,?_⟩
 ·rw[results_eq,Sem.run_bind,hm]
  simp only[Result.andThen_ok,Sem.run_pure]
 ·match rs,us,hl,hV with
  | [r], [u], _, hV =>
    simp only[AV.relV] at hV
    obtain⟨u',us',e,h1,_⟩:=hV
    injection e with e1 e2
    subst e1
    simpa [resMV] using h1
  | [], us, hl, hV =>
    have:us=[]:=List.eq_nil_of_length_eq_zero (by simpa using hl)
    subst this
    simp only[resMV,AV.rel];exact⟨#[],rfl,hV⟩
  | r1::r2::rs, us, hl, hV =>
    have:¬ us.toArray.size=1:=by simp at hl ⊢;omega
    rw[dif_neg this]
    simp only[resMV,AV.rel];exact⟨us.toArray,rfl,hV⟩
theorem mcalls_stO {f:FuncId}{fn:Func}{c:Code}{n:Nat}{rs:List AV}{r:AV}{args:List AV}(L L':List (Nat × RowC)) (res:List ResultVar) (hf:P.funcs[f]? = some fn) (hb:fn.body=some c) (hc:callable P f=true) (hn:fn.ntmps=n) (hres:fn.results.toList=res)
 (hargs:args.length≤n) (hr:resMV rs=r) (hL:pinned L=true) (h:∀ C:Ctx,(C.rd=none∧C.X=XS.none)∧(∀ b,¬ C.own b)∧(∀ k,keyIn L k=true→∃ x,C.pin k=some x∧∀ b,x.1=some b→C.bor b)→awp P C c (mpostL P res rs L L') (st n (argA 0 args) (fun _=>0) L)):MCalls P f L L' args r:=by
 refine⟨hc,fun w p vs hpl hR hβ hij hγ hrows hV=>?_⟩
 have hlen:=AV.relV_length hV
 simp only[Array.length_toList] at hlen
 let C:Ctx:={ w0:=w,R0:=p.R,bor:=fun b=>∃ k,p.β k=some b,pin:=fun k=>if keyIn L k then some (p.β k,p.γ k) else none }
 have hs:SR C p (st n (argA 0 args) (fun _=>0) L) { tmps:=vs++Array.replicate (fn.ntmps-vs.size) undef,defers:=[] } w:={
  base:=⟨rfl,rfl,rfl,Nat.le_refl _,fun _ _ _ _=>rfl⟩
  r0:=fun _ h=>h
  rn:=fun _ h=>.inl h
  rb:=hR
  tm:=fun t=>by
   show (look (argA 0 args) t).rel _ _ _ _
   rw[argA_look,if_pos (Nat.zero_le _),Nat.sub_zero]
   cases e:args[t]? with
   | none=>exact AV.rel_un _ _ _ _
   | some x =>
     obtain⟨u,hu,hx⟩:=AV.relV_get hV e
     have:(vs++Array.replicate (fn.ntmps-vs.size) undef).getD t undef=u:=by
      have ht:t<vs.size:=by have:=(List.getElem?_eq_some_iff.1 hu).1;simpa using this
      rw[Array.getD_eq_getD_getElem?,Array.getElem?_append_left ht]
      simp only[Array.getElem?_toList] at hu
      rw[hu];rfl
     rw[this]
     exact hx
  sz:=by simp only[Array.size_append,Array.size_replicate,st];omega
  ex:=ext_start (fun b h=>h.elim (fun ⟨k,hk⟩=>(hβ k b hk).1) (fun h=>h.elim)) hpl.1 rfl hpl.2.1 hpl.2.2
  rw:=hrows
  bl:=fun k b h=>⟨(hβ k b h).1,(hβ k b h).2,.inr (.inl ⟨by
   cases hk:keyIn L k with
   | true=>exact (pinned_ge hL hk).1
   | false =>
     have hr:=hrows k
     rw[lookc_not hk] at hr
     simp only[zrl] at hr
     exact absurd (hr.1.symm.trans h) (by simp),k,h⟩)⟩
  ij:=hij
  cap:=hγ
  pn:=fun k x hx=>by
   have hx':(if keyIn L k then some (p.β k,p.γ k) else none)=some x:=hx
   split at hx'
   ·rename_i hk
    injection hx' with hx'
    subst hx'
    exact⟨rfl,rfl,rfl,(pinned_ge hL hk).1⟩
   ·cases hx'
  lk:=fun j km n l cur hj _=>by
   have hj':lookc L j = .mi km n l cur:=hj
   cases hk:keyIn L j with
   | true=>have:=(pinned_ge hL hk).2;rw[hj'] at this;simp [okC] at this
   | false=>rw[lookc_not hk] at hj';cases hj' }
 refine callsIn_wide.1 (callsIn_of_wp_marks (n:=0) hf hb trivial (wpIn_mono (h C ⟨⟨rfl,rfl⟩,fun _ h=>h,fun k hk=>⟨_,by show (if keyIn L k then some (p.β k,p.γ k) else none)=_;rw[if_pos hk],fun b hb=>⟨k,hb⟩⟩⟩ _ w ⟨p,hs⟩) ?_))
 rintro e a' w' ⟨s',⟨p',hs'⟩,hq⟩
 have fin:∀ (a':Act) (w':World) (_:SR C p' s' a' w'),resM P L s' fn.results.toList rs∧mfin L s'.rows L L'→∃ v,(results fn a'.tmps).run P w' = .ok v w'∧∃ v' R',Ending.returned v = .returned v'∧(w'.os=w.os∧w'.tape=w.tape∧w'.output=w.output∧w.heap.size≤w'.heap.size) ∧
  (∀ k,k<w.heap.size→(∀ j,p.β j≠some k)→w'.heap[k]? = w.heap[k]?)∧(∀ b,p.R b→R' b)∧(∀ b,R' b→p.R b∨w.heap.size≤b)∧(∀ b,R' b→b<w'.heap.size) ∧
  (∀ k,zrl w' { p with R:=R' } (fun _=>0) k (lookc L' k))∧r.rel w' { p with R:=R' } (fun _=>0) v':=fun a' w' hs' ⟨hres,hm⟩=>by
  have hpin:∀ k,keyIn L k=true→p'.β k=p.β k∧p'.γ k=p.γ k∧s'.ver k=0:=fun k hk=>by
   obtain⟨h1,h2,h3,_⟩:=hs'.pn k (p.β k,p.γ k) (by show (if keyIn L k then some (p.β k,p.γ k) else none)=_;rw[if_pos hk])
   exact⟨h1,h2,h3⟩
  have hnew:∀ j b,j<1000→p'.β j=some b→w.heap.size≤b:=fun j b hj hb=>by
   rcases (hs'.bl j b hb).2.2.imp id (fun h=>h.resolve_right fun h=>h) with h1|⟨_,k,hk⟩
   ·exact h1
   ·exfalso
    cases hkk:keyIn L k with
    | true =>
      have h2:=(hpin k hkk).1.trans hk
      have:=hs'.ij j k b hb h2
      have:=(pinned_ge hL hkk).1
      omega
    | false =>
      have h2:=hrows k
      rw[lookc_not hkk] at h2
      simp only[zrl] at h2
      rw[h2.1] at hk;cases hk
  obtain⟨v,hv,hrel⟩:=run_resM (p0:=p) hs' hpin (R':=fun b=>p'.R b∨∃ j,j<1000∧p'.β j=some b) (fun _ h=>.inl h) (fun j b hj hb=>.inr ⟨j,hj,hb⟩) hres
  rw[hr] at hrel
  refine⟨v,hv,v,fun b=>p'.R b∨∃ j,j<1000∧p'.β j=some b,rfl,⟨hs'.base.os,hs'.base.tape,hs'.base.output,hs'.base.size⟩,fun k hk hn=>hs'.base.block k hk (fun ⟨j,hj⟩=>hn j hj) (fun h=>h),fun b hb=>.inl (hs'.r0 b hb),fun b hb=>?_,fun b hb=>?_,fun k=>?_,hrel⟩
  ·rcases hb with hb|⟨j,hj,hb⟩
   ·exact (hs'.rn b hb).imp id (fun h=>h.resolve_right fun h=>h)
   ·exact .inr (hnew j b hj hb)
  ·rcases hb with hb|⟨j,hj,hb⟩
   ·exact hs'.rb b hb
   ·exact (hs'.bl j b hb).1
  ·obtain⟨g1,g2⟩:=mfin_get hm
   cases hk:keyIn L k with
   | false =>
     rw[g2 k hk]
     have h2:=hrows k
     rw[lookc_not hk] at h2
     simp only[zrl] at h2 ⊢
     exact h2
   | true =>
     obtain⟨q1,q2,q3⟩:=g1 k hk
     obtain⟨h1,h2,h3⟩:=hpin k hk
     rw[q3]
     have hr:=hs'.rw k
     have hR1:∀ b,p'.R b→(p'.R b∨∃ j,j<1000∧p'.β j=some b):=fun _ h=>.inl h
     cases hcc:(s'.rows k).c with
     | box cs =>
       rw[hcc] at hr q2
       simp only[zrl] at hr
       simp only[frzC,zrl]
       obtain⟨b,cells,t,e1,e2,e3,e4⟩:=hr
       exact⟨b,cells,t,h1.symm.trans e1,e2,frz_relV (p0:=p) hs' hpin hR1 (fun j b hj hb=>.inr ⟨j,hj,hb⟩) q2 e3,e4⟩
     | arr t sz es =>
       rw[hcc] at hr
       simp only[zrl] at hr
       simp only[frzC,zrl]
       rw[h1,h2] at hr
       refine hr.imp id ?_
       rintro ⟨b,cells,e1,e2,e3,e4,e5⟩
       exact⟨b,cells,e1,e2,e3,e4,RV.relE_mono hR1 (fun _ _=>rfl) _ _ _ _ (fun _=>rfl) e5⟩
     | mp m =>
       rw[hcc] at hr
       simp only[zrl] at hr
       simp only[frzC,zrl]
       rw[h1] at hr
       obtain⟨b,e1,e2⟩:=hr
       exact⟨b,e1,mapRel_mono hR1 (fun _ _=>rfl) rfl e2⟩
     | mem Φ =>
       rw[hcc] at hr
       simp only[zrl] at hr
       simp only[frzC,zrl]
       rw[h1] at hr
       obtain⟨m,b,e0,e1,e2⟩:=hr
       exact⟨m,b,e0,e1,mapRel_mono hR1 (fun _ _=>rfl) rfl e2⟩
     | _=>rw[hcc] at q1;simp [okC] at q1
 subst hres
 cases e with
 | normal=>exact hs'.leave fun a'' w'' _ hs''=>fin a'' w'' hs'' hq
 | ret=>exact hs'.leave fun a'' w'' _ hs''=>fin a'' w'' hs'' hq
 | _=>exact hq.elim
theorem mcalls_stR {f:FuncId}{fn:Func}{c:Code}{n:Nat}{rs:List AV}{r:AV}{args:List AV}(L L':List (Nat × RowC)) (res:List ResultVar) (hf:P.funcs[f]? = some fn) (hb:fn.body=some c) (hc:callable P f=true) (hn:fn.ntmps=n) (hres:fn.results.toList=res)
 (hargs:args.length≤n) (hr:resMV rs=r) (hL:pinned L=true) (h:∀ C:Ctx,C.rd=none∧C.X=XS.none→awp P C c (mpostL P res rs L L') (st n (argA 0 args) (fun _=>0) L)):MCalls P f L L' args r:=mcalls_stO L L' res hf hb hc hn hres hargs hr hL fun C hC=>h C hC.1
theorem mcalls_st {f:FuncId}{fn:Func}{c:Code}{n:Nat}{rs:List AV}{r:AV}{args:List AV}(L L':List (Nat × RowC)) (res:List ResultVar) (hf:P.funcs[f]? = some fn) (hb:fn.body=some c) (hc:callable P f=true) (hn:fn.ntmps=n) (hres:fn.results.toList=res)
 (hargs:args.length≤n) (hr:resMV rs=r) (hL:pinned L=true) (h:∀ C,awp P C c (mpostL P res rs L L') (st n (argA 0 args) (fun _=>0) L)):MCalls P f L L' args r:=mcalls_stR L L' res hf hb hc hn hres hargs hr hL fun C _=>h C
end
def resC (r:Res) (K:AV→Prop):Prop:=r.pre∧K r.y.av
def opostL (P:Program) (rv:ResultVar) (t sz:Nat) (es:List (List RV)) (m:Nat):Exit→AS→Prop
 | .normal,s=>resC (resA P s rv) fun v=>∃ j n,v = .os j n sz 0 m∧s.rows j=⟨n,.arr t sz es⟩
 | .ret,s=>resC (resA P s rv) fun v=>∃ j n,v = .os j n sz 0 m∧s.rows j=⟨n,.arr t sz es⟩
 | _,_=>False
theorem opostL_ret {P:Program}{rv:ResultVar}{t sz m:Nat}{es:List (List RV)}{s:AS}:opostL P rv t sz es m .ret s=resC (resA P s rv) fun v=>∃ j n,v = .os j n sz 0 m∧s.rows j=⟨n,.arr t sz es⟩:=rfl
theorem opostL_normal {P:Program}{rv:ResultVar}{t sz m:Nat}{es:List (List RV)}{s:AS}:opostL P rv t sz es m .normal s=resC (resA P s rv) fun v=>∃ j n,v = .os j n sz 0 m∧s.rows j=⟨n,.arr t sz es⟩:=rfl
theorem resA_tmp {P:Program}{t:Nat}{s:AS}:resA P s (.tmp t) = .val (s.tm t):=rfl
theorem resA_cell {P:Program}{t a:Nat}{s:AS}:resA P s (.cell a t)=sLoad P s t (s.tm a):=rfl
theorem flat_relC {w:World}{R R':Nat→Prop}:∀ (xs:List RV) (ad:Addr) (j:Nat),RV.flatL xs=true→RV.relC w R xs ad j→RV.relC w R' xs ad j
 | [],_,_,_,_=>by simp [RV.relC]
 | x::xs, ad, j, hf, h=>by
   simp only[RV.flatL,Bool.and_eq_true] at hf
   simp only[RV.relC] at h ⊢
   obtain⟨⟨u,h1,h2,h3⟩,h4⟩:=h
   exact⟨⟨u,h1,h2,flat_rel x u hf.1 h3⟩,flat_relC xs ad (j+1) hf.2 h4⟩
theorem flat_relE {w:World}{R R':Nat→Prop}{sz:Nat}:∀ (es:List (List RV)) (ad:Addr) (j:Nat),(∀ e∈es,RV.flatL e=true)→RV.relE w R sz es ad j→RV.relE w R' sz es ad j
 | [],_,_,_,_=>by simp [RV.relE]
 | e::es, ad, j, hf, h=>by
   simp only[RV.relE] at h ⊢
   exact⟨h.1,flat_relC e ad j (hf e (by simp)) h.2.1,flat_relE es ad (j+sz) (fun x hx=>hf x (by simp [hx])) h.2.2⟩
theorem ocalls_0R {P:Program}{f:FuncId}{fn:Func}{c:Code}{n:Nat}{args:List RV}{t sz m:Nat}{es:List (List RV)}(rv:ResultVar) (hf:P.funcs[f]? = some fn) (hb:fn.body=some c) (hc:callable P f=true) (hn:fn.ntmps=n) (hres:fn.results.toList=[rv]) (hargs:args.length≤n)
 (hfl:∀ e∈es,RV.flatL e=true) (h:∀ C:Ctx,C.rd=none∧C.X=XS.none→awp P C c (opostL P rv t sz es m) (st n (argL 0 args) (fun _=>0) [])):OCalls P f args t sz es m:=by
 refine⟨hc,fun w R vs hR hV=>?_⟩
 have hlen:=RV.relV_length hV
 simp only[Array.length_toList] at hlen
 let C:Ctx:={ w0:=w,R0:=R,bor:=fun _=>False,pin:=fun _=>none }
 let p:Plan:={ R:=R,β:=fun _=>none,γ:=fun _=>1 }
 have hs:SR C p (st n (argL 0 args) (fun _=>0) []) { tmps:=vs++Array.replicate (fn.ntmps-vs.size) undef,defers:=[] } w:={
  base:=⟨rfl,rfl,rfl,Nat.le_refl _,fun _ _ _ _=>rfl⟩
  r0:=fun _ h=>h
  rn:=fun _ h=>.inl h
  rb:=hR
  tm:=fun t=>by
   show (look (argL 0 args) t).rel _ _ _ _
   by_cases hmem:∃ x,(t,x)∈argL 0 args
   ·cases e:args[t]? with
    | none =>
      obtain⟨x,hx⟩:=hmem
      obtain⟨i,y,h1,h2⟩:=argL_mem _ hx
      simp only[Nat.zero_add,Prod.mk.injEq] at h1
      rw[← h1.1,e] at h2;cases h2
    | some x =>
      obtain⟨u,hu,hx⟩:=RV.relV_get hV e
      have:(vs++Array.replicate (fn.ntmps-vs.size) undef).getD t undef=u:=by
       have ht:t<vs.size:=by have:=(List.getElem?_eq_some_iff.1 hu).1;simpa using this
       rw[Array.getD_eq_getD_getElem?,Array.getElem?_append_left ht]
       simp only[Array.getElem?_toList] at hu
       rw[hu];rfl
      have e2:=argL_look (k:=0) e
      rw[Nat.zero_add] at e2
      rw[this,e2]
      simpa only[AV.rel] using hx
   ·rw[look_none hmem]
    exact AV.rel_un _ _ _ _
  sz:=by simp only[Array.size_append,Array.size_replicate,st];omega
  ex:=ext_start (fun _ h=>h.elim (fun h=>h.elim) (fun h=>h.elim))
  rw:=fun k=>by simp [st,lookc_nil,zrl,p]
  bl:=fun k b h=>by simp [p] at h
  ij:=fun k k' b h=>by simp [p] at h
  cap:=fun k=>by simp [p,maxLen]
  pn:=fun k x h=>by cases h
  lk:=fun j km n l cur h _=>by cases h }
 refine callsIn_wide.1 (callsIn_of_wp_marks (n:=0) hf hb trivial (wpIn_mono (h C ⟨rfl,rfl⟩ _ w ⟨p,hs⟩) ?_))
 rintro e a' w' ⟨s',⟨p',hs'⟩,hq⟩
 have fin:∀ (a':Act) (w':World) (_:SR C p' s' a' w'),(resC (resA P s' rv) fun v=>∃ j n,v = .os j n sz 0 m∧s'.rows j=⟨n,.arr t sz es⟩)→∃ v,(results fn a'.tmps).run P w' = .ok v w'∧∃ v' β g,Ending.returned v = .returned v'∧Below w.heap.size w w'∧g≤maxLen∧(∀ b,β=some b→w.heap.size≤b∧b<w'.heap.size) ∧
  ((β=none∧es=[]∧g=0∧m=0∧∃ A, v' = .slice A 0 0) ∨
    ∃ b cells A,β=some b∧w'.heap[b]? = some (.cells cells t (0,0))∧cells.size=g*sz∧es.length≤g∧RV.relE w' (fun _=>False) sz es ⟨b,0,none⟩ 0∧v' = .slice A m g∧m≤g∧A=some ⟨b,0,none⟩):=fun a' w' hs' ⟨hp,j,n',hv,hj⟩=>by
  obtain⟨u,hu,hrel⟩:=run_result hs' rv hp
  rw[hv] at hrel
  have hm:(fn.results.mapM (resOp a'.tmps)).run P w' = .ok #[u] w':=by
   rw[Array.mapM_eq_mapM_toList,hres]
   simp only[Sem.run_map,List.mapM_cons,List.mapM_nil,Sem.run_bind,hu,Result.andThen_ok,Sem.run_pure]
  refine⟨u,by rw[results_eq,Sem.run_bind,hm];simp,u,p'.β j,p'.γ j,rfl,⟨hs'.base.os,hs'.base.tape,hs'.base.output,hs'.base.size,fun k hk=>hs'.base.block k hk (fun h=>h) (fun h=>h)⟩,hs'.cap j,fun b hb=>⟨(hs'.bl j b hb).2.2.resolve_right (fun h=>h.elim (fun h=>h.2) fun h=>h),(hs'.bl j b hb).1⟩,?_⟩
  have hrow:=hs'.rw j
  rw[hj] at hrow
  simp only[zrl] at hrow
  simp only[AV.rel] at hrel
  rcases hrel.2 (by show n'=(s'.rows j).ver;rw[hj]) with⟨h1,h2,_,h3,A,h4⟩|⟨b,A,h1,h2,h3,h4⟩
  ·refine .inl ⟨h1,?_,h2,h3,A,h4⟩
   rcases hrow with⟨_,h5,_⟩|⟨b,_,h5,_⟩
   ·exact h5
   ·rw[h1] at h5;cases h5
  ·rcases hrow with⟨h5,_⟩|⟨b',cells,h5,h6,h7,h8,h9⟩
   ·rw[h1] at h5;cases h5
   ·rw[h1] at h5
    injection h5 with h5
    subst h5
    exact .inr ⟨b,cells,A,h1,h6,h7,h8,flat_relE es _ 0 hfl h9,by simpa using h2,by omega,by simpa using h4 (.inr trivial)⟩
 cases e with
 | normal=>exact hs'.leave fun a'' w'' _ hs''=>fin a'' w'' hs'' hq
 | ret=>exact hs'.leave fun a'' w'' _ hs''=>fin a'' w'' hs'' hq
 | _=>exact hq.elim
theorem ocalls_0 {P:Program}{f:FuncId}{fn:Func}{c:Code}{n:Nat}{args:List RV}{t sz m:Nat}{es:List (List RV)}(rv:ResultVar) (hf:P.funcs[f]? = some fn) (hb:fn.body=some c) (hc:callable P f=true) (hn:fn.ntmps=n) (hres:fn.results.toList=[rv]) (hargs:args.length≤n)
 (hfl:∀ e∈es,RV.flatL e=true) (h:∀ C,awp P C c (opostL P rv t sz es m) (st n (argL 0 args) (fun _=>0) [])):OCalls P f args t sz es m:=ocalls_0R rv hf hb hc hn hres hargs hfl fun C _=>h C
theorem ocalls_st {P:Program}{f:FuncId}{fn:Func}{c:Code}{n:Nat}{args:List RV}{t sz m:Nat}{es:List (List RV)}(rv:ResultVar) (hf:P.funcs[f]? = some fn) (hb:fn.body=some c) (hc:callable P f=true) (hn:fn.ntmps=n) (hres:fn.results.toList=[rv]) (hargs:args.length≤n)
 (hfl:∀ e∈es,RV.flatL e=true) (h:∀ C vs,awp P C c (opostL P rv t sz es m) (st n (argL 0 args) vs [])):OCalls P f args t sz es m :=
 ocalls_0 rv hf hb hc hn hres hargs hfl fun C=>h C _
theorem resC_when {c:Prop}{v:AV}{K:AV→Prop}:resC (.when c v) K↔c∧K v:=Iff.rfl
theorem resM_nil {P:Program}{ks:List (Nat × RowC)}{s:AS}:resM P ks s [] []↔True:=by simp [resM]
theorem resM_tmp {P:Program}{ks:List (Nat × RowC)}{s:AS}{t:Nat}{us:List ResultVar}{r:AV}{rs:List AV}:resM P ks s (.tmp t::us) (r::rs)↔frzP1 ks s.rows (s.tm t)∧frz1 ks s.rows (s.tm t)=r∧resM P ks s us rs:=by
 simp only[resM,resA,Res.val,List.cons.injEq]
 constructor
 ·rintro ⟨_,h1,_,⟨rfl,rfl⟩,h3⟩;exact⟨h1,rfl,h3⟩
 ·rintro ⟨h1,rfl,h3⟩;exact⟨trivial,h1,_,⟨rfl,rfl⟩,h3⟩
theorem resM_cell {P:Program}{ks:List (Nat × RowC)}{s:AS}{t a:Nat}{us:List ResultVar}{r:AV}{rs:List AV}:resM P ks s (.cell a t::us) (r::rs)↔resC (sLoad P s t (s.tm a)) (fun v=>frzP1 ks s.rows v∧frz1 ks s.rows v=r)∧resM P ks s us rs:=by
 simp only[resM,resA,resC,List.cons.injEq]
 constructor
 ·rintro ⟨h0,h1,_,⟨rfl,rfl⟩,h3⟩;exact⟨⟨h0,h1,rfl⟩,h3⟩
 ·rintro ⟨⟨h0,h1,rfl⟩,h3⟩;exact⟨h0,h1,_,⟨rfl,rfl⟩,h3⟩
theorem resC_val {v:AV}{K:AV→Prop}:resC (.val v) K↔K v:=by simp [resC,Res.val]
theorem resOk_nil {P:Program}{s:AS}:resOk P s [] []↔True:=by simp [resOk]
theorem resOk_tmp {P:Program}{s:AS}{t:Nat}{us:List ResultVar}{r:RV}{rs:List RV}:resOk P s (.tmp t::us) (r::rs)↔snapP s.rows (s.tm t)∧RV.le (snapV s.rows (s.tm t)) r∧resOk P s us rs:=by
 simp only[resOk,resA,Res.val,List.cons.injEq]
 constructor
 ·rintro ⟨_,h1,_,_,⟨rfl,rfl⟩,h2,h3⟩;exact⟨h1,h2,h3⟩
 ·rintro ⟨h1,h2,h3⟩;exact⟨trivial,h1,_,_,⟨rfl,rfl⟩,h2,h3⟩
theorem resOk_cell {P:Program}{s:AS}{t a:Nat}{us:List ResultVar}{r:RV}{rs:List RV}:resOk P s (.cell a t::us) (r::rs)↔resC (sLoad P s t (s.tm a)) (fun v=>snapP s.rows v∧RV.le (snapV s.rows v) r)∧resOk P s us rs:=by
 simp only[resOk,resA,resC,List.cons.injEq]
 constructor
 ·rintro ⟨h0,h1,_,_,⟨rfl,rfl⟩,h2,h3⟩;exact⟨⟨h0,h1,h2⟩,h3⟩
 ·rintro ⟨⟨h0,h1,h2⟩,h3⟩;exact⟨h0,h1,_,_,⟨rfl,rfl⟩,h2,h3⟩
theorem fpostL_normal {P:Program}{s:AS}{us:List ResultVar}{rs:List RV}:fpostL P us rs .normal s=resOk P s us rs:=rfl
theorem fpostL_ret {P:Program}{s:AS}{us:List ResultVar}{rs:List RV}:fpostL P us rs .ret s=resOk P s us rs:=rfl
theorem andThen_normal {K:AS→Prop}{Q:Exit→AS→Prop}{s:AS}:andThen K Q .normal s=K s:=rfl
theorem andThen_ret {K:AS→Prop}{Q:Exit→AS→Prop}{s:AS}:andThen K Q .ret s=Q .ret s:=rfl
theorem andThen_exit {K:AS→Prop}{Q:Exit→AS→Prop}{s:AS}{i:Nat}:andThen K Q (.exit i) s=Q (.exit i) s:=rfl
theorem inBlk_normal {Q:Exit→AS→Prop}{s:AS}{i:Nat}:inBlk i Q .normal s=Q .normal s:=rfl
theorem inBlk_ret {Q:Exit→AS→Prop}{s:AS}{i:Nat}:inBlk i Q .ret s=Q .ret s:=rfl
theorem inBlk_exit {Q:Exit→AS→Prop}{s:AS}{i j:Nat}:inBlk i Q (.exit j) s=if j=i then Q .normal s else Q (.exit j) s:=rfl
theorem le_bo {a b:Bool}:RV.le (.bo a) (.bo b)↔a=b:=by simp [RV.le]
theorem le_it {k:IntKind}{a b:Int}:RV.le (.it k a) (.it k b)↔a=b:=by simp [RV.le]
theorem le_ns {sz:Nat}{es:List (List RV)}:RV.le .ns (.sl sz es)↔es=[]:=by simp [RV.le]
theorem le_sls {sz:Nat}{es es':List (List RV)}:RV.le (.sl sz es) (.sl sz es')↔es=es':=by simp [RV.le]
theorem le_ag {xs ys:List RV}:RV.le (.ag xs) (.ag ys)↔RV.leL xs ys:=by simp [RV.le]
theorem leL_nil:RV.leL [] []↔True:=by simp [RV.leL]
theorem leL_cons {x y:RV}{xs ys:List RV}:RV.leL (x::xs) (y::ys)↔RV.le x y∧RV.leL xs ys:=by simp [RV.leL]
theorem le_nsns:RV.le .ns .ns↔True:=by simp [RV.le]
theorem le_np:RV.le .np .np↔True:=by simp [RV.le]
theorem le_of_eq {x y:RV}(h:x=y):RV.le x y:=h▸leL_refl.le_refl x
end
end Go.Oc

namespace Go.Oc
open Go Go.RowKit
theorem sub_freeze (s:AS) (t k v sz off m:Nat) (hk0:k<1000) (ht:s.tm t = .os k v sz off m) (hv:v=s.ver k) (hc:match (s.rows k).c with | .arr _ sz' es=>sz=sz'∧off+m≤es.length | .arc _ sz' es _=>sz=sz'∧off+m≤es.length|_=>False) :
 Sub s { s with tm:=upd s.tm t (.r (match (s.rows k).c with | .arr _ _ es=>RV.sl sz ((es.drop off).take m) | .arc _ _ es _=>RV.sl sz ((es.drop off).take m)|_=>.un)),rows:=upd s.rows k ⟨(s.rows k).ver+1,.dead⟩ }:=fun _ _ _ ⟨_,hp⟩=>hp.freeze t k v sz off m hk0 ht hv hc
section
variable {n:Nat}{l:List (Nat × AV)}{vs:Nat→Nat}{cs:List (Nat × RowC)}
theorem sub_frz (t k:Nat) {sz off m ty:Nat}{es:List (List RV)}(hk0:k<1000) (ht:look l t = .os k (vs k) sz off m) (hc:lookc cs k = .arr ty sz es) (hle:off+m≤es.length) :
 Sub (st n l vs cs) (st n ((t,.r (.sl sz ((es.drop off).take m)))::l) (upd vs k (vs k+1)) (delc cs k)):=by
 have:=sub_freeze (st n l vs cs) t k (vs k) sz off m hk0 ht rfl (by show match lookc cs k with | .arr _ sz' es=>sz=sz'∧off+m≤es.length | .arc _ sz' es _=>sz=sz'∧off+m≤es.length|_=>False;rw[hc];exact⟨rfl,hle⟩)
 have e:({ st n l vs cs with tm:=upd (st n l vs cs).tm t (.r (match ((st n l vs cs).rows k).c with | .arr _ _ es=>RV.sl sz ((es.drop off).take m) | .arc _ _ es _=>RV.sl sz ((es.drop off).take m)|_=>.un)),rows:=upd (st n l vs cs).rows k ⟨((st n l vs cs).rows k).ver+1,.dead⟩ }:AS)
  = st n ((t,.r (.sl sz ((es.drop off).take m)))::l) (upd vs k (vs k+1)) (delc cs k):=by
  simp only[st,AS.mk.injEq,true_and]
  constructor
  ·funext j
   show upd (look l) t (.r (match lookc cs k with | .arr _ _ es=>RV.sl sz ((es.drop off).take m) | .arc _ _ es _=>RV.sl sz ((es.drop off).take m)|_=>.un)) j=look ((t,.r (.sl sz ((es.drop off).take m)))::l) j
   rw[hc];rfl
  ·funext j
   rw[lookc_delc]
   unfold upd
   split<;>rfl
 rwa [e] at this
def FitV (n:Nat) (F:(Nat→Nat)→List (Nat × AV)) (R:(Nat→Nat)→List (Nat × RowC)) (s:AS):Prop:=∃ vs,Sub s (st n (F vs) vs (R vs))
theorem zj (ks:List Nat) {F:(Nat→Nat)→List (Nat × AV)}{R:(Nat→Nat)→List (Nat × RowC)}(h1:allEq l (F (killV vs ks))) (h2:killC cs ks=R (killV vs ks)) (h3:small ks=true:=by rfl):FitV n F R (st n l vs cs):=by
 refine⟨killV vs ks,(sub_kills ks vs cs h3).trans ?_⟩
 rw[← h2]
 exact sub_look _ (allEq_mem h1)
theorem awp_whileV {P:Program}{C:Ctx}{c:Code}{Q:Exit→AS→Prop}{s:AS}{α:Type}(F:α→(Nat→Nat)→List (Nat × AV)) (R:α→(Nat→Nat)→List (Nat × RowC)) (I:α→Prop) (m:α→Nat) (x0:α)
 (h0:FitV n (F x0) (R x0) s) (hI:I x0)
 (round:∀ x vs,I x→awp P C c (andThen (fun s'=>∃ y,I y∧m y<m x∧FitV n (F y) (R y) s') Q) (st n (F x vs) vs (R x vs))):awp P C (.loop c) Q s:=by
 refine awp_loop (fun k s=>∃ x,I x∧m x=k∧FitV n (F x) (R x) s) (m x0) ⟨x0,hI,rfl,h0⟩ ?_
 rintro k s ⟨x,hx,rfl,vs,hs⟩
 refine zw hs (awp_mono ?_ (round x vs hx))
 intro e s' hq
 cases e with
 | normal =>
   obtain⟨y,hy,hlt,hf⟩:=hq
   exact⟨m y,hlt,y,hy,rfl,hf⟩
 | _=>exact hq
end
end Go.Oc
