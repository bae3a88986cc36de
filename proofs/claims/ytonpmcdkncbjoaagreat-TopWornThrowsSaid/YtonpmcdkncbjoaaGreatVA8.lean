/- Part 8 of the texts of this claim. -/
import Derived.Test.YtonpmcdkncbjoaaGreatVA7
import Derived.Test.YtonpmcdkncbjoaaGreatVA4
import Derived.Test.YtonpmcdkncbjoaaGreatVA6
import Derived.Test.YtonpmcdkncbjoaaGreatVA5
set_option linter.unusedSimpArgs false
set_option linter.unusedVariables false
namespace Go.Oc
open Go Go.RowKit
def YCalls (P:Program) (F:FuncId) (args:Nat→List RV) (xs:List (List RV)):Prop :=
 callable P F=true∧∀ (rest:List (List RV)) (w:World) (R:Nat→Prop) (vs:Array Value) (X:XS) (Ψ Θ:Nat→Prop),(∀ b,R b→b<w.heap.size)→RV.relV w R (args X.l) vs.toList→X.z=false→(∀ b,R b→X.R b∨X.n0≤b)→X.n0≤w.heap.size→YOk P X →
  (∀ b,Ψ b→b<w.heap.size)→(∀ b,Θ b→b<w.heap.size)→(∀ b,R b→¬ Θ b)→X.X (some (xs++rest)) w Ψ Θ →
  Calls P F vs w fun e w'=>w'.os=w.os∧w'.tape=w.tape∧w'.output=w.output∧w.heap.size≤w'.heap.size∧(∀ b,b<w.heap.size→¬ Θ b→w'.heap[b]? = w.heap[b]?) ∧
   ∃ Ψ' Θ':Nat→Prop,(∀ b,Ψ' b→Ψ b∨R b∨w.heap.size≤b)∧(∀ b,Θ' b→Θ b∨w.heap.size≤b)∧(∀ b,Ψ' b→b<w'.heap.size)∧(∀ b,Θ' b→b<w'.heap.size) ∧
   ((e = .returned (.bool true)∧X.X (some rest) w' Ψ' Θ')∨(e = .returned (.bool false)∧X.X none w' Ψ' Θ'))
def XS.since (X:XS) (n:Nat) (R Ψ0 Θ0:Nat→Prop):XS where
 l:=X.l
 z:=X.z
 n0:=n
 R:=R
 X:=fun o w Ψ Θ=>X.X o w Ψ Θ∧n≤w.heap.size∧(∀ b,Ψ b→Ψ0 b∨R b∨n≤b)∧∀ b,Θ b→Θ0 b∨n≤b
 st:=fun h h1 h2 h3 h4 h5=>⟨X.st h.1 h1 h2 h3 h4 h5,Nat.le_trans h.2.1 h4,h.2.2⟩
theorem YOk.since {P:Program}{X:XS}(hY:YOk P X) {n:Nat}{R Ψ0 Θ0:Nat→Prop}(hR:∀ b,R b→X.R b∨X.n0≤b) (hn:X.n0≤n):YOk P (X.since n R Ψ0 Θ0):=by
 intro e rest w Ψ Θ R' vs hX hR' hV
 obtain⟨hX1,hX2,hX3,hX4⟩:=hX
 obtain⟨fn,tmps,assign,body,hrun,hround⟩:=hY e rest w Ψ Θ R' vs hX1 (fun b hb=>by
  obtain⟨g1,g2,g3⟩:=hR' b hb
  refine⟨g1,g2,?_⟩
  rcases g3 with g|g
  ·exact hR b g
  ·exact .inr (Nat.le_trans hn g)) hV
 refine⟨fn,tmps,assign,body,hrun,hround.mono ?_⟩
 rintro en w' ⟨g1,g2,g3,g4,g5,Ψ',Θ',g6,g7,g8,g9,g10⟩
 have a1:∀ b,Ψ' b→Ψ0 b∨R b∨n≤b:=fun b hb=>by
  rcases g6 b hb with g|g|g
  ·exact hX3 b g
  ·rcases (hR' b g).2.2 with q|q
   ·exact .inr (.inl q)
   ·exact .inr (.inr q)
  ·exact .inr (.inr (Nat.le_trans hX2 g))
 have a2:∀ b,Θ' b→Θ0 b∨n≤b:=fun b hb=>by
  rcases g7 b hb with g|g
  ·exact hX4 b g
  ·exact .inr (Nat.le_trans hX2 g)
 refine⟨g1,g2,g3,g4,g5,Ψ',Θ',g6,g7,g8,g9,?_⟩
 rcases g10 with⟨rfl,g⟩|⟨rfl,g⟩
 ·exact .inl ⟨rfl,g,Nat.le_trans hX2 g4,a1,a2⟩
 ·exact .inr ⟨rfl,g,Nat.le_trans hX2 g4,a1,a2⟩
section
variable {P:Program}{C:Ctx}{s:AS}{Q:Exit→AS→Prop}{ops:Array Oper}
theorem sops_ycall {l:List Oper}{f:Operand}{args:Array Operand}{ts:Array TypeId}{d:Nat}{ty:TypeId}{pos:String}{af:Array Edge}{F:FuncId}{cs:List AV}{ar:Nat→List RV}{xs rest:List (List RV)}{ll:Nat}(hdn:d<s.n)
 (hF:callee? (s.ev f)=some (F,cs)) (hrow:(s.rows 999).c = .gh P ll false (some (xs++rest))) (hpu:AV.pureL (args.toList.map s.ev++cs)=true) (hle:RV.leL (snapVL s.rows (args.toList.map s.ev++cs)) (ar ll)) (hY:YCalls P F ar xs)
 (h1:sops P C ops l Q ((s.row 999 ⟨(s.rows 999).ver,.gh P ll false (some rest)⟩).put (some d) (.r (.bo true)))) (h2:sops P C ops l Q ((s.row 999 ⟨(s.rows 999).ver,.gh P ll false none⟩).put (some d) (.r (.bo false)))) :
 sops P C ops (⟨some d,.call ⟨.value f,args,ts⟩,ty,pos,af,none⟩::l) Q s:=fun a w ⟨p,hs⟩=>by
 unfold wpListIn
 rw[if_pos (wantA_sound hs (by simp [wantA]))]
 refine wpIn_of_wp (by intro c h;cases h) ?_
 obtain⟨vs,hfv,hcs⟩:=callee_eval hs hF
 have hargs:=relV_ev hs args.toList
 have hall:=AV.relV_append hargs hcs
 have hlist:(args.map a.eval++vs).toList=args.toList.map a.eval++vs.toList:=by simp
 rw[← hlist] at hall
 have hV:=le_relV _ _ _ hle (pure_relV (rows:=s.rows) _ _ hpu hall)
 have hr:=hs.rw 999
 rw[hrow] at hr
 simp only[zrl] at hr
 obtain⟨_,hβ,hγ,hl,hz,hYo,hX⟩:=hr
 have hrun:(execOp a.eval ⟨some d,.call ⟨.value f,args,ts⟩,ty,pos,af,none⟩).run P w = .ok (.enter F (args.map a.eval++vs)) w:=by
  simp only[execOp,Sem.run_bind,resolve,hfv,Deferred.ofValue,Sem.run_pure,Result.andThen_ok,invoke]
  simpa using run_callFunc hY.1 (args.map a.eval++vs) w
 unfold Oper.wp
 rw[hrun,Oper.upon_enter]
 have hzX:p.X.z=false:=hz
 refine (hY.2 rest w p.R _ p.X p.Ψ p.Θ hs.rb (by rw[hl];exact hV) hzX (fun b hb=>?_) ?_ hYo hs.ex.ψl hs.ex.θl hs.ex.ψr hX).mono ?_
 ·rw[hs.ex.px]
  have hz':C.X.z=false:=by rw[← hs.ex.px];exact hz
  rcases hs.rn b hb with g|g|g
  ·exact .inl (hs.ex.ψ0 hz' b g)
  ·exact .inr (Nat.le_trans hs.ex.n0 g)
  ·exact hs.ex.ψo b g
 ·rw[hs.ex.px];exact Nat.le_trans hs.ex.n0 hs.base.size
 rintro e w' ⟨g1,g2,g3,g4,g5,Ψ',Θ',g6,g7,g8,g9,g10⟩
 rcases g10 with⟨rfl,hX'⟩|⟨rfl,hX'⟩
 ·have hS:=hs.yielded hrow g1 g2 g3 g4 g5 (fun _ h=>h) g6 g7 g8 g9 hs.ex.px hX'
  have hput:=hS.put' (d:=some d) (av:=.r (.bo true)) (v:=.bool true) (by simp only[AV.rel,RV.rel]) (fun t ht=>by injection ht with ht;subst ht;exact hdn)
  exact h1 _ _ ⟨_,hput⟩
 ·have hS:=hs.yielded hrow g1 g2 g3 g4 g5 (fun _ h=>h) g6 g7 g8 g9 hs.ex.px hX'
  have hput:=hS.put' (d:=some d) (av:=.r (.bo false)) (v:=.bool false) (by simp only[AV.rel,RV.rel]) (fun t ht=>by injection ht with ht;subst ht;exact hdn)
  exact h2 _ _ ⟨_,hput⟩
end
section
variable {n:Nat}{l:List (Nat × AV)}{vs:Nat→Nat}{cs:List (Nat × RowC)}
theorem row999_st {c:RowC}:(st n l vs cs).row 999 ⟨((st n l vs cs).rows 999).ver,c⟩=st n l vs (insc cs 999 c):=by
 rw[row_st]
 congr 1
 funext k
 unfold upd
 split
 ·rename_i e;subst e;rfl
 ·rfl
end
end Go.Oc

namespace Go.Oc
open Go Go.RowKit
def gop (P:Program) (o:Oper) (K:AS→Prop) (s:AS):Prop :=
 ∀ (C:Ctx) (p:Plan) (a:Act) (w:World), SR C p s a w→(∀ t, o.dst=some t→t<s.n)→(∀ c, o.op ≠ .defer c)→∀ (KW:Act→World→Prop) (Q:Exit→Act→World→Prop),
   (∀ a' w' p' s',SR C p' s' a' w'→s'.n=s.n→K s'→KW a' w')→o.wpIn (fnc C.rd) 0 P a w KW Q
theorem gop_xopL {P:Program}{o:Oper}{K:AS→Prop}{s:AS}(h:xopL P o K s):gop P o K s:=fun C p a w hp hd hnd KW Q hK=>xopL_sound hp h hd hK hnd
theorem gop_xop {P:Program}{o:Oper}{K:AS→Prop}{s:AS}(h:xop P false o K s):gop P o K s:=gop_xopL (.inl h)
section
variable {P:Program}{C:Ctx}{s:AS}{Q:Exit→AS→Prop}{ops:Array Oper}
theorem sops_gop {o:Oper}{l:List Oper}(hg:o.guard=none) (hd:∀ t,o.dst=some t→t<s.n) (hnd:∀ c,o.op ≠ .defer c) (h:gop P o (fun s'=>sops P C ops l Q s') s):sops P C ops (o::l) Q s:=fun a w ⟨p,hs⟩=>by
 unfold wpListIn
 rw[if_pos (wantA_sound hs (by simp [wantA,hg]))]
 exact h C p a w hs hd hnd _ _ fun a' w' p' s' hs' hn hK=>hK a' w' ⟨p',hs'⟩
theorem app_n' (s:AS) (d:Option Nat) (v:AV):(s.put d v).n=s.n:=by cases d<;>rfl
end
section
variable {P:Program}{s:AS}
theorem gop_clip {P:Program}{s:AS}{o:Oper}{x hi mx:Operand}{t:TypeId}{K:AS→Prop}(ho:o.op = .slice t x none (some hi) (some mx)) {e esz eb:Nat}{ez:List RV}{ssz:Nat}{sagg:Bool}{sz0:List RV}(e1:tyq P t=some ⟨.slice e esz eb ez,ssz,sagg,sz0⟩)
 {sz:Nat}{es:List (List RV)}(hx:s.ev x = .r (.sl sz es)) {k1 k2:IntKind}(hh:s.ev hi = .r (.it k1 (es.length:Int))) (hm:s.ev mx = .r (.it k2 (es.length:Int))) (hK:K (s.put o.dst (.r (if es=[] then .ns else .sx sz es)))):gop P o K s:=by
 intro C p a w h hd hnd KW Q hKW
 obtain⟨hu,hok,hsz,_,_⟩:=tyq_slice e1
 obtain⟨A,c,hv,hc1,hc2,hne⟩:=ev_sl h hx
 have hr0:=run_cut3 (P:=P) (w:=w) hu hok (A:=A) (len:=es.length) (cap:=c) (kh:=k1) (km:=k2) (lo:=none) (l:=0) (q:=es.length) (m:=es.length) (.inl ⟨rfl,rfl⟩) (Nat.zero_le _) (Nat.le_refl _) hc1
 have hr:(execOp a.eval o).run P w = .ok (.value (.slice (if es.length=0 then A else A.map (·.add (0*P.cellsOf e))) (es.length-0) (es.length-0))) w:=by
  simp only[execOp,ho,Sem.run_bind,hv,Option.map_none,Option.map_some,ev_it h hh,ev_it h hm,hr0,Result.andThen_ok,Sem.run_pure]
 have hrel:(AV.r (if es=[] then .ns else .sx sz es)).rel w p s.ver (.slice (if es.length=0 then A else A.map (·.add (0*P.cellsOf e))) (es.length-0) (es.length-0)):=by
  simp only[AV.rel]
  by_cases h0:es=[]
  ·subst h0
   simp only[if_true,RV.rel,List.length_nil,Nat.sub_zero];exact⟨_,rfl⟩
  ·obtain⟨ad,rfl,hR,hE⟩:=hne h0
   have hl:¬ es.length=0:=fun e=>h0 (List.length_eq_zero_iff.1 e)
   simp only[if_neg h0,if_neg hl,RV.rel,Nat.sub_zero,Nat.zero_mul,Option.map_some];exact⟨ad,rfl,h0,Nat.le_trans hc1 hc2,hR,hE⟩
 refine wpIn_of_wp hnd ?_
 unfold Oper.wp
 rw[hr]
 exact hKW _ _ p _ (h.put' hrel hd) (app_n' _ _ _) hK
end
section
variable {P:Program}{C:Ctx}{s:AS}{a:Act}{w:World}{ops:Array Oper}
end
section
variable {P:Program}{C:Ctx}{s:AS}{a:Act}{w:World}{ops:Array Oper}
end
end Go.Oc

namespace Go.Oc
open Go Go.RowKit
theorem gop_eqnilB {P:Program}{s:AS}{o:Oper}{K:AS→Prop}{x:Operand}{t t':TypeId}(ho:o.op = .binOp .eql t x (.const (.slice none 0 0)) t') {e esz eb:Nat}{ez:List RV}{ssz:Nat}{sagg:Bool}{sz0:List RV}
 (e1:tyq P t=some ⟨.slice e esz eb ez,ssz,sagg,sz0⟩) {sz:Nat}{es:List (List RV)}(hx:s.ev x = .r (.sl sz es)) (hK:K (s.put o.dst (.r (.bo false)))) (hK1:es=[]→K (s.put o.dst (.r (.bo true)))):gop P o K s:=by
 intro C p a w h hd hnd KW Q hKW
 obtain⟨hu,_⟩:=tyq_slice e1
 have hxv:=h.ev x
 rw[hx] at hxv
 simp only[AV.rel,RV.rel] at hxv
 obtain⟨A,c,hxv,_,_,hA⟩:=hxv
 have hc:a.eval (.const (.slice none 0 0)) = .slice none 0 0:=rfl
 cases A with
 | some ad =>
   have hq:∀ d:Nat,(Op.equalIn (d+1) t (.slice (some ad) es.length c) (.slice none 0 0)).run P w = .ok false w:=fun d=>by
    simp only[Op.equalIn,Sem.run_bind,run_underlying hu,Result.andThen_ok,Sem.run_pure]
   have hr:(execOp a.eval o).run P w = .ok (.value (.bool false)) w:=by
    have hq':(Op.equal t (.slice (some ad) es.length c) (.slice none 0 0)).run P w = .ok false w:=hq 9999
    have hg:(eqGuard .eql t x (.const (.slice none 0 0)) (.slice (some ad) es.length c) (.slice none 0 0)).run P w = .ok () w:=by
     unfold eqGuard
     split<;>simp
    simp [execOp,ho,hxv,hc,hg,Go.binOp,hq']
   refine wpIn_of_wp hnd ?_
   unfold Oper.wp
   rw[hr]
   have hput:=h.put' (d:=o.dst) (av:=.r (.bo false)) (v:=.bool false) (by simp only[AV.rel,RV.rel]) hd
   exact hKW _ _ p _ hput (by cases o.dst<;>rfl) hK
 | none =>
   have he:es=[]:=by
    by_cases h0:es=[]
    ·exact h0
    ·obtain⟨ad,h1,_⟩:=hA h0
     cases h1
   have hq:∀ d:Nat,(Op.equalIn (d+1) t (.slice none es.length c) (.slice none 0 0)).run P w = .ok true w:=fun d=>by
    simp only[Op.equalIn,Sem.run_bind,run_underlying hu,Result.andThen_ok,Sem.run_pure]
    rfl
   have hr:(execOp a.eval o).run P w = .ok (.value (.bool true)) w:=by
    have hq':(Op.equal t (.slice none es.length c) (.slice none 0 0)).run P w = .ok true w:=hq 9999
    have hg:(eqGuard .eql t x (.const (.slice none 0 0)) (.slice none es.length c) (.slice none 0 0)).run P w = .ok () w:=by
     unfold eqGuard
     split<;>simp
    simp [execOp,ho,hxv,hc,hg,Go.binOp,hq']
   refine wpIn_of_wp hnd ?_
   unfold Oper.wp
   rw[hr]
   have hput:=h.put' (d:=o.dst) (av:=.r (.bo true)) (v:=.bool true) (by simp only[AV.rel,RV.rel]) hd
   exact hKW _ _ p _ hput (by cases o.dst<;>rfl) (hK1 he)
theorem gop_eqnilZ {P:Program}{s:AS}{o:Oper}{K:AS→Prop}{x:Operand}{t t':TypeId}(ho:o.op = .binOp .eql t x (.const (.slice none 0 0)) t') {e esz eb:Nat}{ez:List RV}{ssz:Nat}{sagg:Bool}{sz0:List RV}
 (e1:tyq P t=some ⟨.slice e esz eb ez,ssz,sagg,sz0⟩) (hx:s.ev x = .r .nz) (hK:K (s.put o.dst (.r (.bo true)))):gop P o K s:=by
 intro C p a w h hd hnd KW Q hKW
 obtain⟨hu,_⟩:=tyq_slice e1
 have hxv:=h.ev x
 rw[hx] at hxv
 simp only[AV.rel,RV.rel] at hxv
 have hc:a.eval (.const (.slice none 0 0)) = .slice none 0 0:=rfl
 have hq:∀ d:Nat,(Op.equalIn (d+1) t (.slice none 0 0) (.slice none 0 0)).run P w = .ok true w:=fun d=>by
  simp only[Op.equalIn,Sem.run_bind,run_underlying hu,Result.andThen_ok,Sem.run_pure]
  rfl
 have hr:(execOp a.eval o).run P w = .ok (.value (.bool true)) w:=by
  have hq':(Op.equal t (.slice none 0 0) (.slice none 0 0)).run P w = .ok true w:=hq 9999
  have hg:(eqGuard .eql t x (.const (.slice none 0 0)) (.slice none 0 0) (.slice none 0 0)).run P w = .ok () w:=by
   unfold eqGuard
   split<;>simp
  simp [execOp,ho,hxv,hc,hg,Go.binOp,hq']
 refine wpIn_of_wp hnd ?_
 unfold Oper.wp
 rw[hr]
 have hput:=h.put' (d:=o.dst) (av:=.r (.bo true)) (v:=.bool true) (by simp only[AV.rel,RV.rel]) hd
 exact hKW _ _ p _ hput (by cases o.dst<;>rfl) hK
theorem gop_allocZ {P:Program}{s:AS}{o:Oper}{K:AS→Prop}{t:TypeId}{d:Nat}(ho:o.op = .alloc t) (hd0:o.dst=some d) (hd1:d<1000) {xs:List RV}{z:List Value}(hz:zeroOf P t=some z)
 (hx:∀ (w:World) (p:Plan) (ver:Nat→Nat),AV.relV w p ver (xs.map .r) z) (hK:K ((s.row d ⟨(s.rows d).ver+1,.box (xs.map .r)⟩).put (some d) (.pt d ((s.rows d).ver+1) 0))):gop P o K s:=by
 intro C p a w h hd hnd KW Q hKW
 obtain⟨v,hv,hvz⟩:=run_zeroValue_ok (w:=w) hz
 have hz2:=zero_rel (s:=s) (w:=w) (p:=p) hz
 have hn:=h.newRow d hd1 (.box (xs.map .r)) rfl 0 (Nat.zero_le _) (.cells v.cells t) (fun p' ver' _ hβ _ hk=>by
  simp only[zrl];exact⟨_,_,t,hβ,heap_alloc_new w _,by rw[hvz];exact hx _ _ _,by rw[hvz];exact hz2.2⟩)
 have hr:(execOp a.eval o).run P w = .ok (.value (.pointer (some ⟨w.heap.size,0,none⟩))) (w.alloc (.cells v.cells t)):=by
  simp [execOp,ho,Instr.alloc,newVar,newRow,hv]
 refine wpIn_of_wp hnd ?_
 unfold Oper.wp
 rw[hr]
 have hput:=hn.put' (d:=o.dst) (av:=.pt d ((s.rows d).ver+1) 0) (v:=.pointer (some ⟨w.heap.size,0,none⟩)) (by
  simp only[AV.rel,AS.ver,zus];exact⟨Nat.le_refl _,fun _=>⟨_,rfl,rfl⟩⟩) hd
 exact hKW _ _ _ _ hput (by rw[hd0];rfl) (by rw[hd0];exact hK)
theorem relV_ofMap {w:World}{p:Plan}{ver:Nat→Nat}:∀ {xs:List RV}{vs:List Value},AV.relV w p ver (xs.map .r) vs→RV.relV w p.R xs vs
 | [],_,h=>by simp only[List.map_nil,AV.relV] at h;simp only[RV.relV];exact h
 | x::xs, _, h=>by
   simp only[List.map_cons,AV.relV,AV.rel] at h
   obtain⟨u,us,e,h1,h2⟩:=h
   simp only[RV.relV];exact⟨u,us,e,h1,relV_ofMap h2⟩
theorem sub_fnR {n:Nat}{l:List (Nat × AV)}{vs:Nat→Nat}{cs:List (Nat × RowC)}(t:Nat) {f:FuncId}(xs:List RV) (h:look l t = .fn f (xs.map .r)):Sub (st n l vs cs) (st n ((t,.r (.fn f xs))::l) vs cs):=fun C a w ⟨p,hp⟩=>by
 refine⟨p,{ hp with tm:=fun j=>?_ }⟩
 show AV.rel w _ _ (look ((t,.r (.fn f xs))::l) j) _
 rw[look_cons]
 split
 ·rename_i e
  subst e
  have:=hp.tm j
  have e2:(st n l vs cs).tm j = .fn f (xs.map .r):=h
  rw[e2] at this
  simp only[AV.rel,RV.rel] at this ⊢
  obtain⟨us,h1,h2⟩:=this
  exact⟨us,h1,relV_ofMap h2⟩
 ·exact hp.tm j
end Go.Oc

namespace Go.Proofs.YtonpmcdkncbjoaaGreat.Bo
open Go Go.Oc Go.Proofs.YtonpmcdkncbjoaaGreat.Du
set_option maxRecDepth 8000
set_option maxHeartbeats 4000000
theorem grow_ok (q:Nat) (hq:0<q) (hq2:q≤1000000):OCalls Tryz.prog 97 [.ns,i64 q] 3 1 (List.replicate q [i64 0]) 0:=by
 refine ocalls_st (n:=27) (.tmp 4) Tryz.func97 rfl (by kernel_rfl) Tryz.ntmps97 rfl (by simp) (fun e he=>by rw[List.eq_of_mem_replicate he];rfl) fun C vs=>?_
 apply zq
 refine zb fun K hK=>?_;simp only[go_sem];apply hK;clear hK K
 repeat apply zq
 refine zb fun K hK=>?_;simp only[go_sem];apply hK;clear hK K
 apply zc rfl<;>intro hc<;>(try simp only[go_sem] at hc)
 ·omega
 apply zx
 try simp only[go_sem]
 repeat apply zq
 refine zb fun K hK=>?_;simp only[go_sem];(try simp (disch:=omega) only[zI]);apply hK;clear hK K
 apply zq
 refine zb fun K hK=>?_;simp only[go_sem];apply hK;clear hK K
 apply zc rfl<;>intro hc<;>(try simp only[go_sem] at hc)
 ·skip
  refine zb fun K hK=>?_;simp only[go_sem]
  refine⟨⟨by omega,by omega,by omega⟩,?_⟩
  apply hK;clear hK K
  try simp only[go_sem]
  apply zq
  refine zb fun K hK=>?_;simp only[go_sem];apply hK;clear hK K;apply ze;simp only[go_sem];exact⟨_,_,rfl,rfl⟩
 ·omega
theorem concat_ok (a b:List Int) (ha:a.length≤1000) (hb:b.length≤1000) (hb0:0<b.length):ACalls Tryz.prog 71 [.sl 1 [[ints a],[ints b]]] (ints (a++b)):=by
 refine zas (rs:=[ints (a++b)]) [.tmp 2] Tryz.func71 rfl (by kernel_rfl) Tryz.ntmps71 rfl (by simp) rfl fun C vs=>?_
 apply zq
 refine zb fun K hK=>?_;simp only[go_sem];apply hK;clear hK K
 apply zq
 refine zb fun K hK=>?_;simp only[go_sem];apply hK;clear hK K
 repeat apply zq
 refine zb fun K hK=>?_;simp only[go_sem];apply hK;clear hK K;apply zd
 refine zup (n:=36) 2 (fun i vs=>[(0,.r (.sl 1 [[ints a],[ints b]])),(9,.r (.sl 1 [[ints a],[ints b]])),(10,.r (i64 2)),(11,.r (i64 i)),(3,.r (i64 (if i=0 then 0 else if i=1 then a.length else a.length+b.length)))]) (fun _=>[])
  (fun _=>True) 0 (zfo [] ?_ rfl) (Nat.zero_le _) trivial ?_
 ·try simp only[go_sem]
 ·intro i vs hi _
  have h3:i=0∨i=1∨i=2:=by omega
  rcases h3 with rfl|rfl|rfl
  ·apply zq
   refine zb fun K hK=>?_;simp only[go_sem];apply hK;clear hK K
   apply zq
   apply zc rfl<;>intro hc<;>(try simp only[go_sem] at hc)
   apply zx
   apply zq
   apply zd
   apply zq
   refine zb fun K hK=>?_;simp only[go_sem];apply hK;clear hK K
   apply zq
   refine zb fun K hK=>?_;simp only[go_sem];(try simp (disch:=omega) only[zI])
   intro _
   apply hK;clear hK K
   apply zq
   refine zb fun K hK=>?_;simp only[go_sem];apply hK;clear hK K
   apply zc rfl<;>intro hc<;>(try simp only[go_sem] at hc)
   ·omega
   apply zx
   try simp only[go_sem]
   refine zb fun K hK=>?_;simp only[go_sem];(try simp (disch:=omega) only[zI]);apply hK;clear hK K
   try simp only[go_sem]
   refine zfo [] ?_ rfl
   try simp only[go_sem]
  ·apply zq
   refine zb fun K hK=>?_;simp only[go_sem];apply hK;clear hK K
   apply zq
   apply zc rfl<;>intro hc<;>(try simp only[go_sem] at hc)
   apply zx
   apply zq
   apply zd
   apply zq
   refine zb fun K hK=>?_;simp only[go_sem];apply hK;clear hK K
   apply zq
   refine zb fun K hK=>?_;simp only[go_sem];(try simp (disch:=omega) only[zI])
   intro _
   apply hK;clear hK K
   apply zq
   refine zb fun K hK=>?_;simp only[go_sem];apply hK;clear hK K
   apply zc rfl<;>intro hc<;>(try simp only[go_sem] at hc)
   ·omega
   apply zx
   try simp only[go_sem]
   refine zb fun K hK=>?_;simp only[go_sem];(try simp (disch:=omega) only[zI]);apply hK;clear hK K
   try simp only[go_sem]
   refine zfo [] ?_ rfl
   try simp only[go_sem]
  ·apply zq
   refine zb fun K hK=>?_;simp only[go_sem];apply hK;clear hK K
   apply zq
   apply zc rfl<;>intro hc<;>(try simp only[go_sem] at hc)
   apply zf;simp only[go_sem]
   apply zq
   refine zb fun K hK=>?_;simp only[go_sem]
   refine xcall_own (grow_ok (a.length+b.length) (by omega) (by omega)) rfl (by simp only[go_sem,i64,ints]) (by simp only[go_sem,i64,ints]) (by decide) (by intro h;first|(cases h;done)|rfl) ?_
   (try simp only[go_sem]);apply hK;clear hK K
   repeat apply zq
   refine zb fun K hK=>?_;simp only[go_sem];apply hK;clear hK K;apply zd
   have e1:(0=a.length+b.length)=False:=by
    have:¬ 0=a.length+b.length:=by omega
    simp only[this]
   have e2:(a.length=a.length+b.length)=False:=by
    have:¬ a.length=a.length+b.length:=by omega
    simp only[this]
   refine zup (n:=36) 2 (fun i vs=>[(0,.r (.sl 1 [[ints a],[ints b]])),(25,.r (.sl 1 [[ints a],[ints b]])),(26,.r (i64 2)),(27,.r (i64 i)),(6,.os 24 (vs 24) 1 0 (if i=0 then 0 else if i=1 then a.length else a.length+b.length))])
    (fun i=>[(24,.arr 3 1 (if i=0 then List.replicate (a.length+b.length) [i64 0] else if i=1 then (a.map fun x=>[i64 x])++List.replicate b.length [i64 0] else (a++b).map fun x=>[i64 x]))])
    (fun _=>True) 0 (zfo [] ?_ ?_) (Nat.zero_le _) trivial ?_
   ·try simp only[go_sem]
   ·try simp only[go_sem]
   ·intro i vs hi _
    have h3:i=0∨i=1∨i=2:=by omega
    rcases h3 with rfl|rfl|rfl
    ·apply zq
     refine zb fun K hK=>?_;simp only[go_sem];apply hK;clear hK K
     apply zq
     apply zc rfl<;>intro hc<;>(try simp only[go_sem] at hc)
     apply zx
     apply zq
     apply zd
     apply zq
     refine zb fun K hK=>?_;simp only[go_sem];apply hK;clear hK K;refine zb fun K hK=>?_;simp only[go_sem,e1]
     refine⟨by omega,?_⟩
     apply hK;clear hK K
     try simp only[go_sem]
     refine zb fun K hK=>?_;simp only[go_sem];(try simp (disch:=omega) only[zI]);apply hK;clear hK K
     try simp only[go_sem]
     refine zfo [] ?_ ?_<;>try simp only[go_sem]
    ·apply zq
     refine zb fun K hK=>?_;simp only[go_sem];apply hK;clear hK K
     apply zq
     apply zc rfl<;>intro hc<;>(try simp only[go_sem] at hc)
     apply zx
     apply zq
     apply zd
     apply zq
     refine zb fun K hK=>?_;simp only[go_sem];apply hK;clear hK K;refine zb fun K hK=>?_;simp only[go_sem,e2,List.length_append]
     try refine⟨by simp,?_⟩
     apply hK;clear hK K
     try simp only[go_sem]
     refine zb fun K hK=>?_;simp only[go_sem];(try simp (disch:=omega) only[zI]);apply hK;clear hK K
     try simp only[go_sem]
     refine zfo [] ?_ ?_
     ·try simp only[go_sem]
     ·simp [killC]
    ·apply zq
     refine zb fun K hK=>?_;simp only[go_sem];apply hK;clear hK K
     apply zq
     apply zc rfl<;>intro hc<;>(try simp only[go_sem] at hc)
     apply zf;simp only[go_sem]
     apply zq
     refine zb fun K hK=>?_;simp only[go_sem];apply hK;clear hK K;apply ze;simp only[go_sem];rw[List.map_append,List.take_of_length_le (by simp)]
     simp
theorem clone_ok (l:List Int) (h:l≠[]) (hl:l.length≤1000):OCalls Tryz.prog 42 [ints l] 3 1 (l.map fun x=>[i64 x]) l.length:=by
 refine ocalls_st (n:=8) (.tmp 2) Tryz.func42 rfl (by kernel_rfl) Tryz.ntmps42 rfl (by simp) (fun e he=>by obtain⟨x,_,rfl⟩:=List.mem_map.1 he;rfl) fun C vs=>?_
 have hp:0<l.length:=List.length_pos_iff.2 h
 apply zq
 refine zb fun K hK=>?_;simp only[go_sem];apply hK;clear hK K;apply zw (zk [0]);simp only[go_sem]
 repeat apply zq
 refine awp_long ?_
 refine sops_take 1 (by kernel_rfl) fun K hK=>?_
 simp only[go_sem,List.take_succ_cons,List.take_zero,List.drop_succ_cons,List.drop_zero,List.append_eq,List.cons_append,List.nil_append]
 refine hK _ rfl ?_
 clear hK K
 refine sops_gop rfl (by intro t h;injection h with h;subst h;show 4<8;decide) (by intro c h;cases h) (gop_eqnilB rfl ty26 (sz:=1) (es:=l.map fun x=>[i64 x]) (by simp only[go_sem]) ?_ fun he=>?_)
 ·try simp only[go_sem]
  refine sops_end (by kernel_rfl) fun K hK=>?_
  simp only[go_sem,List.drop_succ_cons,List.drop_zero,List.append_eq,List.cons_append,List.nil_append];apply hK;clear hK K;apply zw (zk [0,4]);simp only[go_sem]
  apply zc rfl<;>intro hc<;>(try simp only[go_sem] at hc)
  apply zx
  try simp only[go_sem]
  apply zq
  refine zb fun K hK=>?_;simp only[go_sem,List.length_map]
  (try intros)
  (try refine⟨⟨by omega,by omega⟩,?_⟩)
  apply hK;clear hK K;apply ze;simp only[go_sem];exact⟨_,_,rfl,rfl⟩
 ·exact absurd (List.map_eq_nil_iff.1 he) h
theorem turned_ok (l:List Int) (k:Nat) (hk:k<l.length) (hl:l.length≤1000):ACalls Tryz.prog 43 [ints l,i64 (k:Int)] (ints (turnL l k)):=by
 have w1:IntKind.i64.wrap ((l.length:Int)-k)=((l.length-k:Nat):Int):=by rw[zI]<;>omega
 have hc:=concat_ok (l.drop (l.length-k)) (l.take (l.length-k)) (by rw[List.length_drop];omega) (by rw[List.length_take];omega) (by rw[List.length_take];omega)
 have ht:turnL l k=l.drop (l.length-k)++l.take (l.length-k):=rfl
 rw[ht]
 have h1:l.length-k≤l.length:=by omega
 refine zas (rs:=[ints (l.drop (l.length-k)++l.take (l.length-k))]) [.tmp 4] Tryz.func43 rfl (by kernel_rfl) Tryz.ntmps43 rfl (by simp) rfl fun C vs=>?_
 apply zq
 refine zb fun K hK=>?_;simp only[go_sem];apply hK;clear hK K;apply zw (zk [0,1]);simp only[go_sem]
 apply zq
 refine zb fun K hK=>?_;simp only[go_sem,w1]
 intro _
 apply hK;clear hK K;apply zw (zk [0,5]);simp only[go_sem]
 apply zq
 refine zg follows (by decide +kernel) (by kernel_rfl) fun K hK=>?_;simp only[go_sem,w1,h1]
 refine zh (hc) rfl (by simp only[go_sem,i64,ints,w1,List.map_drop,List.map_take]) (by simp only[go_sem,i64,ints,w1,List.map_drop,List.map_take]) ?_
 (try simp only[go_sem,w1,List.map_drop,List.map_take]);apply hK;clear hK K;apply zw (zk [4]);simp only[go_sem];apply ze;simp only[go_sem]
theorem mix_get {A w:List Int}{i:Nat}(h:A.length=w.length) (hi:i<w.length):(A.take i++w.drop i)[i]? = w[i]?:=by
 rw[List.getElem?_append_right (by rw[List.length_take];omega),List.length_take,List.getElem?_drop]
 congr 1;omega
theorem mix_set {A w:List Int}{i:Nat}{z:Int}(h:A.length=w.length) (hi:i<w.length) (hz:A[i]? = some z):(A.take i++w.drop i).set i z=A.take (i+1)++w.drop (i+1):=by
 obtain⟨x,hx⟩:=zol hi
 rw[List.set_append_right _ _ (by rw[List.length_take];omega),List.length_take,show i-min i A.length=0 by omega,List.take_add_one,hz,List.append_assoc]
 congr 1
 rw[drop_of_opt hx]
 rfl
theorem mix_len {A w:List Int}{i:Nat}(h:A.length=w.length) (hi:i≤w.length):(A.take i++w.drop i).length=w.length:=by
 rw[List.length_append,List.length_take,List.length_drop];omega
theorem after_ok (w l:List Int) (k:Nat) (hk:k<l.length) (hwl:w.length=l.length) (hl:l.length≤1000) (hw:∀ x∈w,0≤x∧x≤1000000000) (hv:∀ x∈l,0≤x∧x≤1000000000):ACalls Tryz.prog 19 [ints w,ints l,i64 (k:Int)] (ints (aftL w l k)):=by
 have hw0:w≠[]:=fun e=>by subst e;simp at hwl;omega
 have hcl:=clone_ok w hw0 (by omega)
 have htu:=turned_ok l k hk hl
 have htl:=turn_len l k
 have hal:=aft_len hwl k
 have hag:=fun (i:Nat) (x y:Int)=>aft_get (w:=w) (l:=l) (k:=k) (i:=i) (x:=x) (y:=y)
 have htm:=fun (x:Int)=>turn_mem (l:=l) (k:=k) (x:=x)
 generalize turnL l k=U at *
 generalize aftL w l k=A at *
 refine zas (rs:=[ints A]) [.tmp 6] Tryz.func19 rfl (by kernel_rfl) Tryz.ntmps19 rfl (by simp) rfl fun C vs=>?_
 apply zq
 refine zb fun K hK=>?_;simp only[go_sem];apply hK;clear hK K;apply zw (zk [0,1,2]);simp only[go_sem]
 apply zq
 refine zb fun K hK=>?_;simp only[go_sem]
 refine xcall_own (hcl) rfl (by simp only[go_sem,i64,ints]) (by simp only[go_sem,i64,ints]) (by decide) (by intro h;first|(cases h;done)|rfl) ?_
 (try simp only[go_sem]);apply hK;clear hK K;apply zw (zk [1,2,7]);simp only[go_sem]
 repeat apply zq
 refine zb fun K hK=>?_;simp only[go_sem]
 refine zh (htu) rfl (by simp only[go_sem,i64,ints]) (by simp only[go_sem,i64,ints]) ?_
 (try simp only[go_sem])
 intro _
 apply hK;clear hK K;apply zw (zk [7,14,15,16]);simp only[go_sem];apply zd
 refine zuv (n:=30) w.length (fun i vs=>[(7,.os 11 (vs 11) 1 0 w.length),(14,.r (ints U)),(15,.r (i64 (w.length:Int))),(16,.r (i64 (i:Int)))])
  (fun i vs=>[(11,.arr 3 1 ((A.take i++w.drop i).map fun x=>[i64 x]))]) (fun _=>True) 0 (zj [] ?_ ?_) (Nat.zero_le _) trivial ?_
 ·try simp only[go_sem]
  try simp [htl,hwl]
 ·try simp only[go_sem]
  try simp
 intro i vs hi _
 by_cases hin:i<w.length
 ·obtain⟨x,hx⟩:=zol hin
  obtain⟨y,hy⟩:=zol (l:=U) (i:=i) (by omega)
  have bx:=hw x (zmo hx)
  have by_:=hv y (htm y (zmo hy))
  have wz:IntKind.i64.wrap (x+y)=x+y:=by rw[zI]<;>omega
  have hz:=hag i x y hx hy
  have hg:=mix_get hal hin
  rw[hx] at hg
  rw[← mix_set hal hin hz]
  have hml:=mix_len hal (i:=i) (by omega)
  generalize A.take i++w.drop i=M at *
  have hiU:i<U.length:=by omega
  apply zq
  refine zb fun K hK=>?_;simp only[go_sem,hin];apply hK;clear hK K;apply zw (zk [7,14,15,16,17]);simp only[go_sem]
  apply zq
  apply zc rfl<;>intro hc<;>(try simp only[go_sem] at hc)
  apply zx
  try simp only[go_sem]
  apply zq
  apply zd
  apply zq
  refine zb fun K hK=>?_;simp only[go_sem,hy,hiU,List.length_map];apply hK;clear hK K;apply zw (zk [7,8,9,14,15,16]);simp only[go_sem];refine zb fun K hK=>?_;simp only[go_sem,hg,hml,hin,wz,List.length_map];apply hK;clear hK K;apply zw (zk [7,14,15,16]);simp only[go_sem];refine zb fun K hK=>?_;simp only[go_sem];(try simp (disch:=omega) only[zI]);apply hK;clear hK K
  try simp only[go_sem]
  refine⟨by omega,zj [] ?_ ?_⟩
  ·try simp only[go_sem]
  ·try simp only[go_sem]
   try simp [List.map_set]
 ·have hie:i=w.length:=by omega
  subst hie
  have e1:A.take w.length++w.drop w.length=A:=by rw[List.take_of_length_le (by omega),List.drop_length,List.append_nil]
  rw[e1]
  apply zq
  refine zb fun K hK=>?_;simp only[go_sem,Nat.lt_irrefl];apply hK;clear hK K;apply zw (zk [7,17]);simp only[go_sem]
  apply zq
  apply zc rfl<;>intro hc<;>(try simp only[go_sem] at hc)
  apply zf;simp only[go_sem]
  apply zq
  refine zb fun K hK=>?_;simp only[go_sem];apply hK;clear hK K;apply zw (zk [6]);simp only[go_sem];apply ze;simp only[go_sem];rw[List.take_of_length_le (by simp;omega)]
  exact⟨by omega,rfl⟩
structure WkOk (w l:List Int):Prop where
 wl:w.length=20
 ll:l.length=20
 wb:∀ x∈w,0≤x∧x≤255
 lb:∀ x∈l,0≤x∧x≤600
theorem watch_ok {w l:List Int}(h:WkOk w l):ACalls Tryz.prog 17 [.ag armC,ints w,.sl 1 [[ints l]]] (.tu [.ag armC,i64 0]):=by
 have ho:=open_ok
 have z0:((0:Int) != 0)=false:=rfl
 have hl20:nbW.length=20:=rfl
 have hwl:=h.wl
 have c1:=cont1_ok 39 [.rp [i64 20]] l (watch1_ok l 20 (by have:=h.ll;omega))
 have hw:=bwithin_ok 0 1000000000 w
 have ew:=within_all (a:=0) (b:=1000000000) (l:=w) fun x hx=>by have:=h.wb x hx;omega
 rw[ew] at hw
 have c2:=cont1_ok 41 [] l (watch2_ok l fun x hx=>by have:=h.lb x hx;omega)
 refine acalls_stR (rs:=[.ag armC,i64 0]) [.cell 6 84,.tmp 7] Tryz.func17 rfl (by kernel_rfl) Tryz.ntmps17 rfl (by simp) rfl fun C hC vs=>?_
 apply zq
 refine zb fun K hK=>?_;simp only[go_sem];apply hK;refine zw (zfP 3 3 armC (by omega) rfl rfl) ?_;apply zw (zk [1,2,3,6,7]);simp only[go_sem]
 apply zq
 refine zb fun K hK=>?_;simp only[go_sem,armC]
 refine zh (ho) rfl (by simp only[go_sem,i64,ints,armC]) (by simp only[go_sem,i64,ints,armC]) ?_
 (try simp only[go_sem,armC]);apply hK;apply zw (zk [1,2,3,6,7,8,9]);simp only[go_sem]
 repeat apply zq
 refine zb fun K hK=>?_;simp only[go_sem,z0];apply hK;apply zw (zk [1,2,3,6,7,8,17]);simp only[go_sem]
 apply zc rfl<;>intro hc<;>(try simp only[go_sem] at hc)
 apply zx
 try simp only[go_sem]
 apply zq
 refine zb fun K hK=>?_;simp only[go_sem,armC,hl20,List.length_map];apply hK;refine zw (zfP 10 10 [i64 20] (by omega) rfl rfl) ?_;apply zw (zk [1,2,6,7,8,10]);simp only[go_sem]
 have z20:((20:Int) != 20)=false:=rfl
 have z21:(((20:Nat):Int) != 20)=false:=rfl
 repeat apply zq
 refine zb fun K hK=>?_;simp only[go_sem,hwl,z20,z21,List.length_map]
 refine zh (c1) rfl (by simp only[go_sem,i64,ints,hwl]) (by simp only[go_sem,i64,ints,hwl]) ?_
 (try simp only[go_sem,hwl]);apply hK;apply zw (zk [1,2,6,7,8,31]);simp only[go_sem]
 apply zc rfl<;>intro hc<;>(try simp only[go_sem] at hc)
 apply zx
 try simp only[go_sem]
 repeat apply zq
 refine zb fun K hK=>?_;simp only[go_sem]
 refine zh (hw) rfl (by simp only[go_sem,i64,ints]) (by simp only[go_sem,i64,ints]) ?_
 (try simp only[go_sem])
 refine zh (c2) rfl (by simp only[go_sem,i64,ints]) (by simp only[go_sem,i64,ints]) ?_
 (try simp only[go_sem]);apply hK;apply zw (zk [6,7,8,39]);simp only[go_sem]
 apply zc rfl<;>intro hc<;>(try simp only[go_sem] at hc)
 apply zx
 try simp only[go_sem]
 apply zq
 refine zb fun K hK=>?_;simp only[go_sem,armC];apply hK;apply zw (zk [6,7]);simp only[go_sem];apply ze;simp only[go_sem];exact leL_refl armC
theorem isturn_ok (k:Nat) (hk:k<20):ACalls Tryz.prog 18 [.ag armC,i64 (k:Int)] (.bo true):=by
 have hl20:nbW.length=20:=rfl
 have hw:=bwithin_ok 0 19 [(k:Int)]
 have ew:=within_all (a:=0) (b:=19) (l:=[(k:Int)]) fun x hx=>by rw[List.mem_singleton] at hx;omega
 rw[ew] at hw
 have w1:IntKind.i64.wrap (20-1)=19:=rfl
 refine zas (rs:=[.bo true]) [.tmp 4] Tryz.func18 rfl (by kernel_rfl) Tryz.ntmps18 rfl (by simp) rfl fun C vs=>?_
 apply zq
 refine zb fun K hK=>?_;simp only[go_sem];apply hK;refine zw (zfP 2 2 armC (by omega) rfl rfl) ?_;apply zw (zk [1,2]);simp only[go_sem]
 apply zq
 refine zb fun K hK=>?_;simp only[go_sem,armC,hl20,w1,List.length_map];(try simp (disch:=omega) only[zI])
 refine zh (hw) rfl (by simp only[go_sem,i64,ints,armC,hl20,w1]) (by simp only[go_sem,i64,ints,armC,hl20,w1]) ?_
 (try simp only[go_sem,armC,hl20,w1]);apply hK;apply zw (zk [4]);simp only[go_sem];apply ze;simp only[go_sem]
theorem wear_ok {w l:List Int}(h:WkOk w l) (k:Nat) (hk:k<20):ACalls Tryz.prog 9 [.ag armC,ints w,ints l,i64 (k:Int)] (.tu [ints (aftL w l k),i64 0]):=by
 have hwl:=h.wl
 have hll:=h.ll
 have ht:=isturn_ok k hk
 have z0:((0:Int) != 0)=false:=rfl
 have hwa:=watch_ok h
 have haf:=after_ok w l k (by omega) (by omega) (by omega) (fun x hx=>by have:=h.wb x hx;omega) (fun x hx=>by have:=h.lb x hx;omega)
 have hal:=aft_len (w:=w) (l:=l) (by omega) k
 have hab:=aft_bound (k:=k) h.wb h.lb
 generalize aftL w l k=A at *
 have hA0:A≠[]:=fun e=>by subst e;simp at hal;omega
 have hmx:=max_ok A hA0 (by omega)
 have hmb:=hab _ (maxI_mem hA0)
 have d1:decide (1000000000<maxI A)=false:=decide_eq_false (by omega)
 refine zas (rs:=[ints A,i64 0]) [.tmp 8,.tmp 9] Tryz.func9 rfl (by kernel_rfl) Tryz.ntmps9 rfl (by simp) rfl fun C vs=>?_
 apply zq
 refine zb fun K hK=>?_;simp only[go_sem];apply hK;refine zw (zfP 4 4 armC (by omega) rfl rfl) ?_;apply zw (zk [1,2,3,4]);simp only[go_sem]
 apply zq
 refine zb fun K hK=>?_;simp only[go_sem,armC]
 refine zh (hwa) rfl (by simp only[go_sem,i64,ints,armC]) (by simp only[go_sem,i64,ints,armC]) ?_
 (try simp only[go_sem,armC]);apply hK;refine zw (zfP 10 10 armC (by omega) rfl rfl) ?_;apply zw (zk [1,2,3,10,11]);simp only[go_sem]
 apply zq
 apply zd
 apply zq
 refine zb fun K hK=>?_;simp only[go_sem,z0];apply hK;apply zw (zk [1,2,3,10,11,21]);simp only[go_sem]
 apply zc rfl<;>intro hc<;>(try simp only[go_sem] at hc)
 apply zq
 refine zb fun K hK=>?_;simp only[go_sem,armC]
 refine zh (ht) rfl (by simp only[go_sem,i64,ints,armC]) (by simp only[go_sem,i64,ints,armC]) ?_
 (try simp only[go_sem,armC]);apply hK;apply zw (zk [1,2,3,25]);simp only[go_sem]
 apply zc rfl<;>intro hc<;>(try simp only[go_sem] at hc)
 apply zx
 try simp only[go_sem]
 apply zq
 refine zb fun K hK=>?_;simp only[go_sem]
 refine zh (haf) rfl (by simp only[go_sem,i64,ints]) (by simp only[go_sem,i64,ints]) ?_
 (try simp only[go_sem]);apply hK;apply zw (zk [12]);simp only[go_sem]
 repeat apply zq
 refine zb fun K hK=>?_;simp only[go_sem]
 refine zh (hmx) rfl (by simp only[go_sem,i64,ints,d1]) (by simp only[go_sem,i64,ints,d1]) ?_
 (try simp only[go_sem,d1]);apply hK;apply zw (zk [12,36]);simp only[go_sem]
 apply zc rfl<;>intro hc<;>(try simp only[go_sem] at hc)
 apply zx
 try simp only[go_sem]
 apply zq
 refine zb fun K hK=>?_;simp only[go_sem];apply hK;apply zw (zk [8,9]);simp only[go_sem];apply ze;simp only[go_sem]
end Go.Proofs.YtonpmcdkncbjoaaGreat.Bo

namespace Go.Proofs.YtonpmcdkncbjoaaGreat.Du
open Go Go.Oc
set_option maxRecDepth 8000
set_option maxHeartbeats 4000000
theorem owithin1_ok (n a b:Int):ACalls Tryz.prog 84 [i64 n,.rp [i64 a],.rp [i64 b]] (.bo (decide (n<a) || decide (b<n))):=by
 refine zas (rs:=[.bo (decide (n<a) || decide (b<n))]) [.tmp 4] Tryz.func84 rfl (by kernel_rfl) Tryz.ntmps84 rfl (by simp) rfl fun C vs=>?_
 apply zq
 refine zb fun K hK=>?_;simp only[go_sem];apply hK
 apply zq
 refine zb fun K hK=>?_;simp only[go_sem]
 refine⟨fun h=>?_,fun h=>?_⟩ <;>
 ·skip
  apply hK;apply ze;simp only[go_sem]
  try simp [h]
theorem owithin_ok (a b:Int) (l:List Int):ACalls Tryz.prog 53 [i64 a,i64 b,ints l] (.bo (withinL a b l)):=by
 refine zas (rs:=[.bo (withinL a b l)]) [.tmp 6] Tryz.func53 rfl (by kernel_rfl) Tryz.ntmps53 rfl (by simp) rfl fun C vs=>?_
 apply zq
 refine zb fun K hK=>?_;simp only[go_sem];apply hK
 apply zq
 refine zb fun K hK=>?_;simp only[go_sem]
 refine zh (contains_ok (fun n=>decide (n<a) || decide (b<n)) 84 [.rp [i64 a],.rp [i64 b]] l fun x _=>owithin1_ok x a b) rfl (by simp only[go_sem,i64,ints]) (by simp only[go_sem,i64,ints]) ?_
 (try simp only[go_sem]);apply hK;apply ze;simp only[go_sem];rw[← withinL_not]
theorem factor_ok (b:Int) (hb:0≤b∧b≤499):ACalls Tryz.prog 110 [.ag [i64 b]] (i64 (b / 100)):=by
 have e1:Int.tdiv b 100=b / 100:=Int.tdiv_eq_ediv_of_nonneg hb.1
 have w1:IntKind.i64.wrap (b / 100)=b / 100:=by rw[zI]<;>omega
 refine zas (rs:=[i64 (b / 100)]) [.tmp 2] Tryz.func110 rfl (by kernel_rfl) Tryz.ntmps110 rfl (by simp) rfl fun C vs=>?_
 apply zq
 refine zb fun K hK=>?_;simp only[go_sem];apply hK;apply zw (zk [1]);simp only[go_sem]
 apply zq
 refine zb fun K hK=>?_;simp only[go_sem,e1,w1];apply hK;apply zw (zk [2]);simp only[go_sem];apply ze;simp only[go_sem]
theorem number_ok (b:Int) (hb:0≤b∧b≤499):ACalls Tryz.prog 111 [.ag [i64 b]] (i64 (b % 100)):=by
 have e1:Int.tmod b 100=b % 100:=Int.tmod_eq_emod_of_nonneg hb.1
 have w1:IntKind.i64.wrap (b % 100)=b % 100:=by rw[zI]<;>omega
 refine zas (rs:=[i64 (b % 100)]) [.tmp 2] Tryz.func111 rfl (by kernel_rfl) Tryz.ntmps111 rfl (by simp) rfl fun C vs=>?_
 apply zq
 refine zb fun K hK=>?_;simp only[go_sem];apply hK;apply zw (zk [1]);simp only[go_sem]
 apply zq
 refine zb fun K hK=>?_;simp only[go_sem,e1,w1];apply hK;apply zw (zk [2]);simp only[go_sem];apply ze;simp only[go_sem]
theorem bworth_ok (b:Int) (hb:0≤b∧b≤499):ACalls Tryz.prog 112 [.ag [i64 b]] (i64 (scoreOf b)):=by
 have hf:=factor_ok b hb
 have hn:=number_ok b hb
 have h1:0≤b / 100∧b / 100≤4:=by omega
 have h2:0≤b % 100∧b % 100≤99:=by omega
 have h3:=Int.mul_nonneg h1.1 h2.1
 have h4:=Int.mul_le_mul h1.2 h2.2 h2.1 (show (0:Int)≤4 by omega)
 have w3:IntKind.i64.wrap (b / 100*(b % 100))=b / 100*(b % 100):=by rw[zI]<;>omega
 have hs:scoreOf b=b / 100*(b % 100):=rfl
 rw[hs]
 refine zas (rs:=[i64 (b / 100*(b % 100))]) [.tmp 2] Tryz.func112 rfl (by kernel_rfl) Tryz.ntmps112 rfl (by simp) rfl fun C vs=>?_
 apply zq
 refine zb fun K hK=>?_;simp only[go_sem];apply hK;refine zw (zfP 1 1 [i64 b] (by omega) rfl rfl) ?_;apply zw (zk [1]);simp only[go_sem]
 apply zq
 refine zg follows (by decide +kernel) (by kernel_rfl) fun K hK=>?_;simp only[go_sem,w3]
 refine zh (hf) rfl (by simp only[go_sem,i64,ints]) (by simp only[go_sem,i64,ints]) ?_
 (try simp only[go_sem])
 refine zh (hn) rfl (by simp only[go_sem,i64,ints,w3]) (by simp only[go_sem,i64,ints,w3]) ?_
 (try simp only[go_sem,w3]);apply hK;apply zw (zk [2]);simp only[go_sem];apply ze;simp only[go_sem]
theorem bopens_ok (b g:Int) (hb:0≤b∧b≤499):ACalls Tryz.prog 113 [.ag [i64 b],i64 g] (.bo (opensD g b)):=by
 have hf:=factor_ok b hb
 refine zas (rs:=[.bo (opensD g b)]) [.tmp 4] Tryz.func113 rfl (by kernel_rfl) Tryz.ntmps113 rfl (by simp) rfl fun C vs=>?_
 apply zq
 refine zb fun K hK=>?_;simp only[go_sem];apply hK;refine zw (zfP 2 2 [i64 b] (by omega) rfl rfl) ?_;apply zw (zk [1,2]);simp only[go_sem]
 repeat apply zq
 refine zb fun K hK=>?_;simp only[go_sem];apply hK;apply zw (zk [2,5]);simp only[go_sem];apply zd
 apply zq
 refine zb fun K hK=>?_;simp only[go_sem];apply hK;apply zw (zk [2,5,6]);simp only[go_sem]
 by_cases h1:g=1
 ·subst h1
  apply zc rfl<;>intro hc<;>(try simp only[go_sem] at hc)
  apply zq
  refine zb fun K hK=>?_;simp only[go_sem]
  refine zh (hf) rfl (by simp only[go_sem,i64,ints]) (by simp only[go_sem,i64,ints]) ?_
  (try simp only[go_sem]);apply hK;apply zw (zk [4]);simp only[go_sem];apply ze;simp only[go_sem];rw[Bool.eq_iff_iff]
  simp [opensD]
 ·have e1:(g == 1)=false:=by simpa using h1
  rw[e1]
  apply zc rfl<;>intro hc<;>(try simp only[go_sem] at hc)
  apply zq
  refine zb fun K hK=>?_;simp only[go_sem];apply hK;apply zw (zk [2,5,11]);simp only[go_sem]
  by_cases h2:g=2
  ·subst h2
   apply zc rfl<;>intro hc<;>(try simp only[go_sem] at hc)
   apply zq
   refine zb fun K hK=>?_;simp only[go_sem]
   refine zh (hf) rfl (by simp only[go_sem,i64,ints]) (by simp only[go_sem,i64,ints]) ?_
   (try simp only[go_sem]);apply hK;apply zw (zk [4]);simp only[go_sem];apply ze;simp only[go_sem]
   simp [opensD]
  ·have e2:(g == 2)=false:=by simpa using h2
   rw[e2]
   apply zc rfl<;>intro hc<;>(try simp only[go_sem] at hc)
   apply zx
   try simp only[go_sem]
   apply zq
   refine zb fun K hK=>?_;simp only[go_sem];apply hK;apply zw (zk [4]);simp only[go_sem];apply ze;simp only[go_sem]
   simp [opensD,h1,h2]
theorem obed_ok (b:Int) (hb:0≤b∧b≤499) (hv:bedOk b=true):ACalls Tryz.prog 104 [.ag [i64 b]] (.bo true):=by
 have hf:=factor_ok b hb
 have hn:=number_ok b hb
 have hv':=hv
 simp only[bedOk,Bool.or_eq_true,Bool.and_eq_true,decide_eq_true_eq] at hv'
 refine zas (rs:=[.bo true]) [.tmp 2] Tryz.func104 rfl (by kernel_rfl) Tryz.ntmps104 rfl (by simp) rfl fun C vs=>?_
 apply zq
 refine zb fun K hK=>?_;simp only[go_sem];apply hK;refine zw (zfP 1 1 [i64 b] (by omega) rfl rfl) ?_;apply zw (zk [1]);simp only[go_sem]
 cases h1:(b == 125)
 ·cases h2:(b == 225)
  ·have n1:b≠125:=by simpa using h1
   have n2:b≠225:=by simpa using h2
   have w1:withinL 1 4 [b / 100]=true:=by simp [withinL];omega
   have w2:withinL 1 20 [b % 100]=true:=by simp [withinL];omega
   have c1:=owithin_ok 1 4 [b / 100]
   have c2:=owithin_ok 1 20 [b % 100]
   rw[w1] at c1
   rw[w2] at c2
   apply zq
   refine zb fun K hK=>?_;simp only[go_sem,h1,h2]
   refine zh (hf) rfl (by simp only[go_sem,i64,ints]) (by simp only[go_sem,i64,ints]) ?_
   (try simp only[go_sem])
   refine zh (c1) rfl (by simp only[go_sem,i64,ints]) (by simp only[go_sem,i64,ints]) ?_
   (try simp only[go_sem])
   refine zh (hn) rfl (by simp only[go_sem,i64,ints]) (by simp only[go_sem,i64,ints]) ?_
   (try simp only[go_sem])
   refine zh (c2) rfl (by simp only[go_sem,i64,ints]) (by simp only[go_sem,i64,ints]) ?_
   (try simp only[go_sem]);apply hK;apply zw (zk [2]);simp only[go_sem];apply ze;simp only[go_sem]
  ·apply zq
   refine zb fun K hK=>?_;simp only[go_sem,h1,h2];apply hK;apply zw (zk [2]);simp only[go_sem];apply ze;simp only[go_sem]
 ·apply zq
  refine zb fun K hK=>?_;simp only[go_sem,h1];apply hK;apply zw (zk [2]);simp only[go_sem];apply ze;simp only[go_sem]
structure BdsO (bs:List Int):Prop where
 asc:bs.Pairwise (· < ·)
 ne:1≤bs.length
 len:bs.length≤82
 bed:∀ b∈bs,bedOk b=true∧0≤b∧b≤499
theorem areBedsO_ok (bs:List Int) (h:BdsO bs):ACalls Tryz.prog 82 [ints bs] (.bo true):=by
 have hne:=h.ne
 have hlen:=h.len
 refine zas (rs:=[.bo true]) [.tmp 2] Tryz.func82 rfl (by kernel_rfl) Tryz.ntmps82 rfl (by simp) rfl fun C vs=>?_
 apply zq
 refine zb fun K hK=>?_;simp only[go_sem];apply hK;apply zw (zk [0]);simp only[go_sem]
 repeat apply zq
 refine zb fun K hK=>?_;simp only[go_sem,List.length_map]
 intro _
 apply hK;apply zw (zk [0,5,6,7]);simp only[go_sem];apply zd
 refine zup (n:=34) bs.length (fun i vs=>[(0,.r (ints bs)),(5,.r (ints bs)),(6,.r (i64 (bs.length:Int))),(7,.r (i64 (i:Int)))])
  (fun i=>[]) (fun _=>True) 0 (zfo [] ?_ ?_) (Nat.zero_le _) trivial ?_
 ·try simp only[go_sem]
 ·try simp only[go_sem]
 ·intro i vs hi _
  by_cases hin:i<bs.length
  ·obtain⟨b,hb⟩:=zol hin
   obtain⟨q1,q2⟩:=h.bed b (zmo hb)
   have hq:=obed_ok b q2 q1
   apply zq
   refine zb fun K hK=>?_;simp only[go_sem,hin];apply hK;apply zw (zk [0,5,6,7,8]);simp only[go_sem]
   apply zq
   apply zc rfl<;>intro hc<;>(try simp only[go_sem] at hc)
   apply zx
   try simp only[go_sem]
   apply zq
   apply zd
   apply zq
   refine zb fun K hK=>?_;simp only[go_sem,hb,hin,List.length_map];apply hK;apply zw (zk [0,3,4,5,6,7]);simp only[go_sem]
   apply zq
   by_cases h0:i=0
   ·subst h0
    refine zb fun K hK=>?_;simp only[go_sem]
    refine zh (hq) rfl (by simp only[go_sem,i64,ints]) (by simp only[go_sem,i64,ints]) ?_
    (try simp only[go_sem]);apply hK;apply zw (zk [0,5,6,7,28]);simp only[go_sem]
    apply zc rfl<;>intro hc<;>(try simp only[go_sem] at hc)
    apply zx
    try simp only[go_sem]
    refine zb fun K hK=>?_;simp only[go_sem];(try simp (disch:=omega) only[zI]);apply hK
    try simp only[go_sem]
    refine⟨by omega,zfo [] ?_ ?_⟩
    ·try simp only[go_sem]
    ·try simp only[go_sem]
   ·obtain⟨c,hc⟩:=zol (l:=bs) (i:=i-1) (by omega)
    have hlt:c<b:=by
     have:=List.pairwise_iff_getElem.1 h.asc (i-1) i (by omega) hin (by omega)
     rw[List.getElem?_eq_getElem (by omega)] at hc
     rw[List.getElem?_eq_getElem hin] at hb
     injection hc with hc
     injection hb with hb
     omega
    have g0:decide ((0:Int)<(i:Int))=true:=decide_eq_true (by omega)
    have g0':0<i:=by omega
    have g1:decide (b≤c)=false:=decide_eq_false (by omega)
    have g2:IntKind.i64.wrap ((i:Int)-1)=(i:Int)-1:=by rw[zI]<;>omega
    have g3:i-1<bs.length:=by omega
    have hcx:bs[((i:Int)-1).toNat]? = some c:=by rw[show ((i:Int)-1).toNat=i-1 by omega];exact hc
    refine zb fun K hK=>?_;simp only[go_sem,hcx,g1,g2]
    refine zh (hq) rfl (by simp only[go_sem,i64,ints,g0,g0',g2,hcx,g1]) (by simp only[go_sem,i64,ints,g0,g0',g2,hcx,g1]) ?_
    (try simp only[go_sem,g0,g0',g2,hcx,g1])
    refine⟨by omega,?_⟩
    apply hK;apply zw (zk [0,5,6,7,28]);simp only[go_sem]
    apply zc rfl<;>intro hc<;>(try simp only[go_sem] at hc)
    apply zx
    try simp only[go_sem]
    refine zb fun K hK=>?_;simp only[go_sem];(try simp (disch:=omega) only[zI]);apply hK
    try simp only[go_sem]
    refine⟨by omega,zfo [] ?_ ?_⟩
    ·try simp only[go_sem]
    ·try simp only[go_sem]
  ·have hie:i=bs.length:=by omega
   subst hie
   have w1:withinL 1 82 [(bs.length:Int)]=true:=by simp [withinL];omega
   have c1:=owithin_ok 1 82 [(bs.length:Int)]
   rw[w1] at c1
   apply zq
   refine zb fun K hK=>?_;simp only[go_sem,Nat.lt_irrefl];apply hK;apply zw (zk [0,8]);simp only[go_sem]
   apply zq
   apply zc rfl<;>intro hc<;>(try simp only[go_sem] at hc)
   apply zf;simp only[go_sem]
   apply zq
   refine zb fun K hK=>?_;simp only[go_sem,List.length_map]
   intro _
   refine zh (c1) rfl (by simp only[go_sem,i64,ints]) (by simp only[go_sem,i64,ints]) ?_
   (try simp only[go_sem]);apply hK;apply zw (zk [2]);simp only[go_sem];apply ze;simp only[go_sem]
abbrev ouR (bs:List Int) (g k:Int):RV:=.ag [ints bs,i64 g,i64 k]
theorem gateO_ok (g:Int) (h:0≤g∧g≤2):ACalls Tryz.prog 83 [i64 g] (.bo true):=by
 have g1:decide ((0:Int)≤g)=true:=decide_eq_true h.1
 have g2:decide (g≤(2:Int))=true:=decide_eq_true h.2
 refine zas (rs:=[.bo true]) [.tmp 2] Tryz.func83 rfl (by kernel_rfl) Tryz.ntmps83 rfl (by simp) rfl fun C vs=>?_
 apply zq
 refine zb fun K hK=>?_;simp only[go_sem];apply hK;apply zw (zk [0]);simp only[go_sem]
 apply zq
 refine zb fun K hK=>?_;simp only[go_sem,g1,g2];apply hK;apply zw (zk [2]);simp only[go_sem];apply ze;simp only[go_sem]
theorem ocheck_ok (bs:List Int) (g k:Int) (h:BdsO bs) (hg:0≤g∧g≤2) (hk:1≤k∧k≤9):ACalls Tryz.prog 52 [ouR bs g k] (i64 0):=by
 have h1:=areBedsO_ok bs h
 have h2:=gateO_ok g hg
 have w1:withinL 1 9 [k]=true:=by simp [withinL];omega
 have c1:=owithin_ok 1 9 [k]
 rw[w1] at c1
 refine zas (rs:=[i64 0]) [.tmp 2] Tryz.func52 rfl (by kernel_rfl) Tryz.ntmps52 rfl (by simp) rfl fun C vs=>?_
 apply zq
 refine zb fun K hK=>?_;simp only[go_sem];apply hK;refine zw (zfP 1 1 [ints bs,i64 g,i64 k] (by omega) rfl rfl) ?_;apply zw (zk [1]);simp only[go_sem]
 repeat apply zq
 refine zb fun K hK=>?_;simp only[go_sem]
 refine zh (h1) rfl (by simp only[go_sem,i64,ints]) (by simp only[go_sem,i64,ints]) ?_
 (try simp only[go_sem])
 refine zh (h2) rfl (by simp only[go_sem,i64,ints]) (by simp only[go_sem,i64,ints]) ?_
 (try simp only[go_sem])
 refine zh (c1) rfl (by simp only[go_sem,i64,ints]) (by simp only[go_sem,i64,ints]) ?_
 (try simp only[go_sem]);apply hK;apply zw (zk [19]);simp only[go_sem]
 apply zc rfl<;>intro hc<;>(try simp only[go_sem] at hc)
 apply zx
 try simp only[go_sem]
 apply zq
 refine zb fun K hK=>?_;simp only[go_sem];apply hK;apply zw (zk [2]);simp only[go_sem];apply ze;simp only[go_sem]
abbrev brdC (bs:List Int) (g:Int) (cs:List (List Int)):List RV:=[ints bs,i64 g,tabR cs]
abbrev brdP (bs:List Int) (g:Int) (cs:List (List Int)):RV:=.rp (brdC bs g cs)
def afterO (g s b:Int):Int × Bool:=if s-scoreOf b=0 then (0,opensD g b) else if s-scoreOf b=1 then (1,g == 0) else (s-scoreOf b,decide (1<s-scoreOf b))
theorem oafter_ok (bs:List Int) (g:Int) (cs:List (List Int)) (s b:Int) (hs:0≤s∧s≤2000) (hb:0≤b∧b≤499) :
 ACalls Tryz.prog 106 [brdP bs g cs,i64 s,.ag [i64 b]] (.tu [i64 (afterO g s b).1,.bo (afterO g s b).2]):=by
 have hw:=bworth_ok b hb
 have ho:=bopens_ok b g hb
 have hsc:=score_le hb.1 hb.2
 have w1:IntKind.i64.wrap (s-scoreOf b)=s-scoreOf b:=by rw[zI]<;>omega
 refine zas (rs:=[i64 (afterO g s b).1,.bo (afterO g s b).2]) [.tmp 6,.tmp 7] Tryz.func106 rfl (by kernel_rfl) Tryz.ntmps106 rfl (by simp) rfl fun C vs=>?_
 apply zq
 refine zb fun K hK=>?_;simp only[go_sem];apply hK;refine zw (zfP 5 5 [i64 b] (by omega) rfl rfl) ?_;apply zw (zk [0,1,5]);simp only[go_sem]
 apply zq
 refine zb fun K hK=>?_;simp only[go_sem]
 refine zh (hw) rfl (by simp only[go_sem,i64,ints,w1]) (by simp only[go_sem,i64,ints,w1]) ?_
 (try simp only[go_sem,w1]);apply hK;apply zw (zk [0,5,6]);simp only[go_sem]
 unfold afterO
 generalize s-scoreOf b=left at *
 apply zq
 apply zd
 apply zq
 refine zb fun K hK=>?_;simp only[go_sem];apply hK;apply zw (zk [0,5,6,12]);simp only[go_sem]
 by_cases h0:left=0
 ·subst h0
  apply zc rfl<;>intro hc<;>(try simp only[go_sem] at hc)
  apply zq
  refine zg follows (by decide +kernel) (by kernel_rfl) fun K hK=>?_;simp only[go_sem]
  refine zh (ho) rfl (by simp only[go_sem,i64,ints]) (by simp only[go_sem,i64,ints]) ?_
  (try simp only[go_sem]);apply hK;apply zw (zk [6,7]);simp only[go_sem];apply ze;simp only[go_sem]
  try simp
 ·have e0:(left == 0)=false:=by simpa using h0
  rw[e0]
  apply zc rfl<;>intro hc<;>(try simp only[go_sem] at hc)
  apply zq
  refine zb fun K hK=>?_;simp only[go_sem];apply hK;apply zw (zk [0,5,6,21]);simp only[go_sem]
  by_cases h1:left=1
  ·subst h1
   apply zc rfl<;>intro hc<;>(try simp only[go_sem] at hc)
   apply zq
   refine zg follows (by decide +kernel) (by kernel_rfl) fun K hK=>?_;simp only[go_sem];apply hK;apply zw (zk [6,7]);simp only[go_sem];apply ze;simp only[go_sem]
   try simp
  ·have e1:(left == 1)=false:=by simpa using h1
   rw[e1]
   apply zc rfl<;>intro hc<;>(try simp only[go_sem] at hc)
   apply zx
   try simp only[go_sem]
   apply zq
   refine zb fun K hK=>?_;simp only[go_sem];apply hK;apply zw (zk [6,7]);simp only[go_sem];apply ze;simp only[go_sem]
   try simp [h0,h1]
def throwsO (g s:Int) (bs:List Int):List (Int × Int):=bs.filterMap fun b=>if ((afterO g s b).2&&decide (0<s))=true then some (b,(afterO g s b).1) else none
abbrev thrR (x:Int × Int):List RV:=[.ag [i64 x.1],i64 x.2]
theorem throws1_ok (bs:List Int) (g:Int) (cs:List (List Int)) (s:Int) (hs:0≤s∧s≤2000) (hb:∀ b∈bs,0≤b∧b≤499) :
 ICalls Tryz.prog true 105 [.rp [brdP bs g cs],.rp [i64 s]] ((throwsO g s bs).map thrR):=by
 refine icalls_st Tryz.func105 rfl (by kernel_rfl) Tryz.ntmps105 rfl (by simp) fun C ll=>?_
 apply zq
 refine zb fun K hK=>?_;simp only[go_sem,argL]
 intro hl7
 apply hK;apply zw (zk [0,1,2,11,12,13]);simp only[go_sem];apply zd
 refine zup (n:=37) bs.length (fun i vs=>[(0,.r (.yl ll)),(1,.r (.rp [brdP bs g cs])),(2,.r (.rp [i64 s])),(11,.r (ints bs)),(12,.r (i64 bs.length)),(13,.r (i64 i))])
  (fun i=>[(999,.gh Tryz.prog ll true (some ((throwsO g s (bs.drop i)).map thrR)))]) (fun _=>True) 0 (zfo [] ?_ ?_) (Nat.zero_le _) trivial ?_
 ·try simp only[go_sem]
 ·try simp only[go_sem]
 ·intro i vs hi _
  by_cases hin:i<bs.length
  ·obtain⟨b,hbi⟩:=zol hin
   have hbq:=hb b (zmo hbi)
   have hdr:bs.drop i=b::bs.drop (i+1):=drop_of_opt hbi
   have haf:=oafter_ok bs g cs s b hs hbq
   have hcons:throwsO g s (bs.drop i)=if ((afterO g s b).2&&decide (0<s))=true then (b,(afterO g s b).1)::throwsO g s (bs.drop (i+1)) else throwsO g s (bs.drop (i+1)):=by
    rw[hdr]
    unfold throwsO
    rw[List.filterMap_cons]
    by_cases hq:((afterO g s b).2&&decide (0<s))=true
    ·rw[if_pos hq,if_pos hq]
    ·rw[if_neg hq,if_neg hq]
   rw[hcons]
   generalize afterO g s b=x at *
   apply zq
   refine zb fun K hK=>?_;simp only[go_sem,hin];apply hK
   apply zq
   apply zc rfl<;>intro hc<;>(try simp only[go_sem] at hc)
   apply zx
   apply zq
   apply zd
   apply zq
   refine zb fun K hK=>?_;simp only[go_sem,hbi,hin,List.length_map];apply hK;apply zw (zk [0,1,2,5,11,12,13]);simp only[go_sem]
   apply zq
   refine zb fun K hK=>?_;simp only[go_sem]
   refine zh (haf) rfl (by simp only[go_sem,i64,ints]) (by simp only[go_sem,i64,ints]) ?_
   (try simp only[go_sem]);apply hK;apply zw (zk [0,1,2,5,6,7,11,12,13]);simp only[go_sem]
   obtain⟨lf,ok⟩:=x
   cases ok with
   | false =>
     have hgo:(((lf,false):Int × Bool).2&&decide (0<s))=true↔False:=by simp
     simp only[hgo,if_false]
     apply zq
     refine zb fun K hK=>?_;simp only[go_sem];apply hK;apply zw (zk [0,1,2,11,12,13,35]);simp only[go_sem]
     apply zc rfl<;>intro hc<;>(try simp only[go_sem] at hc)
     apply zx
     try simp only[go_sem]
     refine zb fun K hK=>?_;simp only[go_sem];(try simp (disch:=omega) only[zI]);apply hK
     try simp only[go_sem]
     refine⟨by omega,zfo [5] ?_ ?_⟩
     ·try simp only[go_sem]
     ·try simp only[go_sem]
   | true =>
     by_cases hs0:0<s
     ·have hgo:(((lf,true):Int × Bool).2&&decide (0<s))=true:=by simp [hs0]
      simp only[hgo,if_true,List.map_cons]
      have hd0:decide (0<s)=true:=decide_eq_true hs0
      apply zq
      refine zb fun K hK=>?_;simp only[go_sem,hd0,hs0]
      refine xcall_yield (z:=true) (e:=thrR (b,lf)) (rest:=(throwsO g s (bs.drop (i+1))).map thrR) (by simp only[go_sem]) rfl (by simp only[go_sem]) (.inl rfl) ?_ ?_
      ·simp only[go_sem];apply hK;apply zw (zk [0,1,2,11,12,13,35]);simp only[go_sem]
       apply zc rfl<;>intro hc<;>(try simp only[go_sem] at hc)
       apply zx
       try simp only[go_sem]
       refine zb fun K hK=>?_;simp only[go_sem];(try simp (disch:=omega) only[zI]);apply hK
       try simp only[go_sem]
       refine⟨by omega,zfo [5] ?_ ?_⟩
       ·try simp only[go_sem]
       ·try simp only[go_sem]
      ·simp only[go_sem];apply hK;apply zw (zk [35]);simp only[go_sem]
       apply zc rfl<;>intro hc<;>(try simp only[go_sem] at hc)
       apply ze;simp only[go_sem];exact⟨_,_,.inr rfl⟩
     ·have hgo:(((lf,true):Int × Bool).2&&decide (0<s))=true↔False:=by simp [hs0]
      simp only[hgo,if_false]
      have hd0:decide (0<s)=false:=decide_eq_false hs0
      apply zq
      refine zb fun K hK=>?_;simp only[go_sem,hd0,hs0];apply hK;apply zw (zk [0,1,2,11,12,13,35]);simp only[go_sem]
      apply zc rfl<;>intro hc<;>(try simp only[go_sem] at hc)
      apply zx
      try simp only[go_sem]
      refine zb fun K hK=>?_;simp only[go_sem];(try simp (disch:=omega) only[zI]);apply hK
      try simp only[go_sem]
      refine⟨by omega,zfo [5] ?_ ?_⟩
      ·try simp only[go_sem]
      ·try simp only[go_sem]
  ·have hie:i=bs.length:=by omega
   subst hie
   apply zq
   refine zb fun K hK=>?_;simp only[go_sem,Nat.lt_irrefl];apply hK
   apply zq
   apply zc rfl<;>intro hc<;>(try simp only[go_sem] at hc)
   apply zf;simp only[go_sem]
   have h0:(throwsO g s (bs.drop bs.length)).map thrR=[]:=by simp [throwsO]
   exact⟨ll,true,.inl (by simp only[go_sem,h0])⟩
theorem throws_ok (bs:List Int) (g:Int) (cs:List (List Int)) (s:Int):ACalls Tryz.prog 87 [brdP bs g cs,i64 s] (.fn 105 [.rp [brdP bs g cs],.rp [i64 s]]):=by
 refine zas (rs:=[.fn 105 [.rp [brdP bs g cs],.rp [i64 s]]]) [.tmp 4] Tryz.func87 rfl (by kernel_rfl) Tryz.ntmps87 rfl (by simp) rfl fun C vs=>?_
 apply zq
 refine zb fun K hK=>?_;simp only[go_sem];apply hK
 apply zq
 refine zb fun K hK=>?_;simp only[go_sem];apply hK;apply ze;simp only[go_sem]
 simp [RV.le,leL_refl.le_refl,leL_refl]
theorem throws_mem {bs:List Int}(hB:∀ b∈bs,bedOk b=true) {g s:Int}{x:Int × Int}(hx:x∈throwsO g s bs):x.1∈bs∧0≤x.2∧x.2<s∧x.2=s-scoreOf x.1:=by
 unfold throwsO at hx
 obtain⟨b,hb,e⟩:=List.mem_filterMap.1 hx
 split at e
 ·rename_i hc
  injection e with e
  subst e
  have hp:=bedOk_pos (hB b hb)
  simp only[Bool.and_eq_true,decide_eq_true_eq] at hc
  obtain⟨h1,h2⟩:=hc
  unfold afterO at h1 ⊢
  refine⟨hb,?_⟩
  by_cases q0:s-scoreOf b=0
  ·simp only[if_pos q0];omega
  ·by_cases q1:s-scoreOf b=1
   ·simp only[if_neg q0,if_pos q1];omega
   ·simp only[if_neg q0,if_neg q1,decide_eq_true_eq] at h1 ⊢
    exact⟨by omega,by omega,trivial⟩
 ·cases e
theorem throws_len (bs:List Int) (g s:Int):(throwsO g s bs).length≤bs.length:=List.length_filterMap_le _ _
def sumT (before:List Int) (l:List (Int × Int)):Int:=(l.map fun x=>before.getD x.2.toNat 0).sum
theorem sumT_snoc (before:List Int) (l:List (Int × Int)) (x:Int × Int):sumT before (l++[x])=sumT before l+before.getD x.2.toNat 0:=by simp [sumT]
def rowO (g:Int) (bs before:List Int):List Int:=(List.range before.length).map fun s:Nat=>sumT before (throwsO g s bs)
def rowS (g:Int) (bs before:List Int) (k:Nat):List Int:=(List.range before.length).map fun s:Nat=>if s<k then sumT before (throwsO g s bs) else 0
theorem rowS_len (g:Int) (bs before:List Int) (k:Nat):(rowS g bs before k).length=before.length:=by simp [rowS]
theorem rowS_zero (g:Int) (bs before:List Int):rowS g bs before 0=List.replicate before.length 0:=by
 refine List.ext_getElem (by simp [rowS]) fun i h1 h2=>?_
 simp [rowS]
theorem rowS_end (g:Int) (bs before:List Int):rowS g bs before before.length=rowO g bs before:=by
 unfold rowS rowO
 refine List.map_congr_left fun s hs=>?_
 rw[if_pos (List.mem_range.1 hs)]
theorem rowS_set (g:Int) (bs before:List Int) (k:Nat):(rowS g bs before k).set k (sumT before (throwsO g k bs))=rowS g bs before (k+1):=by
 refine List.ext_getElem (by simp [rowS]) fun i h1 h2=>?_
 have hi:i<before.length:=by simpa [rowS] using h2
 rw[List.getElem_set]
 simp only[rowS,List.getElem_map,List.getElem_range]
 split
 ·rename_i e;subst e;rw[if_pos (by omega)]
 ·split<;>split<;>first|rfl|omega
theorem rowS_at (g:Int) (bs before:List Int) (k:Nat) (h:k<before.length):(rowS g bs before k).set k 0=rowS g bs before k:=by
 refine List.ext_getElem (by simp) fun i h1 h2=>?_
 rw[List.getElem_set]
 split
 ·rename_i e;subst e;simp [rowS]
 ·rfl
theorem sumT_le {before:List Int}{M:Int}(h:∀ x∈before,0≤x∧x≤M) (hM:0≤M):∀ l:List (Int × Int),0≤sumT before l∧sumT before l≤M*l.length
 | []=>by simp [sumT]
 | x::l=>by
   have ih:=sumT_le h hM l
   have hx:0≤before.getD x.2.toNat 0∧before.getD x.2.toNat 0≤M:=by
    rw[List.getD_eq_getElem?_getD]
    cases e:before[x.2.toNat]? with
    | none=>simp;omega
    | some y=>exact h y (zmo e)
   have e1:sumT before (x::l)=before.getD x.2.toNat 0+sumT before l:=by simp [sumT]
   rw[e1,List.length_cons]
   have:M*((l.length+1:Nat):Int)=M*l.length+M:=by push_cast;rw[Int.mul_add];omega
   omega
abbrev arrN (l:List Int):List (List RV):=l.map fun n=>[i64 n]
theorem row_ok (bs:List Int) (g:Int) (cs:List (List Int)) (before:List Int) (hb:∀ b∈bs,bedOk b=true∧0≤b∧b≤499) (hl:1≤before.length∧before.length≤1001) (hbl:bs.length≤82) (hM:∀ x∈before,0≤x∧x≤1000000000000) :
 OCalls Tryz.prog 85 [brdP bs g cs,ints before] 3 1 (arrN (rowO g bs before)) before.length:=by
 have hth:=throws_ok bs g cs
 refine ocalls_0R (n:=34) (.tmp 4) Tryz.func85 rfl (by kernel_rfl) Tryz.ntmps85 rfl (by simp) (fun e he=>by obtain⟨x,_,rfl⟩:=List.mem_map.1 he;rfl) fun C hC=>?_
 apply zq
 refine zb fun K hK=>?_;simp only[go_sem];apply hK;refine zw (zfP 3 3 [ints before] (by omega) rfl rfl) ?_;apply zw (zk [0,3]);simp only[go_sem]
 apply zq
 refine zb fun K hK=>?_;simp only[go_sem,List.length_map];repeat first|intro _|refine⟨by omega,?_⟩
 apply hK;apply zw (zk [0,3,5]);simp only[go_sem]
 repeat apply zq
 refine zb fun K hK=>?_;simp only[go_sem,List.length_map,List.length_replicate]
 intro _
 apply hK;apply zw (zk [0,3,5,13,14]);simp only[go_sem];apply zd
 refine zuv (n:=34) before.length (fun i vs=>[(0,.r (brdP bs g cs)),(3,.r (.rp [ints before])),(5,.pt 5 (vs 5) 0),(13,.r (i64 (before.length:Int))),(14,.r (i64 (i:Int)))])
  (fun i vs=>[(5,.box [.os 11 (vs 11) 1 0 before.length]),(11,.arr 3 1 (arrN (rowS g bs before i)))]) (fun _=>True) 0 (zj [] ?_ ?_) (Nat.zero_le _) trivial ?_
 ·try simp only[go_sem]
  try rfl
 ·try simp only[go_sem]
  rw[rowS_zero]
  try simp
 ·intro i vs hi _
  by_cases hin:i<before.length
  ·apply zq
   refine zb fun K hK=>?_;simp only[go_sem,hin];apply hK;apply zw (zk [0,3,5,13,14,15]);simp only[go_sem]
   apply zq
   apply zc rfl<;>intro hc<;>(try simp only[go_sem] at hc)
   apply zx
   try simp only[go_sem]
   apply zq
   apply zd
   apply zq
   refine zb fun K hK=>?_;simp only[go_sem];apply hK;refine zw (zfP 6 6 [i64 (i:Int)] (by omega) rfl rfl) ?_;apply zw (zk [0,3,5,6,13,14]);simp only[go_sem]
   apply zq
   refine zb fun K hK=>?_;simp only[go_sem]
   refine zh (hth (i:Int)) rfl (by simp only[go_sem,i64,ints]) (by simp only[go_sem,i64,ints]) ?_
   (try simp only[go_sem]);apply hK;apply zw (zk [0,3,5,6,13,14,19]);simp only[go_sem]
   have hB:∀ b∈bs,bedOk b=true:=fun b h=>(hb b h).1
   have hmem:=fun x (hx:x∈throwsO g (i:Int) bs)=>throws_mem hB hx
   have htl:=throws_len bs g (i:Int)
   have hsn:=sumT_snoc before
   have hle:=sumT_le hM (by omega)
   have hset:=rowS_set g bs before i
   have hat:=rowS_at g bs before i hin
   have hLl:=rowS_len g bs before i
   rw[← hset]
   have hit:=throws1_ok bs g cs (i:Int) (by omega) (fun b h=>(hb b h).2)
   generalize hT:throwsO g (i:Int) bs=T at *
   generalize hL:rowS g bs before i=L at *
   apply zd
   refine awp_rangeF hC (T.map thrR) hit [0,3,5,6,13,14,19] (by decide) (fun vs=>[(0,.r (brdP bs g cs)),(3,.r (.rp [ints before])),(5,.pt 5 (vs 5) 0),(6,.r (.rp [i64 (i:Int)])),(13,.r (i64 (before.length:Int))),(14,.r (i64 (i:Int))),(19,.r (.fn 105 [.rp [brdP bs g cs],.rp [i64 (i:Int)]]))])
    (fun j vs=>[(5,.box [.os 11 (vs 11) 1 0 before.length]),(11,.arr 3 1 (arrN (L.set i (sumT before (T.take j)))))]) (fun _=>True) (zj [] ?_ ?_) trivial (fun _=>rfl) (fun _=>rfl) (fun _ _=>rfl) (by simp) (fun e he=>by obtain⟨x,_,rfl⟩:=List.mem_map.1 he;rfl) ?_ ?_
   ·try simp only[go_sem]
    try rfl
   ·try simp only[go_sem]
    have e0:L.set i (sumT before [])=L:=hat
    try simp only[List.take_zero,e0]
   ·intro j e vs us C' he _
    rw[List.getElem?_map] at he
    obtain⟨x,hx,rfl⟩:=Option.map_eq_some_iff.1 he
    obtain⟨m1,m2,m3,m4⟩:=hmem x (zmo hx)
    have hj:=(List.getElem?_eq_some_iff.1 hx).1
    refine zb fun K hK=>?_;simp only[go_sem];apply hK
    refine⟨rfl,fun C'=>?_⟩
    apply zw (zk [0,3,5,6,8,13,14,19]);simp only[go_sem];rw[zto hx,hsn]
    have hv:=hle (T.take j)
    have htk:(T.take j).length≤T.length:=by rw[List.length_take];omega
    obtain⟨y,hy⟩:=zol (l:=before) (i:=x.2.toNat) (by omega)
    have hyM:=hM y (zmo hy)
    have hgy:before.getD x.2.toNat 0=y:=by rw[List.getD_eq_getElem?_getD,hy];rfl
    rw[hgy]
    generalize sumT before (T.take j)=v at *
    have hvM:v≤82000000000000:=by
     have h1:(1000000000000:Int)*((T.take j).length:Int)≤1000000000000*82:=Int.mul_le_mul_of_nonneg_left (by omega) (by omega)
     omega
    have w1:IntKind.i64.wrap (v+y)=v+y:=by rw[zI]<;>omega
    have hiL:i<(L.set i v).length:=by rw[List.length_set];omega
    have hgL:(L.set i v)[i]? = some v:=by rw[List.getElem?_set,if_pos rfl,if_pos (by omega)]
    have hss:(L.set i v).set i (v+y)=L.set i (v+y):=by simp
    obtain⟨X,hX⟩:∃ X,X=L.set i v:=⟨_,rfl⟩
    have hXl:X.length=before.length:=by rw[hX,List.length_set];exact hLl
    rw[← hX] at hgL hss ⊢
    rw[← hss]
    have hx2:x.2=((x.2.toNat:Nat):Int):=by omega
    have hx3:x.2.toNat<before.length:=by omega
    rw[hx2]
    generalize x.2.toNat=q at *
    apply zd
    refine awp_dreg3 [(5,some 5),(3,none),(6,none),(8,none)] [5] follows (by decide +kernel) (by kernel_rfl) (by simp only[keysOk,List.mem_cons,List.not_mem_nil,forall_eq_or_imp,Oc.keyOf,go_sem];simp) (by intro k hk;simp only[List.mem_cons,List.not_mem_nil,or_false] at hk;first|(subst hk;exact⟨_,rfl⟩)|(rcases hk with rfl|rfl<;>exact⟨_,rfl⟩)|(rcases hk with rfl|rfl|rfl<;>exact⟨_,rfl⟩)) fun K hK=>?_
    simp only[go_sem,hy,hx3,hgL,hXl,hin,w1,List.length_map];apply hK
    try simp only[go_sem]
    have hms:(arrN X).set i [RV.it IntKind.i64 (v+y)]=arrN (X.set i (v+y)):=by simp only[arrN,List.map_set]
    rw[hms]
    refine zj (F:=fun _=>[]) [] ?_ ?_
    ·try simp only[go_sem]
    ·try simp only[go_sem]
   ·intro vs us _
    have hTl:(T.map thrR).length=T.length:=List.length_map _
    try simp only[go_sem]
    refine zw (sub_wake rfl) ?_
    try simp only[List.length_map,List.take_length]
    refine zb fun K hK=>?_;simp only[go_sem];(try simp (disch:=omega) only[zI]);apply hK
    try simp only[go_sem]
    refine⟨by omega,zj [] ?_ ?_⟩
    ·try simp only[go_sem]
    ·try simp only[go_sem]
  ·have hie:i=before.length:=by omega
   subst hie
   rw[rowS_end]
   apply zq
   refine zb fun K hK=>?_;simp only[go_sem,Nat.lt_irrefl];apply hK;apply zw (zk [5,15]);simp only[go_sem]
   apply zq
   apply zc rfl<;>intro hc<;>(try simp only[go_sem] at hc)
   apply zf;simp only[go_sem]
   apply zq
   refine zb fun K hK=>?_;simp only[go_sem];apply hK;apply zw (zk [4]);simp only[go_sem];apply ze;simp only[go_sem];exact⟨11,vs 11,rfl,rfl⟩
abbrev mkL (bs:List Int) (g:Int) (cs:List (List Int)):List (Nat × RowC):=[(1000,.box [.os 1001 0 1 0 bs.length,.r (i64 g),.os 1002 0 1 0 cs.length]),(1001,.arr 158 1 (arrN bs)),(1002,.arr 26 1 (cs.map fun r=>[ints r]))]
theorem last1_ok (bs:List Int) (g:Int) (cs:List (List Int)) (l:List Int) (hl:cs[cs.length-1]? = some l) (h1:1≤cs.length∧cs.length≤100) :
 MCalls Tryz.prog 86 (mkL bs g cs) (mkL bs g cs) [.pt 1000 0 0] (.r (ints l)):=by
 have w1:IntKind.i64.wrap ((cs.length:Int)-1)=(cs.length:Int)-1:=by rw[zI]<;>omega
 have hx:cs[((cs.length:Int)-1).toNat]? = some l:=by rw[show ((cs.length:Int)-1).toNat=cs.length-1 by omega];exact hl
 refine mcalls_st (n:=15) (rs:=[.r (ints l)]) _ _ [.tmp 2] Tryz.func86 rfl (by kernel_rfl) Tryz.ntmps86 rfl (by simp) rfl rfl fun C=>?_
 apply zq
 refine zb fun K hK=>?_;simp only[go_sem];apply hK;apply zw (zk [0]);simp only[go_sem]
 apply zq
 refine awp_dreg3 [(0,some 1000)] [1000] follows (by decide +kernel) (by kernel_rfl) (by simp only[keysOk,List.mem_cons,List.not_mem_nil,forall_eq_or_imp,Oc.keyOf,go_sem];simp) (by intro k hk;simp only[List.mem_cons,List.not_mem_nil,or_false] at hk;first|(subst hk;exact⟨_,rfl⟩)|(rcases hk with rfl|rfl<;>exact⟨_,rfl⟩)|(rcases hk with rfl|rfl|rfl<;>exact⟨_,rfl⟩)) fun K hK=>?_
 simp only[go_sem,w1,hx,List.length_map];repeat first|intro _|refine⟨by omega,?_⟩
 apply hK;apply zw (zk [2]);simp only[go_sem];apply ze;simp only[go_sem]
def wonO (m:Nat):List Int:=1::List.replicate m 0
def rowN (g:Int) (bs:List Int) (m:Nat):Nat→List Int
 | 0=>wonO m
 | k+1=>rowO g bs (rowN g bs m k)
def cntO (g:Int) (bs:List Int) (m k:Nat):List (List Int):=(List.range (k+1)).map (rowN g bs m)
theorem rowN_len (g:Int) (bs:List Int) (m:Nat):∀ k,(rowN g bs m k).length=m+1
 | 0=>by simp [rowN,wonO]
 | k+1=>by simp [rowN,rowO,rowN_len g bs m k]
theorem cnt_len (g:Int) (bs:List Int) (m k:Nat):(cntO g bs m k).length=k+1:=by simp [cntO]
theorem cnt_snoc (g:Int) (bs:List Int) (m k:Nat):cntO g bs m (k+1)=cntO g bs m k++[rowN g bs m (k+1)]:=by
 unfold cntO
 rw[List.range_succ,List.map_append];rfl
theorem cnt_last (g:Int) (bs:List Int) (m k:Nat):(cntO g bs m k)[(cntO g bs m k).length-1]? = some (rowN g bs m k):=by
 rw[cnt_len]
 simp [cntO]
theorem rowN_le (g:Int) (bs:List Int) (hl:bs.length≤82) (m:Nat):∀ k,∀ x∈rowN g bs m k,0≤x∧x≤(82 ^ k:Nat)
 | 0, x, hx=>by
   unfold rowN wonO at hx
   rw[List.mem_cons] at hx
   rcases hx with rfl|hx
   ·simp
   ·rw[List.eq_of_mem_replicate hx];simp
 | k+1, x, hx=>by
   unfold rowN rowO at hx
   obtain⟨s,_,rfl⟩:=List.mem_map.1 hx
   have h:=sumT_le (M:=((82 ^ k:Nat):Int)) (rowN_le g bs hl m k) (Int.natCast_nonneg _) (throwsO g s bs)
   have hlen:=throws_len bs g s
   rw[Nat.pow_succ]
   generalize 82 ^ k=P at *
   have h2:(P:Int)*((throwsO g s bs).length:Int)≤(P:Int)*82:=Int.mul_le_mul_of_nonneg_left (by omega) (by omega)
   refine⟨h.1,?_⟩
   push_cast
   omega
theorem rowN_le6 (g:Int) (bs:List Int) (hl:bs.length≤82) (m:Nat) {k:Nat}(hk:k≤6):∀ x∈rowN g bs m k,0≤x∧x≤1000000000000:=fun x hx=>by
 have h:=rowN_le g bs hl m k x hx
 have h2:82 ^ k≤82 ^ 6:=Nat.pow_le_pow_right (by omega) hk
 have h3:(82:Nat) ^ 6=304006671424:=by decide
 omega
def vY (b:Nat→Bool) (j:Nat) (v:AV):AV:=if b j then v else .r .un
def mkF (dn k:Nat) (la nw:List Int) (b:Nat→Bool) (vs:Nat→Nat):List (Nat × AV) :=
 [(9,.pt 15 (vs 15) 0),(49,.r (i64 (dn:Int))),(50,.r (i64 (k:Int))),
  (52,vY b 0 (.pt 15 (vs 15) 0)),
  (53,vY b 1 (.pt 15 (vs 15) 0)),
  (54,vY b 2 (.pt 15 (vs 15) 0)),
  (55,vY b 3 (.pt 15 (vs 15) 2)),
  (56,vY b 4 (bif b 10 then .r .un else .os 316 (vs 316) 1 0 (k+1))),
  (57,vY b 5 (.pt 15 (vs 15) 0)),
  (58,vY b 6 (.pt 15 (vs 15) 0)),
  (59,vY b 7 (.r (ints la))),
  (60,vY b 8 (.r (ints nw))),
  (61,vY b 9 (.r (.sl 1 [[ints nw]]))),
  (62,vY b 10 (.os 316 (vs 316) 1 0 (k+1+1))),
  (63,vY b 11 (.pt 15 (vs 15) 0)),
  (64,vY b 12 (.pt 15 (vs 15) 2))]
def mkR (bs:List Int) (g:Int) (k:Nat) (cs:List (List Int)) (nw:List Int) (b:Nat→Bool) (vs:Nat→Nat):List (Nat × RowC) :=
 [(15,.box [.os 315 (vs 315) 1 0 bs.length,.r (i64 g),bif b 13 then .os 316 (vs 316) 1 0 (k+1+1) else (bif b 10 then .os 316 (vs 316-1) 1 0 (k+1) else .os 316 (vs 316) 1 0 (k+1))]),(315,.arr 158 1 (arrN bs)),(316,.arr 26 1 (bif b 10 then (cs.map fun r=>[ints r])++[[ints nw]] else cs.map fun r=>[ints r]))]
attribute [go_sem] mkF mkR vY
theorem fitV_subY {n:Nat}{F:(Nat→Nat)→List (Nat × AV)}{R:(Nat→Nat)→List (Nat × RowC)}{s s':AS}(h:Sub s s') (hf:FitV n F R s'):FitV n F R s:=by
 obtain⟨vs,hs⟩:=hf
 exact⟨vs,fun C a w hw=>hs C a w (h C a w hw)⟩
theorem board_ok (bs:List Int) (g:Int) (dn m:Nat) (hb:∀ b∈bs,bedOk b=true∧0≤b∧b≤499) (hbl:bs.length≤82) (hd:dn≤6) (hm:m≤1000) :
 ACalls Tryz.prog 54 [ints bs,i64 g,i64 (dn:Int),i64 (m:Int)] (brdP bs g (cntO g bs m dn)):=by
 have wm:IntKind.i64.wrap ((m:Int)+1)=(m:Int)+1:=by rw[zI]<;>omega
 refine zas (rs:=[brdP bs g (cntO g bs m dn)]) [.tmp 8] Tryz.func54 rfl (by kernel_rfl) Tryz.ntmps54 rfl (by simp) rfl fun C vs=>?_
 apply zq
 refine zb fun K hK=>?_;simp only[go_sem];apply hK;apply zw (zk [0,1,2,3]);simp only[go_sem]
 apply zq
 refine zb fun K hK=>?_;simp only[go_sem];apply hK;refine zw (sub_ownB 15 0 315 158 1 (by omega) (by omega) rfl (by simp only[go_sem,List.getElem?_cons_succ,List.getElem?_cons_zero])) ?_;refine zw (sub_ownB 15 2 316 26 1 (by omega) (by omega) rfl (by simp only[go_sem,List.getElem?_cons_succ,List.getElem?_cons_zero,List.set_cons_zero])) ?_;apply zw (zk [0,2,3,9]);simp only[go_sem]
 repeat apply zq
 refine zb fun K hK=>?_;simp only[go_sem,List.length_map]
 intro _
 apply hK;apply zw (zk [2,3,9,16,17,18]);simp only[go_sem];apply zd
 refine zuv (n:=67) bs.length (fun i vs=>[(2,.r (i64 (dn:Int))),(3,.r (i64 (m:Int))),(9,.pt 15 (vs 15) 0),(16,.r (ints bs)),(17,.r (i64 (bs.length:Int))),(18,.r (i64 (i:Int)))])
  (fun i vs=>[(15,.box [.os 315 (vs 315) 1 0 i,.r (i64 g),.os 316 (vs 316) 1 0 0]),(315,.arr 158 1 (arrN (bs.take i))),(316,.arr 26 1 [])]) (fun _=>True) 0 (zj [] ?_ ?_) (Nat.zero_le _) trivial ?_
 ·try simp only[go_sem]
  try rfl
 ·try simp only[go_sem]
  try rfl
 ·intro i vs hi _
  by_cases hin:i<bs.length
  ·obtain⟨x,hx⟩:=zol hin
   have hlt:(bs.take i).length=i:=by rw[List.length_take];omega
   rw[zto hx]
   apply zq
   refine zb fun K hK=>?_;simp only[go_sem,hin];apply hK;apply zw (zk [2,3,9,16,17,18,19]);simp only[go_sem]
   apply zq
   apply zc rfl<;>intro hc<;>(try simp only[go_sem] at hc)
   apply zx
   try simp only[go_sem]
   apply zq
   apply zd
   apply zq
   refine zb fun K hK=>?_;simp only[go_sem,hx,hin,List.length_map];apply hK;apply zw (zk [2,3,9,11,16,17,18]);simp only[go_sem];refine zb fun K hK=>?_;simp only[go_sem,hlt,List.length_map]
   refine⟨by omega,?_⟩
   apply hK;apply zw (zk [2,3,9,16,17,18]);simp only[go_sem];refine zb fun K hK=>?_;simp only[go_sem];(try simp (disch:=omega) only[zI]);apply hK
   try simp only[go_sem]
   refine⟨by omega,zj [] ?_ ?_⟩
   ·try simp only[go_sem]
   ·try simp only[go_sem]
    try simp
  ·have hie:i=bs.length:=by omega
   subst hie
   apply zq
   refine zb fun K hK=>?_;simp only[go_sem,Nat.lt_irrefl];apply hK;apply zw (zk [2,3,9,19]);simp only[go_sem]
   apply zq
   apply zc rfl<;>intro hc<;>(try simp only[go_sem] at hc)
   apply zf;simp only[go_sem];rw[List.take_length]
   apply zq
   refine zb fun K hK=>?_;simp only[go_sem,wm]
   refine⟨by omega,?_⟩
   apply hK;apply zw (zk [2,9,12]);simp only[go_sem]
   apply zq
   refine zb fun K hK=>?_;simp only[go_sem,List.length_replicate]
   repeat refine⟨by omega,?_⟩
   apply hK
   have hwon:[RV.it IntKind.i64 1]::List.replicate m [RV.it IntKind.i64 0]=arrN (wonO m):=by simp [wonO]
   refine zw (sub_frz (ty:=3) (sz:=1) (off:=0) (m:=m+1) (es:=arrN (wonO m)) 12 36 (by omega) rfl (by simp only[go_sem];rw[hwon]) (by simp [wonO])) ?_
   have tk1:List.take (m+1) (arrN (wonO m))=arrN (wonO m):=List.take_of_length_le (by simp [wonO])
   simp only[go_sem,List.drop_zero,tk1];apply zw (zk [2,9,12]);simp only[go_sem]
   apply zq
   refine zb fun K hK=>?_;simp only[go_sem];apply hK;apply zw (zk [2,9]);simp only[go_sem]
   repeat apply zq
   refine zb fun K hK=>?_;simp only[go_sem];apply hK;apply zw (zk [9,49,50]);simp only[go_sem];apply zd
   refine zuv (n:=67) dn (fun k vs=>[(9,.pt 15 (vs 15) 0),(49,.r (i64 (dn:Int))),(50,.r (i64 (k:Int)))])
    (fun k vs=>[(15,.box [.os 315 (vs 315) 1 0 bs.length,.r (i64 g),.os 316 (vs 316) 1 0 (k+1)]),(315,.arr 158 1 (arrN bs)),(316,.arr 26 1 ((cntO g bs m k).map fun r=>[ints r]))]) (fun _=>True) 0 (zj [] ?_ ?_) (Nat.zero_le _) trivial ?_
   ·try simp only[go_sem]
    try rfl
   ·try simp only[go_sem]
    try rfl
   ·intro k vs hk _
    by_cases hkn:k<dn
    ·have hcl:=cnt_len g bs m k
     have hcla:=cnt_last g bs m k
     have hll:=rowN_len g bs m k
     have hnl:(rowN g bs m (k+1)).length=m+1:=rowN_len g bs m (k+1)
     have hla:=last1_ok bs g (cntO g bs m k) (rowN g bs m k) hcla (by omega)
     have hro:=row_ok bs g (cntO g bs m k) (rowN g bs m k) hb (by omega) hbl (rowN_le6 g bs hbl m (by omega))
     have hnx:rowO g bs (rowN g bs m k)=rowN g bs m (k+1):=rfl
     rw[hnx] at hro
     rw[cnt_snoc]
     generalize hcs:cntO g bs m k=cs at *
     generalize rowN g bs m k=la at *
     generalize rowN g bs m (k+1)=nw at *
     simp only[mkL,hcl] at hla
     have htc:List.take (k+1) (cs.map fun r=>[ints r])=cs.map fun r=>[ints r]:=List.take_of_length_le (by simp [hcl])
     have htk:List.take (m+1) (arrN nw)=arrN nw:=List.take_of_length_le (by simp [hnl])
     apply zq
     refine zb fun K hK=>?_;simp only[go_sem,hkn];apply hK;apply zw (zk [9,49,50,51]);simp only[go_sem]
     apply zq
     apply zc rfl<;>intro hc<;>(try simp only[go_sem] at hc)
     apply zx
     try simp only[go_sem]
     apply zq
     apply zd
     have E:=And.intro hcl (And.intro hnl (And.intro hll htc))
     refine awp_inv (n:=67) (mkF dn k la nw) (mkR bs g k cs nw) follows (by kernel_rfl) (by kernel_rfl) (by decide +kernel) (zj [] ?_ ?_) ?_ ?_
     ·simp only[go_sem,if_true,if_false,Bool.false_eq_true]
     ·simp only[go_sem,List.cons_append,List.nil_append]
     ·refine⟨fun b vs hdn hbk hde=>?_,fun b vs hdn hbk hde=>?_,fun b vs hdn hbk hde=>?_,fun b vs hdn hbk hde=>?_,fun b vs hdn hbk hde=>?_,fun b vs hdn hbk hde=>?_,fun b vs hdn hbk hde=>?_,fun b vs hdn hbk hde=>?_,fun b vs hdn hbk hde=>?_,fun b vs hdn hbk hde=>?_,fun b vs hdn hbk hde=>?_,fun b vs hdn hbk hde=>?_,fun b vs hdn hbk hde=>?_,fun b vs hdn hbk hde=>?_,trivial⟩
      ·skip
       have G:=dnT hdn hbk [11,12,13] (by decide +kernel)
       simp only[allB,and_true] at G
       cases g4:b 4<;>cases g8:b 8<;>cases g10:b 10
       all_goals (simp only[go_sem,upd,if_true,Bool.false_eq_true,if_false,hbk,G,g4,g8,g10,E,List.length_map,Nat.add_sub_cancel,List.length_append,List.length_nil,Nat.zero_add])
       all_goals (refine zj [] ?_ ?_<;>(simp only[go_sem,upd,if_true,Bool.false_eq_true,if_false,hbk,G,g4,g8,g10,E,List.length_map,Nat.add_sub_cancel,List.length_append,List.length_nil,Nat.zero_add]))
      ·skip
       have G:=dnT hdn hbk [2,11,12,13,3,4,10] (by decide +kernel)
       simp only[allB,and_true] at G
       cases g8:b 8
       all_goals (simp only[go_sem,upd,if_true,Bool.false_eq_true,if_false,hbk,G,g8,E,List.length_map,Nat.add_sub_cancel,List.length_append,List.length_nil,Nat.zero_add])
       all_goals (refine zj [] ?_ ?_<;>(simp only[go_sem,upd,if_true,Bool.false_eq_true,if_false,hbk,G,g8,E,List.length_map,Nat.add_sub_cancel,List.length_append,List.length_nil,Nat.zero_add]))
      ·skip
       have H:=upT hdn hde [1] (by decide +kernel)
       have G:=dnT hdn hbk [3,11,12,13,4,10] (by decide +kernel)
       simp only[allB,and_true] at H G
       cases g8:b 8
       all_goals (simp only[go_sem,upd,if_true,Bool.false_eq_true,if_false,hbk,H,G,g8,E,List.length_map,Nat.add_sub_cancel,List.length_append,List.length_nil,Nat.zero_add])
       all_goals (refine zj [] ?_ ?_<;>(simp only[go_sem,upd,if_true,Bool.false_eq_true,if_false,hbk,H,G,g8,E,List.length_map,Nat.add_sub_cancel,List.length_append,List.length_nil,Nat.zero_add]))
      ·skip
       have H:=upT hdn hde [2,1] (by decide +kernel)
       have G:=dnT hdn hbk [4,11,12,13,10] (by decide +kernel)
       simp only[allB,and_true] at H G
       cases g8:b 8
       all_goals (simp only[go_sem,upd,if_true,Bool.false_eq_true,if_false,hbk,H,G,g8,E,List.length_map,Nat.add_sub_cancel,List.length_append,List.length_nil,Nat.zero_add])
       all_goals (refine zj [] ?_ ?_<;>(simp only[go_sem,upd,if_true,Bool.false_eq_true,if_false,hbk,H,G,g8,E,List.length_map,Nat.add_sub_cancel,List.length_append,List.length_nil,Nat.zero_add]))
      ·skip
       have H:=upT hdn hde [3,2,1] (by decide +kernel)
       have G:=dnT hdn hbk [10,11,12,13] (by decide +kernel)
       simp only[allB,and_true] at H G
       cases g8:b 8
       all_goals (simp only[go_sem,upd,if_true,Bool.false_eq_true,if_false,hbk,H,G,g8,E,List.length_map,Nat.add_sub_cancel,List.length_append,List.length_nil,Nat.zero_add])
       all_goals (refine zj [] ?_ ?_<;>(simp only[go_sem,upd,if_true,Bool.false_eq_true,if_false,hbk,H,G,g8,E,List.length_map,Nat.add_sub_cancel,List.length_append,List.length_nil,Nat.zero_add]))
      ·skip
       have G:=dnT hdn hbk [8,11,12,13,9,10] (by decide +kernel)
       simp only[allB,and_true] at G
       cases g4:b 4
       all_goals (simp only[go_sem,upd,if_true,Bool.false_eq_true,if_false,hbk,G,g4,E,List.length_map,Nat.add_sub_cancel,List.length_append,List.length_nil,Nat.zero_add])
       all_goals (refine zj [] ?_ ?_<;>(simp only[go_sem,upd,if_true,Bool.false_eq_true,if_false,hbk,G,g4,E,List.length_map,Nat.add_sub_cancel,List.length_append,List.length_nil,Nat.zero_add]))
      ·skip
       have G:=dnT hdn hbk [7,11,12,13,8,9,10] (by decide +kernel)
       simp only[allB,and_true] at G
       cases g4:b 4
       all_goals (simp only[go_sem,upd,if_true,Bool.false_eq_true,if_false,hbk,G,g4,E,List.length_map,Nat.add_sub_cancel,List.length_append,List.length_nil,Nat.zero_add])
       all_goals (refine zj [] ?_ ?_<;>(simp only[go_sem,upd,if_true,Bool.false_eq_true,if_false,hbk,G,g4,E,List.length_map,Nat.add_sub_cancel,List.length_append,List.length_nil,Nat.zero_add]))
      ·skip
       have H:=upT hdn hde [6] (by decide +kernel)
       have G:=dnT hdn hbk [8,11,12,13,9,10] (by decide +kernel)
       simp only[allB,and_true] at H G
       cases g4:b 4
       all_goals (simp only[go_sem,upd,if_true,Bool.false_eq_true,if_false,hbk,H,G,g4,E,List.length_map,Nat.add_sub_cancel,List.length_append,List.length_nil,Nat.zero_add])
       all_goals (refine xcall_mut hla [(1000,15),(1001,315),(1002,316)] rfl (by simp only[go_sem,i64,ints]) (by simp only[go_sem,i64,ints,hcl,List.length_map];try simp) (by rfl) (by rfl) ?_)
       all_goals (simp only[go_sem,if_true,Bool.false_eq_true,if_false,hbk,H,G,E,List.length_map,Nat.add_sub_cancel,List.length_append,List.length_nil,Nat.zero_add])
       all_goals (refine zj [] ?_ ?_<;>(simp only[go_sem,upd,if_true,Bool.false_eq_true,if_false,hbk,H,G,g4,E,List.length_map,Nat.add_sub_cancel,List.length_append,List.length_nil,Nat.zero_add]))
      ·skip
       have H:=upT hdn hde [5,7,7,6] (by decide +kernel)
       have G:=dnT hdn hbk [9,10,11,12,13] (by decide +kernel)
       simp only[allB,and_true] at H G
       cases g4:b 4
       all_goals (simp only[go_sem,upd,if_true,Bool.false_eq_true,if_false,hbk,H,G,g4,E,List.length_map,Nat.add_sub_cancel,List.length_append,List.length_nil,Nat.zero_add])
       all_goals (refine xcall_own hro rfl (by simp only[go_sem,i64,ints,E,List.length_map,Nat.add_sub_cancel,List.length_append,List.length_nil,Nat.zero_add]) (by simp only[go_sem,i64,ints,brdP,brdC,tabR,E,List.length_map,Nat.add_sub_cancel,List.length_append,List.length_nil,Nat.zero_add]) (by decide) (by intro h;first|(cases h;done)|rfl) ?_)
       all_goals simp only[go_sem,if_true,Bool.false_eq_true,if_false,hbk,H,G,E,List.length_map,Nat.add_sub_cancel,List.length_append,List.length_nil,Nat.zero_add]
       all_goals refine fitV_subY (sub_frz (ty:=3) (sz:=1) (off:=0) (m:=m+1) (es:=arrN nw) 60 60 (by omega) rfl (by rfl) (by simp [hnl,hll])) ?_
       all_goals simp only[go_sem,List.drop_zero,htk]
       all_goals (refine zj [] ?_ ?_<;>(simp only[go_sem,upd,if_true,Bool.false_eq_true,if_false,hbk,H,G,g4,E,List.length_map,Nat.add_sub_cancel,List.length_append,List.length_nil,Nat.zero_add]))
      ·skip
       have H:=upT hdn hde [8,5,7,6] (by decide +kernel)
       have G:=dnT hdn hbk [10,11,12,13] (by decide +kernel)
       simp only[allB,and_true] at H G
       cases g4:b 4
       all_goals (simp only[go_sem,upd,if_true,Bool.false_eq_true,if_false,hbk,H,G,g4,E,List.length_map,Nat.add_sub_cancel,List.length_append,List.length_nil,Nat.zero_add])
       all_goals (refine zj [] ?_ ?_<;>(simp only[go_sem,upd,if_true,Bool.false_eq_true,if_false,hbk,H,G,g4,E,List.length_map,Nat.add_sub_cancel,List.length_append,List.length_nil,Nat.zero_add]))
      ·skip
       have H:=upT hdn hde [4,8,9,3,5,7,2,6,1] (by decide +kernel)
       have G:=dnT hdn hbk [11,12,13] (by decide +kernel)
       simp only[allB,and_true] at H G
       (simp only[go_sem,upd,if_true,Bool.false_eq_true,if_false,hbk,H,G,E,List.length_map,Nat.add_sub_cancel,List.length_append,List.length_nil,Nat.zero_add])
       all_goals (try refine⟨⟨by omega,by omega⟩,?_⟩)
       all_goals refine fitV_subY (zk [9,49,50,52,53,54,55,57,58,59,60,61,62,63,64]) ?_
       all_goals simp only[go_sem]
       all_goals (refine zj [] ?_ ?_<;>(simp only[go_sem,upd,if_true,Bool.false_eq_true,if_false,hbk,H,G,E,List.length_map,Nat.add_sub_cancel,List.length_append,List.length_nil,Nat.zero_add]))
      ·skip
       have H:=upT hdn hde [0,0,1,2,3,4,5,6,7,8,9,10] (by decide +kernel)
       have G:=dnT hdn hbk [12,13] (by decide +kernel)
       simp only[allB,and_true] at H G
       (simp only[go_sem,upd,if_true,Bool.false_eq_true,if_false,hbk,H,G,E,List.length_map,Nat.add_sub_cancel,List.length_append,List.length_nil,Nat.zero_add])
       all_goals (refine zj [] ?_ ?_<;>(simp only[go_sem,upd,if_true,Bool.false_eq_true,if_false,hbk,H,G,E,List.length_map,Nat.add_sub_cancel,List.length_append,List.length_nil,Nat.zero_add]))
      ·skip
       have H:=upT hdn hde [0,1,2,3,4,5,6,7,8,9,10,11] (by decide +kernel)
       have G:=dnT hdn hbk [13] (by decide +kernel)
       simp only[allB,and_true] at H G
       (simp only[go_sem,upd,if_true,Bool.false_eq_true,if_false,hbk,H,G,E,List.length_map,Nat.add_sub_cancel,List.length_append,List.length_nil,Nat.zero_add])
       all_goals (refine zj [] ?_ ?_<;>(simp only[go_sem,upd,if_true,Bool.false_eq_true,if_false,hbk,H,G,E,List.length_map,Nat.add_sub_cancel,List.length_append,List.length_nil,Nat.zero_add]))
      ·skip
       have H:=upT hdn hde [0,1,2,3,4,5,6,7,8,9,10,10,10,12,11] (by decide +kernel)
       simp only[allB,and_true] at H
       (simp only[go_sem,upd,if_true,Bool.false_eq_true,if_false,hbk,H,E,List.length_map,Nat.add_sub_cancel,List.length_append,List.length_nil,Nat.zero_add])
       all_goals (refine zj [] ?_ ?_<;>(simp only[go_sem,upd,if_true,Bool.false_eq_true,if_false,hbk,H,E,List.length_map,Nat.add_sub_cancel,List.length_append,List.length_nil,Nat.zero_add]))
     intro b vs hb
     simp only[go_sem,hb,if_true,List.cons_append,List.nil_append];apply zw (zk [9,49,50]);simp only[go_sem];refine zb fun K hK=>?_;simp only[go_sem];(try simp (disch:=omega) only[zI]);apply hK
     try simp only[go_sem]
     refine⟨by omega,zj [] ?_ ?_⟩
     ·try simp only[go_sem]
     ·try simp only[go_sem]
      try simp
    ·have hke:k=dn:=by omega
     subst hke
     have hcl:=cnt_len g bs m k
     generalize hcs:cntO g bs m k=cs at *
     apply zq
     refine zb fun K hK=>?_;simp only[go_sem,Nat.lt_irrefl];apply hK;apply zw (zk [9,51]);simp only[go_sem]
     apply zq
     apply zc rfl<;>intro hc<;>(try simp only[go_sem] at hc)
     apply zf;simp only[go_sem];refine zw (sub_frzB 15 0 315 (ty:=158) (sz:=1) (off:=0) (m:=bs.length) (es:=arrN bs) (by omega) (by omega) rfl (by simp only[go_sem,List.getElem?_cons_succ,List.getElem?_cons_zero]) (by rfl) (by simp)) ?_
     have tk1:List.take bs.length (arrN bs)=arrN bs:=List.take_of_length_le (by simp)
     simp only[go_sem,List.drop_zero,tk1,List.set_cons_succ,List.set_cons_zero];refine zw (sub_frzB 15 2 316 (ty:=26) (sz:=1) (off:=0) (m:=k+1) (es:=cs.map fun r=>[ints r]) (by omega) (by omega) rfl (by simp only[go_sem,List.getElem?_cons_succ,List.getElem?_cons_zero]) (by rfl) (by simp [hcl])) ?_
     have tk2:List.take (k+1) (cs.map fun r=>[ints r])=cs.map fun r=>[ints r]:=List.take_of_length_le (by simp [hcl])
     simp only[go_sem,List.drop_zero,tk2,List.set_cons_succ,List.set_cons_zero];refine zw (zfP 9 15 (brdC bs g cs) (by omega) rfl rfl) ?_;apply zw (zk [9]);simp only[go_sem]
     apply zq
     refine zb fun K hK=>?_;simp only[go_sem];apply hK;apply zw (zk [8]);simp only[go_sem];apply ze;simp only[go_sem];exact rv_le _
def totO (cs:List (List Int)) (s:Nat):Int:=((cs.drop 1).map fun r=>r.getD s 0).sum
theorem total_ok (bs:List Int) (g:Int) (cs:List (List Int)) (s n:Nat) (h1:1≤cs.length∧cs.length≤10) (hr:∀ r∈cs,r.length=n∧∀ x∈r,0≤x∧x≤1000000000000) (hs:s<n) :
 ACalls Tryz.prog 27 [brdP bs g cs,i64 (s:Int)] (i64 (totO cs s)):=by
 obtain⟨ds,hds⟩:∃ ds,ds=cs.drop 1:=⟨_,rfl⟩
 have hdl:ds.length≤9:=by rw[hds,List.length_drop];omega
 have hdr:∀ r∈ds,r.length=n∧∀ x∈r,0≤x∧x≤1000000000000:=fun r hr'=>hr r (by rw[hds] at hr';exact List.mem_of_mem_drop hr')
 have hto:totO cs s=(ds.map fun r=>r.getD s 0).sum:=by rw[hds];rfl
 have hdm:List.drop 1 (cs.map fun r=>[ints r])=ds.map fun r=>[ints r]:=by rw[hds,List.map_drop]
 rw[hto]
 refine zas (rs:=[i64 ((ds.map fun r=>r.getD s 0).sum)]) [.tmp 4] Tryz.func27 rfl (by kernel_rfl) Tryz.ntmps27 rfl (by simp) rfl fun C vs=>?_
 apply zq
 refine zb fun K hK=>?_;simp only[go_sem];apply hK;apply zw (zk [0,1,4]);simp only[go_sem]
 repeat apply zq
 refine zb fun K hK=>?_;simp only[go_sem,hdm,List.length_map];repeat first|intro _|refine⟨by omega,?_⟩
 apply hK;apply zw (zk [1,4,11,12,13]);simp only[go_sem];apply zd
 refine zup (n:=25) ds.length (fun i vs=>[(1,.r (i64 (s:Int))),(4,.r (i64 (((ds.take i).map fun r=>r.getD s 0).sum))),(11,.r (tabR ds)),(12,.r (i64 (ds.length:Int))),(13,.r (i64 (i:Int)))])
  (fun i=>[]) (fun _=>True) 0 (zfo [] ?_ ?_) (Nat.zero_le _) trivial ?_
 ·try simp only[go_sem]
  try rfl
 ·try simp only[go_sem]
 ·intro i vs hi _
  by_cases hin:i<ds.length
  ·obtain⟨r,hri⟩:=zol hin
   obtain⟨r1,r2⟩:=hdr r (zmo hri)
   obtain⟨v,hv⟩:=zol (l:=r) (i:=s) (by omega)
   have hvM:=r2 v (zmo hv)
   have hsr:s<r.length:=by omega
   have hsum:∀ j,j≤ds.length→0≤((ds.take j).map fun r=>r.getD s 0).sum∧((ds.take j).map fun r=>r.getD s 0).sum≤1000000000000*j:=by
    intro j
    induction j with
    | zero=>intro _;simp
    | succ j ih =>
      intro hj
      obtain⟨q,hq⟩:=zol (l:=ds) (i:=j) (by omega)
      obtain⟨q1,q2⟩:=hdr q (zmo hq)
      obtain⟨y,hy⟩:=zol (l:=q) (i:=s) (by omega)
      have hyM:=q2 y (zmo hy)
      have:=ih (by omega)
      rw[zto hq,List.map_append,List.sum_append]
      simp only[List.map_cons,List.map_nil,List.sum_cons,List.sum_nil,List.getD_eq_getElem?_getD,hy,Option.getD_some] at *
      omega
   have hsi:=hsum i (by omega)
   rw[zto hri,List.map_append,List.sum_append]
   have hgv:([r].map fun r=>r.getD s 0).sum=v:=by simp [hv]
   rw[hgv]
   generalize ((ds.take i).map fun r=>r.getD s 0).sum=Z at *
   have wz:IntKind.i64.wrap (Z+v)=Z+v:=by rw[zI]<;>omega
   apply zq
   refine zb fun K hK=>?_;simp only[go_sem,hin];apply hK;apply zw (zk [1,4,11,12,13,14]);simp only[go_sem]
   apply zq
   apply zc rfl<;>intro hc<;>(try simp only[go_sem] at hc)
   apply zx
   try simp only[go_sem]
   apply zq
   apply zd
   apply zq
   refine zb fun K hK=>?_;simp only[go_sem,hri,hin,List.length_map];apply hK;apply zw (zk [1,4,6,11,12,13]);simp only[go_sem];refine zb fun K hK=>?_;simp only[go_sem,hv,hsr,wz,List.length_map];apply hK;apply zw (zk [1,4,11,12,13]);simp only[go_sem];refine zb fun K hK=>?_;simp only[go_sem];(try simp (disch:=omega) only[zI]);apply hK
   try simp only[go_sem]
   refine⟨by omega,zfo [] ?_ ?_⟩
   ·try simp only[go_sem]
   ·try simp only[go_sem]
  ·have hie:i=ds.length:=by omega
   subst hie
   rw[List.take_length]
   apply zq
   refine zb fun K hK=>?_;simp only[go_sem,Nat.lt_irrefl];apply hK;apply zw (zk [4,14]);simp only[go_sem]
   apply zq
   apply zc rfl<;>intro hc<;>(try simp only[go_sem] at hc)
   apply zf;simp only[go_sem]
   apply zq
   refine zb fun K hK=>?_;simp only[go_sem];apply hK;apply zw (zk [4]);simp only[go_sem];apply ze;simp only[go_sem]
abbrev finC (bs:List Int) (g k:Int) (dn s:Nat):List RV:=[brdP bs g (cntO g bs s dn),ints bs,i64 g,i64 k,i64 (s:Int)]
theorem newFinish_ok (bs:List Int) (g:Int) (dn s:Nat) (h:BdsO bs) (hg:0≤g∧g≤2) (hk:1≤dn∧dn≤6) (hs:1≤s∧s≤1000) :
 ACalls Tryz.prog 26 [ouR bs g (dn:Int),i64 (s:Int)] (.tu [.ag (finC bs g (dn:Int) dn s),i64 0]):=by
 have hch:=ocheck_ok bs g (dn:Int) h hg (by omega)
 have w1:withinL 1 1001 [(s:Int)]=true:=by simp [withinL];omega
 have c1:=owithin_ok 1 1001 [(s:Int)]
 rw[w1] at c1
 have hbd:=board_ok bs g dn s (fun b hb=>h.bed b hb) h.len (by omega) (by omega)
 have z0:((0:Int) != 0)=false:=rfl
 refine zas (rs:=[.ag (finC bs g (dn:Int) dn s),i64 0]) [.cell 4 102,.tmp 5] Tryz.func26 rfl (by kernel_rfl) Tryz.ntmps26 rfl (by simp) rfl fun C vs=>?_
 apply zq
 refine zb fun K hK=>?_;simp only[go_sem];apply hK;refine zw (zfP 2 2 [ints bs,i64 g,i64 (dn:Int)] (by omega) rfl rfl) ?_;apply zw (zk [1,2,4]);simp only[go_sem]
 apply zq
 apply zd
 apply zq
 refine zb fun K hK=>?_;simp only[go_sem]
 refine zh (hch) rfl (by simp only[go_sem,i64,ints,z0]) (by simp only[go_sem,i64,ints,z0]) ?_
 (try simp only[go_sem,z0]);apply hK;apply zw (zk [1,2,4,6]);simp only[go_sem]
 apply zc rfl<;>intro hc<;>(try simp only[go_sem] at hc)
 apply zq
 refine zb fun K hK=>?_;simp only[go_sem]
 refine zh (c1) rfl (by simp only[go_sem,i64,ints]) (by simp only[go_sem,i64,ints]) ?_
 (try simp only[go_sem]);apply hK;apply zw (zk [1,2,4,11]);simp only[go_sem]
 apply zc rfl<;>intro hc<;>(try simp only[go_sem] at hc)
 apply zx
 try simp only[go_sem]
 apply zq
 refine awp_dreg2 [(2,none),(4,some 4)] follows (by decide +kernel) (by kernel_rfl) (by simp only[keysOk,List.mem_cons,List.not_mem_nil,forall_eq_or_imp,Oc.keyOf,go_sem];simp) fun K hK=>?_
 simp only[go_sem]
 refine zh (hbd) rfl (by simp only[go_sem,i64,ints]) (by simp only[go_sem,i64,ints]) ?_
 (try simp only[go_sem]);apply hK;apply zw (zk [4,5]);simp only[go_sem];apply ze;simp only[go_sem]
 try exact rv_le _
def sixO:List Int:=[120,125,205,220,225,320]
theorem sixO_ok:BdsO sixO:=⟨by decide,by decide,by decide,by decide⟩
def waysO (g:Int) (bs:List Int) (m:Nat):Nat→Int→List Int→List (List Int)
 | 0,_,first=>[first]
 | k+1,s,first=>(throwsO g s bs).flatMap fun x=>if 0<(rowN g bs m k).getD x.2.toNat 0 then waysO g bs m k x.2 (first++[x.1]) else []
def partO (g:Int) (bs:List Int) (m s k:Nat):List (List Int):=if 0<(rowN g bs m (k+1)).getD s 0 then waysO g bs m (k+1) s [] else []
def allO (g:Int) (bs:List Int) (m s dn:Nat):List (List Int):=(List.range dn).flatMap (partO g bs m s)
theorem flat_le {α β:Type}{f:α→List β}{n:Nat}:∀ (l:List α),(∀ x∈l,(f x).length≤n)→(l.flatMap f).length≤l.length*n
 | [],_=>by simp
 | x::l, h=>by
   have h1:=h x (by simp)
   have h2:=flat_le l fun y hy=>h y (by simp [hy])
   rw[List.flatMap_cons,List.length_append,List.length_cons,Nat.succ_mul]
   omega
theorem ways_len (g:Int) (bs:List Int) (m:Nat):∀ k s first,(waysO g bs m k s first).length≤bs.length ^ k
 | 0,_,_=>by simp [waysO]
 | k+1, s, first=>by
   unfold waysO
   refine Nat.le_trans (flat_le (n:=bs.length ^ k) _ fun x _=>?_) ?_
   ·split
    ·exact ways_len g bs m k _ _
    ·simp
   ·rw[Nat.pow_succ,Nat.mul_comm (bs.length ^ k)]
    exact Nat.mul_le_mul_right _ (throws_len bs g s)
theorem all_len {g:Int}{bs:List Int}{m s:Nat}(h:bs.length≤82):∀ dn,dn≤3→(allO g bs m s dn).length≤2000000:=fun dn hdn=>by
 have h1:∀ k∈List.range dn,(partO g bs m s k).length≤82 ^ 3:=fun k hk=>by
  have hk:=List.mem_range.1 hk
  unfold partO
  split
  ·exact Nat.le_trans (ways_len g bs m _ _ _) (Nat.le_trans (Nat.pow_le_pow_left h _) (Nat.pow_le_pow_right (by omega) (by omega)))
  ·simp
 have:=flat_le _ h1
 rw[List.length_range] at this
 refine Nat.le_trans this (Nat.le_trans (Nat.mul_le_mul_right _ hdn) ?_)
 decide
end Go.Proofs.YtonpmcdkncbjoaaGreat.Du
