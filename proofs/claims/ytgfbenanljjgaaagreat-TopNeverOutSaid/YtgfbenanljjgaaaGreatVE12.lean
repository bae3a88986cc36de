/- Part 12 of the texts of this claim. -/
import Derived.Test.YtgfbenanljjgaaaGreatVE11
import Derived.Test.YtgfbenanljjgaaaGreatVE5
import Derived.Test.YtgfbenanljjgaaaGreatVE4
import Derived.Test.YtgfbenanljjgaaaGreatVE9
import Derived.Test.YtgfbenanljjgaaaGreatVE10
import Derived.Test.YtgfbenanljjgaaaGreatVE6
import Derived.Test.YtgfbenanljjgaaaGreatVE7
set_option linter.unusedSimpArgs false
set_option linter.unusedVariables false
namespace Go.Oc
open Go Go.RowKit
instance {c:Prop}[h:Decidable c] {v:AV}:Decidable (Res.when c v).pre:=h
instance {v:AV}:Decidable (Res.val v).pre:=.isTrue trivial
instance:Decidable Res.bad.pre:=.isFalse id
instance {c a:Prop}[h:Decidable c] {y:Yi}:Decidable (Res.mk c a y).pre:=h
def nilB {α:Type}(l:List α):Decidable (l=[]):=match l with
 | []=>.isTrue rfl
 | _::_=>.isFalse (by simp)
instance {α:Type}{l:List α}:Decidable (l=[]):=nilB l
def RowC.isDead:RowC→Bool
 | .dead=>true
 | _=>false
theorem zH7 {c:RowC}:c = .dead↔c.isDead=true:=by cases c<;>simp [RowC.isDead]
instance {c:RowC}:Decidable (c = .dead):=decidable_of_iff _ zH7.symm
def zMG {s:AS}{y:AV}{c:Prop}{sz:Nat}{es:List (List RV)}(h:zDH s y=some (c,sz,es)):Decidable c:=by
 unfold zDH at h
 split at h
 ·exact .isTrue (by injection h with h;injection h with h1 _;rw[← h1];trivial)
 ·exact .isTrue (by injection h with h;injection h with h1 _;rw[← h1];trivial)
 ·split at h
  ·rename_i k n sz off m _ n' t sz' es' _
   exact decidable_of_iff (n=n'∧sz=sz'∧off+m≤es'.length) (by injection h with h;injection h with h1 _;rw[← h1])
  ·cases h
 ·cases h
def zVJ {s:AS}{y:AV}{c:Prop}{m:Nat}(h:lenA s y=some (c,m)):Decidable c:=by
 unfold lenA at h
 split at h
 ·exact .isTrue (by injection h with h;injection h with h1 _;rw[← h1];trivial)
 ·exact .isTrue (by injection h with h;injection h with h1 _;rw[← h1];trivial)
 ·rename_i k n sz off m
  exact decidable_of_iff (n=s.ver k) (by injection h with h;injection h with h1 _;rw[← h1])
 ·cases h
section
variable {P:Program}{s:AS}
instance {c a b:AV}:Decidable (zIa c a b).pre:=by delta zIa;split<;>infer_instance
instance {op:BinOp}{t:TypeId}{x y:AV}:Decidable (sEq P op t x y).pre:=by delta sEq;split<;>(try split)<;>(try split)<;>infer_instance
instance {op:BinOp}{t:TypeId}{x y:AV}:Decidable (sBin P op t x y).pre:=by delta sBin;split<;>(try split)<;>infer_instance
instance {op:UnOp}{x:AV}:Decidable (sUn op x).pre:=by delta sUn;split<;>infer_instance
instance {a b:TypeId}{x:AV}:Decidable (zIc P a b x).pre:=by delta zIc;split<;>infer_instance
instance {t:TypeId}{a:AV}:Decidable (zCn P s t a).pre:=by delta zCn;split<;>(try split)<;>infer_instance
instance {t:TypeId}{a x:AV}:Decidable (zDB P s t a x).pre:=by delta zDB;split<;>(try split)<;>infer_instance
instance {d:Nat}{x:AV}:Decidable (sBox s d x).pre:=by delta sBox;split<;>infer_instance
instance {d:Nat}{t:TypeId}:Decidable (zCx P s d t).pre:=by delta zCx;split<;>infer_instance
instance {t:TypeId}{a:AV}{f:Nat}:Decidable (zCw P s t a f).pre:=by delta zCw;split<;>(try split)<;>(try split)<;>infer_instance
instance {cs:AV}{o sz:Nat}{agg:Bool}{c:Prop} [Decidable c]:Decidable (zGE cs o sz agg c).pre:=by delta zGE;split<;>infer_instance
instance {t:TypeId}{x:AV}{f:Nat}:Decidable (zDT P t x f).pre:=by delta zDT;split<;>(try split)<;>infer_instance
instance {t:TypeId}{x i:AV}:Decidable (zDS P t x i).pre:=by delta zDS;split<;>infer_instance
instance {t:TypeId}{x i:AV}:Decidable (zCv P s t x i).pre:=by delta zCv;split<;>(try split)<;>infer_instance
instance {x mx:AV}{lo hi:Option AV}:Decidable (zC6 s x lo hi mx).pre:=by
 delta zC6
 split
 ·have:=zVJ ‹lenA _ _=some (_,_)›
  infer_instance
 ·infer_instance
instance {n esz:Nat}{x:AV}{lo hi mx:Option AV}:Decidable (zDr n esz x lo hi mx).pre:=by delta zDr;split<;>infer_instance
instance {t:TypeId}{x:AV}{lo hi mx:Option AV}:Decidable (zDf P s t x lo hi mx).pre:=by delta zDf;split<;>(try split)<;>(try split)<;>infer_instance
instance {t:TypeId}{ps:List (Nat × AV)}:Decidable (zCc P s t ps).pre:=by delta zCc;split<;>(try split)<;>infer_instance
instance {t:TypeId}{n:Nat}{ps:List (Nat × AV)}:Decidable (zAK P s t n ps).pre:=by delta zAK;split<;>(try split)<;>(try split)<;>infer_instance
instance {d:Nat}{t:TypeId}{l c:AV}:Decidable (zAo P s d t l c).pre:=by delta zAo;split<;>infer_instance
instance {d:Nat}{t t':TypeId}{x y:AV}:Decidable (zBw P s d t t' x y).pre:=by
 delta zBw
 split
 ·rename_i h
  have:=zMG h
  infer_instance
 ·rename_i h
  have:=zMG h
  infer_instance
 ·rename_i h
  have:=zMG h
  split
  ·infer_instance
  ·split<;>infer_instance
  ·infer_instance
 ·infer_instance
instance {d:Nat}{t t':TypeId}{x y:AV}:Decidable (zCN P s d t t' x y).pre:=by delta zCN;split<;>infer_instance
instance {t:TypeId}{x:AV}:Decidable (sCap P t x).pre:=by delta sCap;split<;>infer_instance
instance {t:TypeId}{x:AV}:Decidable (zE0 P s t x).pre:=by delta zE0;split<;>(try split)<;>infer_instance
instance {t:TypeId}{x:AV}:Decidable (sLen P s t x).pre:=by delta sLen;split<;>(try split)<;>infer_instance
instance {r:Option RV}:Decidable (zBN r).pre:=by delta zBN;split<;>infer_instance
instance {x:AV}{i:Nat}:Decidable (zCM x i).pre:=by delta zCM;split<;>(try split)<;>infer_instance
instance {x:AV}:Decidable (sNil s x).pre:=by delta sNil;split<;>infer_instance
instance {d:Nat}{t:TypeId}:Decidable (zBo P s d t).pre:=by delta zBo;split<;>infer_instance
instance {t:TypeId}{x key:AV}{ok:Bool}:Decidable (zCb P s t x key ok).pre:=by delta zCb;split<;>(try split)<;>(try split)<;>infer_instance
instance {t:TypeId}{x key:AV}:Decidable (zBn P s t x key).pre:=by delta zBn;split<;>(try split)<;>(try split)<;>infer_instance
instance {x st v:AV}:Decidable (zA7 s x st v).pre:=by delta zA7;split<;>(try split)<;>(try split)<;>infer_instance
instance {t:TypeId}{x key v:AV}:Decidable (zBS P s t x key v).pre:=by delta zBS;split<;>(try split)<;>(try split)<;>infer_instance
instance {d:Nat}{t:TypeId}{x:AV}:Decidable (zEy P s d t x).pre:=by delta zEy;split<;>(try split)<;>infer_instance
instance {x:AV}:Decidable (zEz s x).pre:=by delta zEz;split<;>(try split)<;>infer_instance
instance {d:Nat}{b:Builtin}{ts:List TypeId}{xs:List AV}:Decidable (zA8 P s d b ts xs).pre:=by delta zA8;split<;>(try split)<;>infer_instance
instance decStep {o:Oper}:Decidable (step P o s).pre:=by delta step;split<;>(try split)<;>infer_instance
end
def nth:List AV→Nat→AV
 | [],_=>.r .un
 | x::_,0=>x
 | _::l,t+1=>nth l t
def setAt:List AV→Nat→AV→List AV
 | [],0,v=>[v]
 | [],d+1,v=>.r .un::setAt [] d v
 | _::l,0,v=>v::l
 | x::l,d+1,v=>x::setAt l d v
theorem zGs:∀ (l:List AV) (d:Nat) (v:AV) (t:Nat),nth (setAt l d v) t=if t=d then v else nth l t
 | [],0,v,0=>by simp [setAt,nth]
 | [],0,v,t+1=>by simp [setAt,nth]
 | [],d+1,v,0=>by simp [setAt,nth]
 | [],d+1,v,t+1=>by simp only[setAt,nth,zGs [] d v t,Nat.add_right_cancel_iff]
 | x::l,0,v,0=>by simp [setAt,nth]
 | x::l,0,v,t+1=>by simp [setAt,nth]
 | x::l,d+1,v,0=>by simp [setAt,nth]
 | x::l,d+1,v,t+1=>by simp only[setAt,nth,zGs l d v t,Nat.add_right_cancel_iff]
def rowAt:List (Nat × Row)→Nat→Row
 | [],_=>⟨0,.dead⟩
 | (j,r)::l,k=>if k=j then r else rowAt l k
def setRow:List (Nat × Row)→Nat→Row→List (Nat × Row)
 | [],k,r=>[(k,r)]
 | (j,q)::l,k,r=>if k=j then (j,r)::l else (j,q)::setRow l k r
theorem zF0:∀ (l:List (Nat × Row)) (k:Nat) (r:Row) (j:Nat),rowAt (setRow l k r) j=if j=k then r else rowAt l j
 | [],k,r,j=>rfl
 | (i, q)::l, k, r, j=>by
   unfold setRow
   split
   ·rename_i e;subst e
    simp only[rowAt]
    split<;>rfl
   ·rename_i e
    simp only[rowAt,zF0 l k r j]
    by_cases e1:j=i
    ·have:¬ j=k:=by omega
     simp [e1];omega
    ·simp [e1]
structure CS where
 n:Nat
 tm:List AV
 rows:List (Nat × Row)
def CS.as (s:CS):AS:=⟨s.n,nth s.tm,rowAt s.rows⟩
def CS.put (s:CS) (d:Option Nat) (v:AV):CS:=match d with|some d=>⟨s.n,setAt s.tm d v,s.rows⟩|none=>s
def CS.row (s:CS) (k:Nat) (r:Row):CS:=⟨s.n,s.tm,setRow s.rows k r⟩
def CS.effs (s:CS):List (Nat × Row)→CS
 | []=>s
 | (k,r)::l=>(s.row k r).effs l
def CS.app (s:CS) (d:Option Nat) (y:Yi):CS:=(s.effs y.eff).put d y.av
theorem zGA (s:CS) (d:Option Nat) (v:AV):(s.put d v).as=s.as.put d v:=by
 cases d with
 | none=>rfl
 | some d =>
   simp only[CS.put,CS.as,AS.put,AS.mk.injEq,true_and,and_true]
   funext t
   rw[zGs];rfl
theorem zK8 (s:CS) (k:Nat) (r:Row):(s.row k r).as=s.as.row k r:=by
 simp only[CS.row,CS.as,AS.row,AS.mk.injEq,true_and]
 funext j
 rw[zF0];rfl
theorem zQ8:∀ (l:List (Nat × Row)) (s:CS),(s.effs l).as={ s.as with rows:=l.foldl (fun f p=>upd f p.1 p.2) s.as.rows }
 | [],s=>rfl
 | (k, r)::l, s=>by
   simp only[CS.effs,zQ8 l,zK8,List.foldl_cons]
   rfl
theorem zVO (s:CS) (d:Option Nat) (y:Yi):(s.app d y).as=s.as.app d y:=by
 unfold CS.app AS.app
 rw[zGA,zQ8]
 rfl
theorem zDW (s:CS) (d:Option Nat) (v:AV):(s.put d v).n=s.n:=by cases d<;>rfl
theorem zNk:∀ (l:List (Nat × Row)) (s:CS),(s.effs l).n=s.n
 | [],s=>rfl
 | (k,r)::l,s=>by simp only[CS.effs,zNk l];rfl
theorem zUd (s:CS) (d:Option Nat) (y:Yi):(s.app d y).n=s.n:=by simp only[CS.app,zDW,zNk]
def zFv {α β:Type}(x:Option (List α)) (f:α→Option (List β)):Option (List β) :=
 match x with
 | none=>none
 | some l=>go l
 where go:List α→Option (List β)
 | []=>some []
 | a::l=>match f a with
   | none=>none
   | some ys=>match go l with
     | none=>none
     | some zs=>some (ys++zs)
theorem zNy {α β:Type}{f:α→Option (List β)}:∀ {l:List α}{zs:List β},zFv.go f l=some zs→∀ a∈l,∃ ys,f a=some ys∧∀ y∈ys,y∈zs
 | [],_,_,a,ha=>by simp at ha
 | b::l, zs, h, a, ha=>by
   unfold zFv.go at h
   split at h
   ·cases h
   ·rename_i ys hys
    split at h
    ·cases h
    ·rename_i ws hws
     injection h with h;subst h
     rcases List.mem_cons.1 ha with rfl|ha
     ·exact⟨ys,hys,fun y hy=>by simp [hy]⟩
     ·obtain⟨y2,h1,h2⟩:=zNy hws a ha
      exact⟨y2,h1,fun y hy=>by simp [h2 y hy]⟩
theorem zFu {α β:Type}{x:Option (List α)}{f:α→Option (List β)}{zs:List β}(h:zFv x f=some zs):∃ l,x=some l∧∀ a∈l,∃ ys,f a=some ys∧∀ y∈ys,y∈zs:=by
 unfold zFv at h
 split at h
 ·cases h
 ·exact⟨_,rfl,zNy h⟩
abbrev Caller:=Bool→CS→Option Nat→AV→List AV→Option CS
def Caller.ok (P:Program) (call:Caller):Prop :=
 ∀ D s d f xs t,call D s d f xs=some t→t.n=s.n∧∀ K:AS→Prop,K t.as→zRS P s.as f xs (fun r=>K (s.as.put d (.r r)))∨(D=false∧(zSH P s.as d f xs K∨zLf P s.as d f xs K))
def each {α:Type}(f:Nat→α→CS):List α→Nat→List CS
 | [],_=>[]
 | e::l,i=>f i e::each f l (i+1)
theorem zNn {α:Type}{f:Nat→α→CS}:∀ {l:List α}{i j:Nat}{e:α},l[j]? = some e→f (i+j) e∈each f l i
 | [],_,_,_,h=>by simp at h
 | x::l,i,0,e,h=>by simp at h;subst h;simp [each]
 | x::l, i, j+1, e, h=>by
   simp at h
   have:=zNn (f:=f) (i:=i+1) h
   rw[show i+1+j=i+(j+1) from by omega] at this
   simp [each,this]
theorem zNm {α:Type}{f:Nat→α→CS}{n:Nat}(h:∀ i e,(f i e).n=n):∀ {l:List α}{i:Nat},∀ t∈each f l i,t.n=n
 | [],_,t,ht=>by simp [each] at ht
 | x::l, i, t, ht=>by
   simp only[each,List.mem_cons] at ht
   rcases ht with rfl|ht
   ·exact h _ _
   ·exact zNm h t ht
def zT0 (s:CS) (d:Option Nat) (x:AV):Option (List CS) :=
 match x with
 | .mi k n =>
   match rowAt s.rows k with
   | ⟨n', .mi km nm left _⟩ =>
     if n=n'∧nm=(rowAt s.rows km).ver∧k≠km then
      match left with
      | []=>some [s.put d (.r (.tu [.bo false]))]
      | e::l=>some (each (fun i e'=>CS.put (s.row k ⟨n',.mi km nm ((e::l).eraseIdx i) (some e')⟩) d (.r (.tu [.bo true,e'.1,e'.2]))) (e::l) 0)
     else none
   | _=>none
 | _=>none
theorem zR4 {s:CS}{d:Option Nat}{x:AV}{L:List CS}(h:zT0 s d x=some L) {K:AS→Prop}(hK:∀ t∈L,K t.as):zLU s.as d x K∧∀ t∈L,t.n=s.n:=by
 unfold zT0 at h
 split at h
 ·rename_i k n
  split at h
  ·rename_i n' km nm left cur hr
   split at h
   ·rename_i hc
    have hr':s.as.rows k=⟨n',.mi km nm left cur⟩:=hr
    unfold zLU
    simp only[hr']
    split at h
    ·injection h with h;subst h
     refine⟨⟨hc.1,hc.2.1,hc.2.2,fun _=>?_,fun i e he=>by simp at he⟩,fun t ht=>?_⟩
     ·rw[← zGA];exact hK _ (by simp)
     ·simp only[List.mem_singleton] at ht;rw[ht,zDW]
    ·rename_i e l
     injection h with h;subst h
     refine⟨⟨hc.1,hc.2.1,hc.2.2,fun h=>by simp at h,fun i e' he=>?_⟩,fun t ht=>?_⟩
     ·rw[← zK8,← zGA]
      have:=zNn (f:=fun i e'=>CS.put (s.row k ⟨n',.mi km nm ((e::l).eraseIdx i) (some e')⟩) d (.r (.tu [.bo true,e'.1,e'.2]))) (i:=0) he
      rw[Nat.zero_add] at this
      exact hK _ this
     ·exact zNm (fun i e=>by rw[zDW];rfl) t ht
   ·cases h
  ·cases h
 ·cases h
def opC (P:Program) (call:Caller) (D:Bool) (o:Oper) (s:CS):Option (List CS) :=
 match o.op with
 | .call ⟨.value f, args, _⟩ =>
   match call D s o.dst (s.as.ev f) (args.toList.map s.as.ev) with
   | some t=>some [t]
   | none=>none
 | .next x false=>if D then none else zT0 s o.dst (s.as.ev x)
 | _ =>
   if (step P o s.as).pre then
    if D&&cls o == 2 && !((rowAt s.rows (o.dst.getD 0)).c.isDead&&o.dst.isSome) then none
    else some [s.app o.dst (step P o s.as).y]
   else none
theorem zPz {P:Program}{call:Caller}(hcall:call.ok P) {D:Bool}{o:Oper}{s:CS}{L:List CS}(h:opC P call D o s=some L) {K:AS→Prop}(hK:∀ t∈L,K t.as):xop P D o K s.as∧∀ t∈L,t.n=s.n:=by
 unfold opC at h
 split at h
 ·rename_i f args ts ho
  split at h
  ·rename_i t ht
   injection h with h;subst h
   obtain⟨hn,hc⟩:=hcall _ _ _ _ _ _ ht
   have hc:=hc K (hK t (by simp))
   refine⟨?_,fun t' ht'=>by simp only[List.mem_singleton] at ht';rw[ht'];exact hn⟩
   unfold xop
   split
   ·rename_i hD
    unfold aop
    rw[ho]
    rcases hc with hc|⟨hc,_⟩
    ·exact .inl hc
    ·rw[hD] at hc;cases hc
   ·rw[ho]
    rcases hc with hc|⟨_,hc⟩
    ·exact .inl hc
    ·exact .inr (hc.imp id .inl)
  ·cases h
 ·rename_i x ho
  split at h
  ·cases h
  ·rename_i hD
   have:=zR4 h hK
   refine⟨?_,this.2⟩
   unfold xop
   rw[if_neg hD,ho]
   exact this.1
 ·rename_i h1 h2
  split at h
  ·rename_i hp
   split at h
   ·cases h
   ·rename_i hdead
    injection h with h;subst h
    refine⟨?_,fun t ht=>by simp only[List.mem_singleton] at ht;rw[ht,zUd]⟩
    have key:∀ D',(D'=true→D=true)→aop P D' o K s.as:=fun D' hD'=>by
     unfold aop
     split
     ·rename_i f args ts ho;exact (h1 f args ts ho).elim
     ·rename_i x ho;exact (h2 x ho).elim
     ·refine⟨hp,fun hD hc=>?_,fun _=>?_⟩
      ·have hD:=hD' hD
       cases e:((rowAt s.rows (o.dst.getD 0)).c.isDead&&o.dst.isSome) with
       | false=>exact (hdead (by simp only[hD,hc,e];rfl)).elim
       | true =>
         simp only[Bool.and_eq_true] at e
         exact⟨zH7.2 e.1,e.2⟩
      ·rw[← zVO];exact hK _ (by simp)
    unfold xop
    split
    ·rename_i hD;exact key true fun _=>hD
    ·split
     ·rename_i f args ts ho;exact (h1 f args ts ho).elim
     ·rename_i x ho;exact (h2 x ho).elim
     ·exact key false fun h=>by cases h
  ·cases h
def zCC (P:Program) (call:Caller) (D:Bool) (ops:Array Oper):List Oper→CS→Option (List CS)
 | [],s=>some [s]
 | o::rest, s =>
   match o.guard with
   | none=>zFv (opC P call D o s) (zCC P call D ops rest)
   | some (g, want) =>
     match ((ops[g]?).bind (·.dst):Option Nat) with
     | none=>zCC P call D ops rest (s.put o.dst (.r .ud))
     | some t =>
       match nth s.tm t with
       | .r (.bo b)=>if b == want then zFv (opC P call D o s) (zCC P call D ops rest) else zCC P call D ops rest (s.put o.dst (.r .ud))
       | .r .ud=>zCC P call D ops rest (s.put o.dst (.r .ud))
       | _=>none
theorem zGk {P:Program}{call:Caller}(hcall:call.ok P) {D:Bool}{ops:Array Oper}{K:AS→Prop}:∀ (l:List Oper) {s:CS}{L:List CS},zCC P call D ops l s=some L→(∀ t∈L,t.n=s.n→K t.as)→aops P D ops l K s.as
 | [], s, L, h, hK=>by
   unfold zCC at h
   injection h with h;subst h
   exact hK s (by simp) rfl
 | o::l, s, L, h, hK=>by
   have go:∀ {s1:CS},s1.n=s.n→zFv (opC P call D o s1) (zCC P call D ops l)=some L→xop P D o (aops P D ops l K) s1.as:=fun hn h=>by
    obtain⟨l1,h1,h2⟩:=zFu h
    have hnum:=(zPz hcall h1 (K:=fun _=>True) fun _ _=>trivial).2
    refine (zPz hcall h1 fun t ht=>?_).1
    obtain⟨ys,hys,hsub⟩:=h2 t ht
    exact zGk hcall l hys fun t' ht' hn'=>hK t' (hsub t' ht') (by rw[hn',hnum t ht,hn])
   have sk:zCC P call D ops l (s.put o.dst (.r .ud))=some L→aops P D ops l K (s.as.put o.dst (.r .ud)):=fun h=>by
    rw[← zGA]
    exact zGk hcall l h fun t ht hn=>hK t ht (by rw[hn,zDW])
   unfold zCC at h
   unfold aops
   split at h
   ·rename_i hg
    rw[hg]
    exact go rfl h
   ·rename_i g want hg
    rw[hg]
    dsimp only
    split at h
    ·rename_i ht;rw[ht];exact sk h
    ·rename_i t ht
     rw[ht]
     dsimp only
     split at h
     ·rename_i b hb
      have hb':s.as.tm t = .r (.bo b):=hb
      rw[hb']
      dsimp only
      split at h
      ·rename_i e
       have e:b=want:=by simpa using e
       subst e
       refine⟨fun _=>?_,fun e=>(by cases b<;>cases e)⟩
       rw[zCz hb']
       exact go rfl h
      ·rename_i e
       have e:b = !want:=by cases b<;>cases want<;>simp_all
       subst e
       refine⟨fun e=>(by cases want<;>cases e),fun _=>?_⟩
       rw[zCz hb']
       exact sk h
     ·rename_i hb
      have hb':s.as.tm t = .r .ud:=hb
      rw[hb']
      exact sk h
     ·cases h
def codeOk (n:Nat):Code→Bool
 | .region _ ops _=>zA9 ops n
 | .seq a b=>codeOk n a&&codeOk n b
 | .cond _ a b=>codeOk n a&&codeOk n b
 | .block _ c=>codeOk n c
 | .loop c=>codeOk n c
 | _=>true
structure Modes where
 fs:List (FuncId × Nat)
def zKF:List (FuncId × Nat)→FuncId→Option Nat
 | [],_=>none
 | (g,m)::l,f=>if f=g then some m else zKF l f
def zI7 (P:Program) (f:FuncId):Bool :=
 match P.funcs[f]? with
 | some fn=>match fn.body with
   | some c=>codeOk fn.ntmps c&&callable P f
   | none=>false
 | none=>false
def zHM (P:Program):List (FuncId × Nat)→Bool
 | []=>true
 | (f,_)::l=>zI7 P f&&zHM P l
theorem zLF {P:Program}:∀ {l:List (FuncId × Nat)}{f:FuncId}{m:Nat},zHM P l=true→zKF l f=some m→zI7 P f=true
 | [],_,_,_,h=>by simp [zKF] at h
 | (g, k)::l, f, m, ha, h=>by
   simp only[zHM,Bool.and_eq_true] at ha
   unfold zKF at h
   split at h
   ·rename_i e;subst e;exact ha.1
   ·exact zLF ha.2 h
mutual
def zEw (rows:Nat→Row):AV→Bool
 | .r _=>true
 | .os k n sz off m=>n == (rows k).ver&&match (rows k).c with | .arr _ sz' es=>sz == sz'&&decide (off+m≤es.length)|_=>false
 | .pt k n off=>n == (rows k).ver&&match (rows k).c with | .box cs=>zHo rows (cs.drop off)|_=>false
 | .pe k n sz idx _=>n == (rows k).ver&&match (rows k).c with | .arr _ sz' es=>sz == sz'&&decide (idx<es.length)|_=>false
 | .fn _ cs=>zEv rows cs
 | .ag cs=>zEv rows cs
 | .tu cs=>zEv rows cs
 | .mp _ _=>false
 | .mi _ _=>false
 | .pu _ _ _=>false
def zEv (rows:Nat→Row):List AV→Bool
 | []=>true
 | x::xs=>zEw rows x&&zEv rows xs
def zHo (rows:Nat→Row):List AV→Bool
 | []=>true
 | .os k n sz off m::xs=>(n == (rows k).ver&&match (rows k).c with | .arr _ sz' es=>sz == sz'&&decide (off+m≤es.length)|_=>false)&&zHo rows xs
 | _::xs=>zHo rows xs
end
end Go.Oc

namespace Go.Oc
open Go Go.RowKit
section
variable {rows:Nat→Row}
theorem osB {k n sz off m:Nat}(h:(n == (rows k).ver&&match (rows k).c with | .arr _ sz' es=>sz == sz'&&decide (off+m≤es.length)|_=>false)=true) :
 n=(rows k).ver∧match (rows k).c with | .arr _ sz' es=>sz=sz'∧off+m≤es.length | .arc _ sz' es _=>sz=sz'∧off+m≤es.length|_=>False:=by
 simp only[Bool.and_eq_true,beq_iff_eq] at h
 refine⟨h.1,?_⟩
 have h:=h.2
 split at h
 ·rename_i e;simp only[e];simpa using h
 ·cases h
theorem zGg:∀ (xs:List AV),zHo rows xs=true→zBm rows xs
 | [],_=>trivial
 | x::xs, h=>by
   cases x with
   | os k n sz off m =>
     simp only[zHo,Bool.and_eq_true (_&&_)] at h
     exact⟨osB h.1,zGg xs h.2⟩
   | _=>simp only[zHo] at h;exact⟨trivial,zGg xs h⟩
mutual
theorem zMp:∀ (x:AV),zEw rows x=true→zBE rows x
 | .r _,_=>by simp only[zBE]
 | .os k n sz off m,h=>by simp only[zEw] at h;simp only[zBE];exact⟨(osB h).1,osP (osB h).2⟩
 | .pt k n off, h=>by
   simp only[zEw,Bool.and_eq_true,beq_iff_eq] at h
   simp only[zBE]
   refine⟨h.1,?_⟩
   have h:=h.2
   generalize (rows k).c=c at h ⊢
   cases c<;>first|exact zGg _ h|cases h
 | .pe k n sz idx _, h=>by
   simp only[zEw,Bool.and_eq_true,beq_iff_eq] at h
   simp only[zBE]
   refine⟨h.1,?_⟩
   have h:=h.2
   generalize (rows k).c=c at h ⊢
   cases c<;>first|(simp only[Bool.and_eq_true,beq_iff_eq,decide_eq_true_eq] at h;exact h)|cases h
 | .fn _ cs,h=>by simp only[zEw] at h;simp only[zBE];exact zCZ cs h
 | .ag cs,h=>by simp only[zEw] at h;simp only[zBE];exact zCZ cs h
 | .tu cs,h=>by simp only[zEw] at h;simp only[zBE];exact zCZ cs h
 | .mp _ _,h=>by simp [zEw] at h
 | .mi _ _,h=>by simp [zEw] at h
 | .pu _ _ _,h=>by simp [zEw] at h
theorem zCZ:∀ (xs:List AV),zEv rows xs=true→zBa rows xs
 | [],_=>trivial
 | x::xs, h=>by
   simp only[zEv,Bool.and_eq_true] at h
   exact⟨zMp x h.1,zCZ xs h.2⟩
end
end
instance {P:Program}{s:AS}{v:ResultVar}:Decidable (resA P s v).pre:=match v with
 | .tmp _=>.isTrue trivial
 | .cell a t=>inferInstanceAs (Decidable (zCn P s t (s.tm a)).pre)
def zGn (P:Program) (s:AS):List ResultVar→Option (List RV)
 | []=>some []
 | v::vs =>
   if (resA P s v).pre then
    if zEw s.rows (resA P s v).y.av then
     match zGn P s vs with
     | some rs=>some (zBZ s.rows (resA P s v).y.av::rs)
     | none=>none
    else none
   else none
theorem zHp {P:Program}{s:AS}:∀ {vs:List ResultVar}{rs:List RV},zGn P s vs=some rs→zDE P s vs rs
 | [],rs,h=>by injection h with h;exact h.symm
 | v::vs, rs, h=>by
   unfold zGn at h
   split at h
   ·rename_i hp
    split at h
    ·rename_i hs
     split at h
     ·rename_i rs' hr
      injection h with h;subst h
      exact⟨hp,zMp _ hs,_,rs',rfl,zAS.le_refl _,zHp hr⟩
     ·cases h
    ·cases h
   ·cases h
abbrev Outs:=List (Exit × CS)
def zSn (P:Program) (res:List ResultVar) (x:Exit × CS):Option (List RV) :=
 match x.1 with
 | .normal=>zGn P x.2.as res
 | .ret=>zGn P x.2.as res
 | _=>none
theorem zNj {P:Program}{res:List ResultVar}{x:Exit × CS}{rs:List RV}(h:zSn P res x=some rs):zH9 P res rs x.1 x.2.as:=by
 obtain⟨e,t⟩:=x
 unfold zSn at h
 cases e<;>first|exact zHp h|cases h
def zJp:List RV→List RV→Bool
 | [],[]=>true
 | .bo a::l,.bo b::l'=>(a == b)&&zJp l l'
 | .it .i64 a::l,.it .i64 b::l'=>(a == b)&&zJp l l'
 | _,_=>false
theorem zPl:∀ {l l':List RV},zJp l l'=true→l=l':=fun {l l'} h=>by
 fun_induction zJp l l' with
 | case1=>rfl
 | case2 a l b l' ih=>simp only[Bool.and_eq_true,beq_iff_eq] at h;rw[h.1,ih h.2]
 | case3 a l b l' ih=>simp only[Bool.and_eq_true,beq_iff_eq] at h;rw[h.1,ih h.2]
 | case4=>cases h
def agree (P:Program) (res:List ResultVar):Outs→Option (List RV)
 | []=>none
 | [x]=>zSn P res x
 | x::l=>match zSn P res x, agree P res l with
   | some r,some r'=>if zJp r r' then some r else none
   | _,_=>none
theorem zN5 {P:Program}{res:List ResultVar}:∀ {L:Outs}{rs:List RV},agree P res L=some rs→∀ x∈L,zH9 P res rs x.1 x.2.as
 | [],_,h=>by simp [agree] at h
 | [x], rs, h=>fun y hy=>by
   simp only[List.mem_singleton] at hy
   subst hy
   exact zNj (by simpa only[agree] using h)
 | x::y::l, rs, h=>fun z hz=>by
   simp only[agree] at h
   split at h
   ·rename_i r r' h1 h2
    split at h
    ·rename_i e
     injection h with h;subst h
     have e:=zPl e
     subst e
     rcases List.mem_cons.1 hz with rfl|hz
     ·exact zNj h1
     ·exact zN5 (L:=y::l) h2 z hz
    ·cases h
   ·cases h
def zU7:Exit→Bool
 | .normal=>true
 | .ret=>true
 | _=>false
def zSx (P:Program) (ex:Code→CS→Option Outs) (fn:Func) (c:Code) (args:List RV):Option RV :=
 if args.length≤fn.ntmps then
  match ex c ⟨fn.ntmps,args.map .r,[]⟩ with
  | some L=>match agree P fn.results.toList L with
    | some rs=>some (resV rs)
    | none=>none
  | none=>none
 else none
def zUU (P:Program) (ex:Code→CS→Option Outs) (fn:Func) (c:Code) (args:List RV):Option (Nat × Nat × List (List RV) × Nat) :=
 if args.length≤fn.ntmps then
  match fn.results.toList,ex c ⟨fn.ntmps,args.map .r,[]⟩ with
  | [rv], some [(e, t)] =>
    if zU7 e then
    if (resA P t.as rv).pre then
     match (resA P t.as rv).y.av with
     | .os j n sz off m =>
       match rowAt t.rows j with
       | ⟨n',.arr ty sz' es⟩=>if n == n'&&sz == sz'&&off == 0&&es.all RV.flatL then some (ty,sz,es,m) else none
       | _=>none
     | _=>none
    else none
    else none
  | _,_=>none
 else none
mutual
def keysA:AV→List Nat
 | .pt k _ _=>[k]
 | .pe k _ _ _ _=>[k]
 | .os k _ _ _ _=>[k]
 | .mp k _=>[k]
 | .fn _ cs=>keysL cs
 | .ag cs=>keysL cs
 | .tu cs=>keysL cs
 | _=>[]
def keysL:List AV→List Nat
 | []=>[]
 | x::xs=>keysA x++keysL xs
end
def keysB (rows:Nat→Row):List Nat→List Nat
 | []=>[]
 | k::ks=>k::((match (rows k).c with | .box cs=>keysL cs|_=>[])++keysB rows ks)
def zT3:List Nat→Nat→List (Nat × Nat)
 | [],_=>[]
 | k::ks,i=>if (k::ks).length > 1&&ks.contains k then zT3 ks i else (i,k)::zT3 ks (i+1)
def zGP (ρ:List (Nat × Nat)) (s:AS):List (Nat × Nat)→Option (List (Nat × RowC))
 | []=>some []
 | (pk, ck)::l=>match zKN ρ s.ver (s.rows ck).c, zGP ρ s l with
   | some c,some L=>some ((pk,c)::L)
   | _,_=>none
theorem zGu {ρ:List (Nat × Nat)}{s:AS}:∀ {l:List (Nat × Nat)}{L:List (Nat × RowC)},zGP ρ s l=some L→zC0 ρ s l L
 | [],L,h=>by injection h with h;subst h;trivial
 | (pk, ck)::l, L, h=>by
   unfold zGP at h
   split at h
   ·rename_i c L' h1 h2
    injection h with h;subst h
    exact⟨rfl,h1,zGu h2⟩
   ·cases h
def frzB (ks:List (Nat × RowC)) (rows:Nat→Row):AV→Bool
 | .os j n sz off m=>if zBK ks j then true else (decide (j<1000)&&zEw rows (.os j n sz off m))
 | _=>true
theorem zQZ {ks:List (Nat × RowC)}{rows:Nat→Row}{x:AV}(h:frzB ks rows x=true):zHW ks rows x:=by
 cases x with
 | os j n sz off m =>
   simp only[frzB] at h
   simp only[zHW]
   split at h
   ·rename_i e;rw[if_pos e];trivial
   ·rename_i e
    rw[if_neg e]
    simp only[Bool.and_eq_true,decide_eq_true_eq] at h
    refine⟨h.1,?_⟩
    have h2:=h.2
    simp only[zEw] at h2
    have h3:=osB h2
    refine⟨h3.1,?_⟩
    have h4:=h3.2
    generalize (rows j).c=c at h4 ⊢
    cases c<;>exact h4
 | _=>simp only[zHW]
def zSd (ks:List (Nat × RowC)) (rows:Nat→Row):List AV→Bool
 | []=>true
 | x::xs=>frzB ks rows x&&zSd ks rows xs
theorem zNV {ks:List (Nat × RowC)}{rows:Nat→Row}:∀ {xs:List AV},zSd ks rows xs=true→zI5 ks rows xs
 | [],_=>trivial
 | x::xs, h=>by
   simp only[zSd,Bool.and_eq_true] at h
   exact⟨zQZ h.1,zNV h.2⟩
def zVC (ks:List (Nat × RowC)) (rows:Nat→Row):RowC→Bool
 | .box cs=>zSd ks rows cs
 | _=>true
theorem zSe {ks:List (Nat × RowC)}{rows:Nat→Row}{c:RowC}(h:zVC ks rows c=true):zSc ks rows c:=by
 cases c<;>first|exact zNV h|trivial
def finM (ks:List (Nat × RowC)) (rows:Nat→Row):List (Nat × RowC)→Option (List (Nat × RowC))
 | []=>some []
 | (k,_)::L=>if okC (rows k).c&&zVC ks rows (rows k).c then match finM ks rows L with|some L'=>some ((k,frzC ks rows (rows k).c)::L')|none=>none else none
theorem zQb {ks:List (Nat × RowC)}{rows:Nat→Row}:∀ {L L':List (Nat × RowC)},finM ks rows L=some L'→mfin ks rows L L'
 | [],L',h=>by injection h with h;subst h;trivial
 | (k, c)::L, L', h=>by
   unfold finM at h
   split at h
   ·rename_i hc
    simp only[Bool.and_eq_true] at hc
    split at h
    ·rename_i L'' h2
     injection h with h;subst h
     exact⟨rfl,hc.1,zSe hc.2,rfl,zQb h2⟩
    ·cases h
   ·cases h
def zGL (P:Program) (ks:List (Nat × RowC)) (s:AS):List ResultVar→Option (List AV)
 | []=>some []
 | v::vs =>
   if (resA P s v).pre then
    if frzB ks s.rows (resA P s v).y.av then
     match zGL P ks s vs with
     | some rs=>some (frz1 ks s.rows (resA P s v).y.av::rs)
     | none=>none
    else none
   else none
theorem zGm {P:Program}{ks:List (Nat × RowC)}{s:AS}:∀ {vs:List ResultVar}{rs:List AV},zGL P ks s vs=some rs→resM P ks s vs rs
 | [],rs,h=>by injection h with h;exact h.symm
 | v::vs, rs, h=>by
   unfold zGL at h
   split at h
   ·rename_i hp
    split at h
    ·rename_i hs
     split at h
     ·rename_i rs' hr
      injection h with h;subst h
      exact⟨hp,zQZ hs,rs',rfl,zGm hr⟩
     ·cases h
    ·cases h
   ·cases h
def rowsOf:List (Nat × RowC)→List (Nat × Row)
 | []=>[]
 | (k,c)::L=>(k,⟨0,c⟩)::rowsOf L
def zUV (P:Program) (ex:Code→CS→Option Outs) (fn:Func) (c:Code) (L:List (Nat × RowC)) (args:List AV):Option (List (Nat × RowC) × AV) :=
 if args.length≤fn.ntmps&&pinned L then
  match ex c ⟨fn.ntmps,args,rowsOf L⟩ with
  | some [(e, t)] =>
    if zU7 e then
     match finM L t.as.rows L,zGL P L t.as fn.results.toList with
     | some L',some rs=>some (L',zJv rs)
     | _,_=>none
    else none
  | _=>none
 else none
def zFh (s:CS) (L':List (Nat × RowC)) (ver:Nat→Nat) (ρ:List (Nat × Nat)):List (Nat × Nat)→CS
 | []=>s
 | (pk,ck)::l=>zFh (s.row ck ⟨ver ck,zCq ρ ver (zAG L' pk)⟩) L' ver ρ l
def zUW (P:Program) (fs:List (FuncId × Nat)) (ex:Code→CS→Option Outs):Caller:=fun D s d f xs =>
 match zAf f with
 | none=>none
 | some (F, cs) =>
   match zKF fs F,P.funcs[F]? with
   | some m, some fn =>
     match fn.body with
     | none=>none
     | some c =>
       if m == 1 && !D then
        match d with
        | some dd =>
          if zEv s.as.rows (xs++cs)&&decide (dd<1000) then
           match zUU P ex fn c (zAc s.as.rows (xs++cs)) with
           | some (t,sz,es,m)=>some ((s.row dd ⟨(s.as.rows dd).ver+1,.arr t sz es⟩).put d (.os dd ((s.as.rows dd).ver+1) sz 0 m))
           | none=>none
          else none
        | none=>none
       else if m == 2 && !D then
        let ρ:=zT3 (keysB s.as.rows (keysL (xs++cs))) 1000
        match zDg ρ s.as.ver (xs++cs),zGP ρ s.as ρ with
        | some args, some L =>
          match zUV P ex fn c L args with
          | some (L',r)=>if apart ρ&&zCu ρ L' then some ((zFh s L' s.as.ver ρ ρ).put d (zBL ρ s.as.ver r)) else none
          | none=>none
        | _,_=>none
       else if zEv s.as.rows (xs++cs) then
        match zSx P ex fn c (zAc s.as.rows (xs++cs)) with
        | some r=>if r.flatB || AV.pureL (xs++cs) then some (s.put d (.r r)) else none
        | none=>none
       else none
   | _,_=>none
mutual
def RV.dl:RV→RV→Bool
 | .ns,.sl _ []=>true
 | .sl s es,.sl t fs=>s == t&&RV.dlE es fs
 | .ag xs,.ag ys=>RV.dlL xs ys
 | .rp xs,.rp ys=>RV.dlL xs ys
 | .fn f xs,.fn g ys=>f == g&&RV.dlL xs ys
 | .it .i64 n,.it .i64 m=>n == m
 | .bo a,.bo b=>a == b
 | .ns,.ns=>true
 | .np,.np=>true
 | .nf,.nf=>true
 | _,_=>false
def RV.dlL:List RV→List RV→Bool
 | [],[]=>true
 | x::xs,y::ys=>RV.dl x y&&RV.dlL xs ys
 | _,_=>false
def RV.dlE:List (List RV)→List (List RV)→Bool
 | [],[]=>true
 | x::xs,y::ys=>RV.dlL x y&&RV.dlE xs ys
 | _,_=>false
end
theorem zQq:∀ {xs ys:List RV},RV.dlL xs ys=true→xs.length=ys.length
 | [],[],_=>rfl
 | x::xs, y::ys, h=>by
   simp only[RV.dlL,Bool.and_eq_true] at h
   simp [zQq h.2]
 | [],_::_,h=>by simp [RV.dlL] at h
 | _::_,[],h=>by simp [RV.dlL] at h
theorem zQr:∀ {xs ys:List (List RV)},RV.dlE xs ys=true→xs.length=ys.length
 | [],[],_=>rfl
 | x::xs, y::ys, h=>by
   simp only[RV.dlE,Bool.and_eq_true] at h
   simp [zQr h.2]
 | [],_::_,h=>by simp [RV.dlE] at h
 | _::_,[],h=>by simp [RV.dlE] at h
section
variable {w:World}{R:Nat→Prop}
mutual
theorem zTS:∀ (x y:RV) (v:Value),RV.dl x y=true→x.rel w R v→y.rel w R v
 | .ns, .sl sz [], v, _, h=>by
   simp only[RV.rel] at h ⊢
   obtain⟨A,rfl⟩:=h
   exact⟨A,0,rfl,Nat.le_refl _,Nat.zero_le _,fun h=>absurd rfl h⟩
 | .sl s es, .sl t fs, v, hd, h=>by
   simp only[RV.dl,Bool.and_eq_true,beq_iff_eq] at hd
   obtain⟨rfl,hd⟩:=hd
   have hl:=zQr hd
   simp only[RV.rel] at h ⊢
   obtain⟨A,c,hv,h1,h2,h3⟩:=h
   refine⟨A,c,by rw[← hl];exact hv,by rw[← hl];exact h1,h2,fun hne=>?_⟩
   obtain⟨ad,e,hr,hc⟩:=h3 (fun e=>hne (by rw[e] at hl;exact List.eq_nil_of_length_eq_zero hl.symm))
   exact⟨ad,e,hr,zQp s es fs ad 0 hd hc⟩
 | .ag xs, .ag ys, v, hd, h=>by
   simp only[RV.dl] at hd
   simp only[RV.rel] at h ⊢
   obtain⟨vs,e,h1,hV⟩:=h
   exact⟨vs,e,h1,zJG xs ys _ hd hV⟩
 | .rp xs, .rp ys, v, hd, h=>by
   simp only[RV.dl] at hd
   simp only[RV.rel] at h ⊢
   obtain⟨ad,e,hR,hC⟩:=h
   exact⟨ad,e,hR,zME xs ys _ _ hd hC⟩
 | .fn f xs, .fn g ys, v, hd, h=>by
   simp only[RV.dl,Bool.and_eq_true,beq_iff_eq] at hd
   simp only[RV.rel] at h ⊢
   obtain⟨vs,e,hV⟩:=h
   exact⟨vs,by rw[← hd.1];exact e,zJG xs ys _ hd.2 hV⟩
 | .it .i64 n, .it .i64 m, v, hd, h=>by
   simp only[RV.dl,beq_iff_eq] at hd
   subst hd;exact h
 | .bo a, .bo b, v, hd, h=>by
   simp only[RV.dl,beq_iff_eq] at hd
   subst hd;exact h
 | .ns,.ns,_,_,h=>h
 | .np,.np,_,_,h=>h
 | .nf,.nf,_,_,h=>h
theorem zJG:∀ (xs ys:List RV) (vs:List Value),RV.dlL xs ys=true→RV.relV w R xs vs→RV.relV w R ys vs
 | [],[],_,_,h=>h
 | x::xs, y::ys, vs, hle, h=>by
   simp only[RV.dlL,Bool.and_eq_true] at hle
   simp only[RV.relV] at h ⊢
   obtain⟨u,us,e,h1,h2⟩:=h
   exact⟨u,us,e,zTS x y u hle.1 h1,zJG xs ys us hle.2 h2⟩
 | [],_::_,_,hle,_=>by simp [RV.dlL] at hle
 | _::_,[],_,hle,_=>by simp [RV.dlL] at hle
theorem zME:∀ (xs ys:List RV) (ad:Addr) (j:Nat),RV.dlL xs ys=true→RV.relC w R xs ad j→RV.relC w R ys ad j
 | [],[],_,_,_,h=>h
 | x::xs, y::ys, ad, j, hle, h=>by
   simp only[RV.dlL,Bool.and_eq_true] at hle
   simp only[RV.relC] at h ⊢
   obtain⟨⟨u,hu,ho,h1⟩,h2⟩:=h
   exact⟨⟨u,hu,ho,zTS x y u hle.1 h1⟩,zME xs ys ad (j+1) hle.2 h2⟩
 | [],_::_,_,_,hle,_=>by simp [RV.dlL] at hle
 | _::_,[],_,_,hle,_=>by simp [RV.dlL] at hle
theorem zQp:∀ (sz:Nat) (xs ys:List (List RV)) (ad:Addr) (j:Nat),RV.dlE xs ys=true→RV.relE w R sz xs ad j→RV.relE w R sz ys ad j
 | _,[],[],_,_,_,h=>h
 | sz, x::xs, y::ys, ad, j, hle, h=>by
   simp only[RV.dlE,Bool.and_eq_true] at hle
   simp only[RV.relE] at h ⊢
   exact⟨by rw[← zQq hle.1];exact h.1,zME x y ad j hle.1 h.2.1,zQp sz xs ys ad (j+sz) hle.2 h.2.2⟩
 | _,[],_::_,_,_,hle,_=>by simp [RV.dlE] at hle
 | _,_::_,[],_,_,hle,_=>by simp [RV.dlE] at hle
end
end
theorem zRR {P:Program}{f:FuncId}{xs ys:List RV}{r:RV}(h:zAA P f ys r) (hd:RV.dlL xs ys=true):zAA P f xs r :=
 ⟨h.1,fun w R vs hR hv=>h.2 w R vs hR (zJG xs ys _ hd hv)⟩
abbrev Orc:=List (FuncId × List RV × RV)
def zJ5:Orc→FuncId→List RV→Option RV
 | [],_,_=>none
 | (g,ys,r)::l,f,xs=>if f == g&&RV.dlL xs ys then some r else zJ5 l f xs
def zHS (P:Program):Orc→Prop
 | []=>True
 | (g,ys,r)::l=>zAA P g ys r∧zHS P l
theorem zJ4 {P:Program}:∀ {l:Orc}{f:FuncId}{xs:List RV}{r:RV},zHS P l→zJ5 l f xs=some r→zAA P f xs r
 | [],_,_,_,_,h=>by simp [zJ5] at h
 | (g, ys, r')::l, f, xs, r, ho, h=>by
   unfold zJ5 at h
   split at h
   ·rename_i hc
    simp only[Bool.and_eq_true,beq_iff_eq] at hc
    injection h with h;subst h
    rw[hc.1]
    exact zRR ho.1 hc.2
   ·exact zJ4 ho.2 h
def zUT (orc:Orc):Caller:=fun _ s d f xs =>
 match zAf f with
 | none=>none
 | some (F, cs) =>
   if zEv s.as.rows (xs++cs) then
    match zJ5 orc F (zAc s.as.rows (xs++cs)) with
    | some r=>if r.flatB || AV.pureL (xs++cs) then some (s.put d (.r r)) else none
    | none=>none
   else none
def zUS (P:Program) (fs:List (FuncId × Nat)) (orc:Orc) (ex:Code→CS→Option Outs):Caller:=fun D s d f xs =>
 match zUW P fs ex D s d f xs with
 | some t=>some t
 | none=>zUT orc D s d f xs
def norm:List CS→Outs
 | []=>[]
 | t::l=>(.normal,t)::norm l
def leave (id:Nat):Exit→Exit
 | .exit id'=>if id'=id then .normal else .exit id'
 | e=>e
def blk (id:Nat):Outs→Outs
 | []=>[]
 | (e,t)::l=>(leave id e,t)::blk id l
def zFm:List Oper→CS→CS
 | [],s=>s
 | o::l,s=>if cls o == 2&&decide (o.dst.getD 0<1000) then zFm l (s.row (o.dst.getD 0) ⟨(rowAt s.rows (o.dst.getD 0)).ver+1,.dead⟩) else zFm l s
def zOb (D:Bool) (l:List Oper) (s:CS):CS:=match D with|true=>zFm l s|false=>s
def slots:List Operand→List Nat
 | []=>[]
 | .tmp t::l=>t::slots l
 | _::l=>slots l
def zQL (ops:Array Oper) (s:CS):List Oper→List (Nat × Option Nat)
 | []=>[]
 | o::l=>(slots o.op.operands.toList).map (fun t=>(t,keyOf (nth s.tm t)))++zQL ops s l
def zTR (D:Bool) (ops:Array Oper) (s:CS):Bool:=!D || zLp ops || zGt ops (zQL ops s ops.toList)
def exec (P:Program) (fs:List (FuncId × Nat)) (orc:Orc):Nat→Code→CS→Option Outs
 | 0,_,_=>none
 | k+1,.region _ ops D,s=>if zTR D ops (zOb D ops.toList s) then match zCC P (zUS P fs orc (exec P fs orc k)) D ops ops.toList (zOb D ops.toList s) with|some L=>some (norm L)|none=>none else none
 | k+1,.seq a b,s=>zFv (exec P fs orc k a s) fun x=>match x.1 with | .normal=>exec P fs orc k b x.2|e=>some [(e,x.2)]
 | k+1,.loop c,s=>zFv (exec P fs orc k c s) fun x=>match x.1 with | .normal=>exec P fs orc k (.loop c) x.2|e=>some [(e,x.2)]
 | k+1,.cond c a b,s=>match s.as.ev c with | .r (.bo t)=>bif t then exec P fs orc k a s else exec P fs orc k b s|_=>none
 | k+1,.block id c,s=>match exec P fs orc k c s with|some L=>some (blk id L)|none=>none
 | _+1,.skip,s=>some [(.normal,s)]
 | _+1,.label _,s=>some [(.normal,s)]
 | _+1,.exit id,s=>some [(.exit id,s)]
 | _+1,.ret,s=>some [(.ret,s)]
 | _+1,_,_=>none
def zVE (P:Program) (fs:List (FuncId × Nat)) (orc:Orc) (k:Nat) (F:FuncId) (args:List RV):Option RV :=
 match P.funcs[F]? with
 | some fn=>match fn.body with
   | some c=>zSx P (exec P fs orc k) fn c args
   | none=>none
 | none=>none
end Go.Oc

namespace Go.Oc
open Go Go.RowKit
section
variable {P:Program}
theorem zNA:∀ {L:List CS}{t:CS},t∈L→(Exit.normal,t)∈norm L
 | [],_,h=>by simp at h
 | x::l, t, h=>by
   rcases List.mem_cons.1 h with rfl|h
   ·simp [norm]
   ·simp [norm,zNA h]
theorem zQy {id:Nat}:∀ {L:Outs}{e:Exit}{t:CS},(e,t)∈L→(leave id e,t)∈blk id L
 | [],_,_,h=>by simp at h
 | (e', t')::l, e, t, h=>by
   rcases List.mem_cons.1 h with h|h
   ·injection h with h1 h2;subst h1 h2;simp [blk]
   ·simp [blk,zQy h]
theorem zM7:∀ (xs:List AV) (k t:Nat),look (argA k xs) (k+t)=nth xs t
 | [],_,_=>by simp [argA,look_nil,nth]
 | x::xs,k,0=>by simp [argA,zAZ,nth]
 | x::xs, k, t+1=>by
   have:=zM7 xs (k+1) t
   rw[show k+1+t=k+(t+1) from by omega] at this
   simp only[argA,zAZ,nth,this];rw[if_neg (by omega)]
theorem zTU:∀ (xs:List RV) (k:Nat),argL k xs=argA k (xs.map .r)
 | [],_=>rfl
 | x::xs,k=>by simp only[argL,argA,List.map_cons,zTU xs]
theorem zJs:∀ (L:List (Nat × RowC)) (k:Nat),rowAt (rowsOf L) k=⟨0,zAG L k⟩
 | [],_=>rfl
 | (j, c)::L, k=>by
   simp only[rowsOf,rowAt,zlc,zJs L k]
   split<;>rfl
theorem zMl {n:Nat}{xs:List AV}{L:List (Nat × RowC)}:(CS.mk n xs (rowsOf L)).as=st n (argA 0 xs) (fun _=>0) L:=by
 simp only[CS.as,st,AS.mk.injEq,true_and]
 refine⟨?_,funext fun k=>zJs L k⟩
 funext t
 have:=zM7 xs 0 t
 rw[Nat.zero_add] at this
 exact this.symm
theorem zJf {n:Nat}{xs:List RV}:(CS.mk n (xs.map .r) []).as=st n (argL 0 xs) (fun _=>0) []:=by
 rw[zTU]
 exact zMl (L:=[])
theorem zIM {L':List (Nat × RowC)}{ver:Nat→Nat}{ρ:List (Nat × Nat)}:∀ (l:List (Nat × Nat)) (s:CS),(zFh s L' ver ρ l).as={ s.as with rows:=zAt ρ ver L' l s.as.rows }
 | [],s=>rfl
 | (pk, ck)::l, s=>by
   simp only[zFh,zIM l,zK8,zAt]
   rfl
theorem zGq {L':List (Nat × RowC)}{ver:Nat→Nat}{ρ:List (Nat × Nat)}:∀ (l:List (Nat × Nat)) (s:CS),(zFh s L' ver ρ l).n=s.n
 | [],s=>rfl
 | (pk,ck)::l,s=>by simp only[zFh,zGq l];rfl
theorem zEf:∀ (l:List Oper) (s:CS),Sub s.as (zFm l s).as∧(zFm l s).n=s.n
 | [],s=>⟨Sub.refl _,rfl⟩
 | o::l, s=>by
   unfold zFm
   split
   ·rename_i h
    simp only[Bool.and_eq_true,decide_eq_true_eq] at h
    obtain⟨h1,h2⟩:=zEf l (s.row (o.dst.getD 0) ⟨(rowAt s.rows (o.dst.getD 0)).ver+1,.dead⟩)
    refine⟨Sub.trans ?_ h1,h2⟩
    rw[zK8]
    exact zMk s.as (o.dst.getD 0) h.2
   ·exact zEf l s
theorem zQK (D:Bool) (l:List Oper) (s:CS):Sub s.as (zOb D l s).as∧(zOb D l s).n=s.n:=by
 cases D with
 | true=>exact zEf l s
 | false=>exact⟨Sub.refl _,rfl⟩
def Good (P:Program) (ex:Code→CS→Option Outs):Prop:=∀ c t L,codeOk t.n c=true→ex c t=some L→(∀ x∈L,x.2.n=t.n)∧∀ C Q,(∀ x∈L,Q x.1 x.2.as)→awp P C c Q t.as
theorem zNt {ex:Code→CS→Option Outs}(hex:Good P ex) {F:FuncId}{fn:Func}{c:Code}{args:List RV}{r:RV}(hF:P.funcs[F]? = some fn) (hb:fn.body=some c) (hok:zI7 P F=true) (h:zSx P ex fn c args=some r):zAA P F args r:=by
 unfold zI7 at hok
 simp only[hF,hb,Bool.and_eq_true] at hok
 unfold zSx at h
 split at h
 ·rename_i hlen
  split at h
  ·rename_i L hL
   split at h
   ·rename_i rs hrs
    injection h with h
    have hag:=zN5 hrs
    refine zRQ hF hb hok.2 rfl hlen h fun C=>zw (zCH (argL 0 args) fun p hp=>?_) ?_
    ·obtain⟨i,x,rfl,e⟩:=zB4 p hp
     simp only[zRB,Nat.zero_add,e]
    ·have:=((hex c _ L hok.1 hL).2 C (zUI P fn rs) fun x hx=>?_)
     ·rw[zJf] at this
      exact this
     ·have:=hag x hx
      obtain⟨e,t⟩:=x
      cases e<;>exact this
   ·cases h
  ·cases h
 ·cases h
theorem zSu {ex:Code→CS→Option Outs}(hex:Good P ex) {F:FuncId}{fn:Func}{c:Code}{args:List RV}{ty sz m:Nat}{es:List (List RV)}(hF:P.funcs[F]? = some fn) (hb:fn.body=some c) (hok:zI7 P F=true)
 (h:zUU P ex fn c args=some (ty,sz,es,m)):zHO P F args ty sz es m:=by
 unfold zI7 at hok
 simp only[hF,hb,Bool.and_eq_true] at hok
 unfold zUU at h
 split at h
 ·rename_i hlen
  split at h
  ·rename_i rv e t hres hL
   split at h
   ·rename_i he
    split at h
    ·rename_i hp
     split at h
     ·rename_i j n sz1 off m1 hav
      split at h
      ·rename_i n' ty1 sz' es1 hrow
       split at h
       ·rename_i hc
        simp only[Bool.and_eq_true,beq_iff_eq,List.all_eq_true] at hc
        obtain⟨⟨⟨h1,h2⟩,h3⟩,h4⟩:=hc
        subst h1 h2 h3
        injection h with h
        simp only[Prod.mk.injEq] at h
        obtain⟨rfl,rfl,rfl,rfl⟩:=h
        refine zRz rv hF hb hok.2 rfl hres hlen h4 fun C=>?_
        have:=((hex c _ _ hok.1 hL).2 C (zJ6 P rv ty1 sz1 es1 m1) fun x hx=>?_)
        ·rw[zJf] at this
         exact this
        ·simp only[List.mem_singleton] at hx
         subst hx
         have key:resC (resA P t.as rv) fun v=>∃ j n,v = .os j n sz1 0 m1∧t.as.rows j=⟨n,.arr ty1 sz1 es1⟩:=⟨hp,j,n,hav,hrow⟩
         cases e<;>first|exact key|cases he
       ·cases h
      ·cases h
     ·cases h
    ·cases h
   ·cases h
  ·cases h
 ·cases h
theorem zSv {ex:Code→CS→Option Outs}(hex:Good P ex) {F:FuncId}{fn:Func}{c:Code}{L L':List (Nat × RowC)}{args:List AV}{r:AV}(hF:P.funcs[F]? = some fn) (hb:fn.body=some c) (hok:zI7 P F=true)
 (h:zUV P ex fn c L args=some (L',r)):zA6 P F L L' args r:=by
 unfold zI7 at hok
 simp only[hF,hb,Bool.and_eq_true] at hok
 unfold zUV at h
 split at h
 ·rename_i hlen
  simp only[Bool.and_eq_true,decide_eq_true_eq] at hlen
  split at h
  ·rename_i e t hL
   split at h
   ·rename_i he
    split at h
    ·rename_i L1 rs hfin hres
     injection h with h
     simp only[Prod.mk.injEq] at h
     obtain⟨rfl,rfl⟩:=h
     refine zAd (rs:=rs) L L1 fn.results.toList hF hb hok.2 rfl rfl hlen.1 rfl hlen.2 fun C=>?_
     have:=((hex c _ _ hok.1 hL).2 C (zHv P fn.results.toList rs L L1) fun x hx=>?_)
     ·rw[zMl] at this
      exact this
     ·simp only[List.mem_singleton] at hx
      subst hx
      have key:resM P L t.as fn.results.toList rs∧mfin L t.as.rows L L1:=⟨zGm hres,zQb hfin⟩
      cases e<;>first|exact key|cases he
    ·cases h
   ·cases h
  ·cases h
 ·cases h
theorem zSw {fs:List (FuncId × Nat)}(hfs:zHM P fs=true) {ex:Code→CS→Option Outs}(hex:Good P ex):(zUW P fs ex).ok P:=fun D s d f xs t h=>by
 unfold zUW at h
 split at h
 ·cases h
 ·rename_i F cs hcal
  split at h
  ·rename_i m fn hm hF
   have hok:=zLF hfs hm
   split at h
   ·cases h
   ·rename_i c hb
    split at h
    ·rename_i hmode
     simp only[Bool.and_eq_true,beq_iff_eq,Bool.not_eq_true'] at hmode
     split at h
     ·rename_i dd
      split at h
      ·rename_i hsn
       simp only[Bool.and_eq_true,decide_eq_true_eq] at hsn
       split at h
       ·rename_i ty sz es m' hO
        injection h with h;subst h
        refine⟨zDW _ _ _,fun K hK=>.inr ⟨hmode.2,.inr ⟨F,cs,_,ty,sz,es,m',dd,hcal,zCZ _ hsn.1,zAS _,zSu hex hF hb hok hO,rfl,hsn.2,?_⟩⟩⟩
        rw[zGA,zK8] at hK
        exact hK
       ·cases h
      ·cases h
     ·cases h
    ·split at h
     ·rename_i hmode
      simp only[Bool.and_eq_true,beq_iff_eq,Bool.not_eq_true'] at hmode
      dsimp only at h
      split at h
      ·rename_i args L hargs hL
       split at h
       ·rename_i L' r hM
        split at h
        ·rename_i hap
         simp only[Bool.and_eq_true] at hap
         injection h with h;subst h
         refine⟨(zDW _ _ _).trans (zGq _ _),fun K hK=>.inr ⟨hmode.2,.inl ⟨F,cs,_,L,L',args,r,hcal,hargs,zGu hL,hap.1,hap.2,zSv hex hF hb hok hM,?_⟩⟩⟩
         rw[zGA,zIM] at hK
         exact hK
        ·cases h
       ·cases h
      ·cases h
     ·split at h
      ·rename_i hsn
       split at h
       ·rename_i r hA
        split at h
        ·rename_i hfl
         simp only[Bool.or_eq_true] at hfl
         injection h with h;subst h
         refine⟨zDW _ _ _,fun K hK=>.inl ⟨r,.inl ⟨F,cs,_,hcal,zCZ _ hsn,zAS _,zNt hex hF hb hok hA,hfl⟩,?_⟩⟩
         rw[zGA] at hK
         exact hK
        ·cases h
       ·cases h
      ·cases h
  ·cases h
theorem zSt {orc:Orc}(ho:zHS P orc):(zUT orc).ok P:=fun D s d f xs t h=>by
 unfold zUT at h
 split at h
 ·cases h
 ·rename_i F cs hcal
  split at h
  ·rename_i hsn
   split at h
   ·rename_i r hA
    split at h
    ·rename_i hfl
     simp only[Bool.or_eq_true] at hfl
     injection h with h;subst h
     refine⟨zDW _ _ _,fun K hK=>.inl ⟨r,.inl ⟨F,cs,_,hcal,zCZ _ hsn,zAS _,zJ4 ho hA,hfl⟩,?_⟩⟩
     rw[zGA] at hK
     exact hK
    ·cases h
   ·cases h
  ·cases h
theorem zSs {fs:List (FuncId × Nat)}(hfs:zHM P fs=true) {orc:Orc}(ho:zHS P orc) {ex:Code→CS→Option Outs}(hex:Good P ex):(zUS P fs orc ex).ok P:=fun D s d f xs t h=>by
 unfold zUS at h
 split at h
 ·rename_i t' e
  injection h with h;subst h
  exact zSw hfs hex D s d f xs _ e
 ·exact zSt ho D s d f xs t h
theorem zHG {α β:Type}{x:Option (List α)}{f:α→Option (List β)}{zs:List β}(h:zFv x f=some zs) {z:β}(hz:z∈zs):∃ l,x=some l∧∃ a∈l,∃ ys,f a=some ys∧z∈ys:=by
 unfold zFv at h
 split at h
 ·cases h
 ·rename_i l
  refine⟨l,rfl,?_⟩
  induction l generalizing zs with
  | nil=>injection h with h;subst h;simp at hz
  | cons b l ih =>
    unfold zFv.go at h
    split at h
    ·cases h
    ·rename_i ys hys
     split at h
     ·cases h
     ·rename_i ws hws
      injection h with h;subst h
      rcases List.mem_append.1 hz with hz|hz
      ·exact⟨b,by simp,ys,hys,hz⟩
      ·obtain⟨a,ha,y2,h1,h2⟩:=ih hz hws
       exact⟨a,by simp [ha],y2,h1,h2⟩
theorem zFf {call:Caller}(hcall:call.ok P) {D:Bool}{ops:Array Oper}:∀ (l:List Oper) {s:CS}{L:List CS},zCC P call D ops l s=some L→∀ t∈L,t.n=s.n
 | [], s, L, h=>by
   unfold zCC at h
   injection h with h;subst h
   intro t ht
   simp only[List.mem_singleton] at ht;rw[ht]
 | o::l, s, L, h=>by
   have go:zFv (opC P call D o s) (zCC P call D ops l)=some L→∀ t∈L,t.n=s.n:=fun h t ht=>by
    obtain⟨l1,h1,a,ha,ys,h2,h3⟩:=zHG h ht
    rw[zFf hcall l h2 t h3,(zPz hcall h1 (K:=fun _=>True) fun _ _=>trivial).2 a ha]
   have sk:zCC P call D ops l (s.put o.dst (.r .ud))=some L→∀ t∈L,t.n=s.n:=fun h t ht=>by
    rw[zFf hcall l h t ht,zDW]
   unfold zCC at h
   split at h
   ·exact go h
   ·split at h
    ·exact sk h
    ·split at h
     ·split at h
      ·exact go h
      ·exact sk h
     ·exact sk h
     ·cases h
theorem zKB:∀ {L:List CS}{x:Exit × CS},x∈norm L→x.1 = .normal∧x.2∈L
 | [],_,h=>by simp [norm] at h
 | t::l, x, h=>by
   simp only[norm,List.mem_cons] at h
   rcases h with rfl|h
   ·exact⟨rfl,by simp⟩
   ·have:=zKB h
    exact⟨this.1,by simp [this.2]⟩
theorem zNw {id:Nat}:∀ {L:Outs}{x:Exit × CS},x∈blk id L→∃ e,(e,x.2)∈L
 | [],_,h=>by simp [blk] at h
 | (e', t')::l, x, h=>by
   simp only[blk,List.mem_cons] at h
   rcases h with rfl|h
   ·exact⟨e',by simp⟩
   ·obtain⟨e,he⟩:=zNw h
    exact⟨e,by simp [he]⟩
theorem zNM {ops:Array Oper}{s:CS}:∀ l:List Oper,zAO (zQL ops s l) s.as
 | []=>fun p hp=>by simp [zQL] at hp
 | o::l=>fun p hp=>by
   simp only[zQL,List.mem_append,List.mem_map] at hp
   rcases hp with⟨t,_,rfl⟩|hp
   ·rfl
   ·exact zNM l p hp
theorem zUN (hm:P.follows .mixedOrders=true) {fs:List (FuncId × Nat)}(hfs:zHM P fs=true) {orc:Orc}(ho:zHS P orc):∀ k,Good P (exec P fs orc k):=by
 intro k
 induction k using Nat.strongRecOn with
 | _ k ih =>
   cases k with
   | zero=>intro c t L _ h;cases c<;>simp [exec] at h
   | succ k =>
     intro c t L hok h
     cases c with
     | skip=>simp only[exec,Option.some.injEq] at h;subst h;exact⟨by simp,fun C Q hQ=>zx (hQ _ (List.mem_singleton.2 rfl))⟩
     | label l=>simp only[exec,Option.some.injEq] at h;subst h;exact⟨by simp,fun C Q hQ=>zQ2 (hQ _ (List.mem_singleton.2 rfl))⟩
     | exit id=>simp only[exec,Option.some.injEq] at h;subst h;exact⟨by simp,fun C Q hQ=>zf (hQ _ (List.mem_singleton.2 rfl))⟩
     | ret=>simp only[exec,Option.some.injEq] at h;subst h;exact⟨by simp,fun C Q hQ=>ze (hQ _ (List.mem_singleton.2 rfl))⟩
     | region id ops D =>
       simp only[codeOk] at hok
       simp only[exec] at h
       split at h
       ·rename_i hdr
        split at h
        ·rename_i L' hL
         injection h with h;subst h
         have hcall:=zSs hfs ho (ih k (Nat.lt_succ_self k))
         have hk:=zQK D ops.toList t
         refine⟨fun x hx=>(zFf hcall _ hL _ (zKB hx).2).trans hk.2,fun C Q hQ=>zw hk.1 ?_⟩
         have:=zGk hcall (K:=Q .normal) _ hL fun t ht _=>hQ _ (zNA ht)
         have hd:zA9 ops.toList.toArray (zOb D ops.toList t).as.n=true:=by rw[show (zOb D ops.toList t).as.n=t.n from hk.2];exact hok
         cases D with
         | false=>exact zIK (l:=ops.toList) hd this
         | true =>
           simp only[zTR,Bool.not_true,Bool.false_or,Bool.or_eq_true] at hdr
           rcases hdr with hlex|hlex
           ·exact zN0 (l:=ops.toList) hm hlex hd this
           ·exact zK7 (l:=ops.toList) hm hlex hd (zNM _) this
        ·cases h
       ·cases h
     | seq a b =>
       simp only[codeOk,Bool.and_eq_true] at hok
       simp only[exec] at h
       obtain⟨l1,h1,h2⟩:=zFu h
       have ga:=ih k (Nat.lt_succ_self k) a t l1 hok.1 h1
       refine⟨fun x hx=>?_,fun C Q hQ=>?_⟩
       ·obtain⟨l1',h1',y,hy,ys,h3,h4⟩:=zHG h hx
        rw[h1] at h1';injection h1' with h1';subst h1'
        have hn:=ga.1 y hy
        obtain⟨e,u⟩:=y
        cases e<;>first
         | (have:=(ih k (Nat.lt_succ_self k) b u ys (by rw[hn];exact hok.2) h3).1 x h4;rw[this];exact hn)
         | (simp only[Option.some.injEq] at h3;subst h3;simp only[List.mem_singleton] at h4;rw[h4];exact hn)
       ·refine zq (ga.2 C _ fun x hx=>?_)
        obtain⟨ys,h3,h4⟩:=h2 x hx
        have hn:=ga.1 x hx
        obtain⟨e,u⟩:=x
        cases e<;>first
         | exact (ih k (Nat.lt_succ_self k) b u ys (by rw[hn];exact hok.2) h3).2 C Q fun x hx=>hQ x (h4 x hx)
         | (simp only[Option.some.injEq] at h3;subst h3;exact hQ _ (h4 _ (by simp)))
     | cond c a b =>
       simp only[codeOk,Bool.and_eq_true] at hok
       simp only[exec] at h
       split at h
       ·rename_i tt hc
        cases tt with
        | true =>
          have g:=ih k (Nat.lt_succ_self k) a t L hok.1 h
          exact⟨g.1,fun C Q hQ=>zc hc (fun _=>g.2 C Q hQ) (fun e=>by cases e)⟩
        | false =>
          have g:=ih k (Nat.lt_succ_self k) b t L hok.2 h
          exact⟨g.1,fun C Q hQ=>zc hc (fun e=>by cases e) (fun _=>g.2 C Q hQ)⟩
       ·cases h
     | block id c =>
       simp only[codeOk] at hok
       simp only[exec] at h
       split at h
       ·rename_i L' hL
        injection h with h;subst h
        have g:=ih k (Nat.lt_succ_self k) c t L' hok hL
        refine⟨fun x hx=>?_,fun C Q hQ=>?_⟩
        ·obtain⟨e,he⟩:=zNw hx
         exact g.1 (e,x.2) he
        ·refine zd (g.2 C _ fun x hx=>?_)
         obtain⟨e,u⟩:=x
         have:=hQ _ (zQy hx)
         cases e with
         | exit id' =>
           simp only[leave] at this
           simp only[zOg]
           split<;>rename_i e<;>simp only[e,if_true,if_false] at this<;>exact this
         | _=>exact this
       ·cases h
     | loop c =>
       simp only[codeOk] at hok
       have num:∀ j,j≤k+1→∀ (u:CS) (L':Outs),u.n=t.n→exec P fs orc j (.loop c) u=some L'→∀ x∈L',x.2.n=t.n:=by
        intro j
        induction j with
        | zero=>intro _ u L' _ hL;simp [exec] at hL
        | succ j ihj =>
          intro hj u L' hu hL x hx
          simp only[exec] at hL
          obtain⟨l1,h1,y,hy,ys,h3,h4⟩:=zHG hL hx
          have hn:=(ih j (by omega) c u l1 (by rw[hu];exact hok) h1).1 y hy
          obtain⟨e,v⟩:=y
          cases e<;>first
           | exact ihj (by omega) v ys (by rw[← hu];exact hn) h3 x h4
           | (simp only[Option.some.injEq] at h3;subst h3;simp only[List.mem_singleton] at h4;rw[h4,← hu];exact hn)
       refine⟨num (k+1) (Nat.le_refl _) t L rfl h,fun C Q hQ=>?_⟩
       refine zFQ (fun j s=>j≤k+1∧∃ u L',s=u.as∧u.n=t.n∧exec P fs orc j (.loop c) u=some L'∧∀ x∈L',Q x.1 x.2.as) (k+1) ⟨Nat.le_refl _,t,L,rfl,rfl,h,hQ⟩ ?_
       rintro j s ⟨hj,u,L',rfl,hu,hL,hQ'⟩
       cases j with
       | zero=>simp [exec] at hL
       | succ j =>
         simp only[exec] at hL
         obtain⟨l1,h1,h2⟩:=zFu hL
         have g:=ih j (by omega) c u l1 (by rw[hu];exact hok) h1
         refine g.2 C _ fun x hx=>?_
         obtain⟨ys,h3,h4⟩:=h2 x hx
         have hn:=g.1 x hx
         obtain⟨e,v⟩:=x
         cases e<;>first
          | exact⟨j,Nat.lt_succ_self j,by omega,v,ys,rfl,by rw[← hu];exact hn,h3,fun x hx=>hQ' x (h4 x hx)⟩
          | (simp only[Option.some.injEq] at h3;subst h3;exact hQ' _ (h4 _ (by simp)))
     | _=>simp [exec] at h
theorem zBe (hm:P.follows .mixedOrders=true) {fs:List (FuncId × Nat)}(hfs:zHM P fs=true) {orc:Orc}(ho:zHS P orc) {k:Nat}{F:FuncId}{args:List RV}{r:RV}(hF:zI7 P F=true) (h:zVE P fs orc k F args=some r):zAA P F args r:=by
 unfold zVE at h
 split at h
 ·rename_i fn hf
  split at h
  ·rename_i c hb
   exact zNt (zUN hm hfs ho k) hf hb hF h
  ·cases h
 ·cases h
end
end Go.Oc

namespace Go.Proofs.YtgfbenanljjgaaaGreat.Du.Th.Ai
open Go Go.Oc
set_option maxRecDepth 8000
def fewA (g:Int) (bs:List Int) (st:Nat):List Int:=if bs=[] then 0::List.replicate st (-1) else fewO g bs st
theorem zSk (g:Int) (bs:List Int) (st:Nat):(fewA g bs st).length=st+1:=by
 unfold fewA
 split
 ·simp
 ·exact zFr g bs st
theorem zSj {g:Int}{bs:List Int}(hB:∀ b∈bs,zAb b=true) {st s:Nat}(h1:1≤s) (h2:s≤st) (h:(fewA g bs st).getD s 0<0):∀ M,endB g bs M s=false:=fun M=>by
 unfold fewA at h
 split at h
 ·rename_i e
  subst e
  cases M with
  | zero=>unfold endB;rw[beq_eq_false_iff_ne];omega
  | succ M =>
    unfold endB
    have:zAJ g (s:Int) []=[]:=rfl
    rw[this]
    simp
    omega
 ·rw[zMA h2] at h
  cases hM:endB g bs M s
  ·rfl
  ·have:=((zNb hB s s (Nat.le_refl _) M).1 hM).1
   omega
def ktL:List Am:=[⟨320,[⟨120,4,6⟩,⟨205,0,1⟩,⟨301,1,2⟩,⟨320,2,4⟩]⟩]
theorem zU6:zAA Tryz.prog 66 [.ag [i64 10,.sl 2 [[i64 320,.sl 3 [[i64 120,i64 4,i64 6],[i64 205,i64 0,i64 1],[i64 301,i64 1,i64 2],[i64 320,i64 2,i64 4]]]]]] (.tu [.sl 2 [[i64 236,i64 343]],i64 0]):=by
 have h:=zTF 10 ktL ⟨by unfold I64;omega,fun a ha=>by
  simp only[ktL,List.mem_singleton] at ha
  subst ha
  refine⟨by show I64 320;unfold I64;omega,fun c hc=>?_⟩
  simp only[List.mem_cons,List.not_mem_nil,or_false] at hc
  rcases hc with rfl|rfl|rfl|rfl<;>(refine⟨?_,?_,?_⟩<;>(unfold I64;simp only;omega))⟩
 have e1:zAe 10 ktL=0:=by decide +kernel
 have e2:zJh 10 ktL=[⟨236,343⟩]:=by decide +kernel
 rw[e1,e2] at h
 exact h
def fsT:List (FuncId × Nat):=[(44,0),(30,0)]
theorem zU9:zHM Tryz.prog fsT=true:=by kernel_rfl
def tOrc:Orc:=[(66,[.ag [i64 10,.sl 2 [[i64 320,.sl 3 [[i64 120,i64 4,i64 6],[i64 205,i64 0,i64 1],[i64 301,i64 1,i64 2],[i64 320,i64 2,i64 4]]]]]],.tu [.sl 2 [[i64 236,i64 343]],i64 0])]
theorem zTf:zHS Tryz.prog tOrc:=⟨zU6,trivial⟩
theorem zIy:zAA Tryz.prog 44 [] (.bo true):=zBe follows zU9 zTf (k:=200) (by kernel_rfl) (by kernel_rfl)
theorem zIo (r:Rk) (T:List Int) (i:Nat):∀ m,∃ l,nevL r T (i+m)=nevL r T i++l∧∀ y∈l,lowG r.out+(i:Int)≤y
 | 0=>⟨[],by simp,by simp⟩
 | m+1=>by
   obtain⟨l,hl,hy⟩:=zIo r T i m
   rw[← Nat.add_assoc,zDv]
   split
   ·refine⟨l++[lowG r.out+((i+m:Nat):Int)],by rw[hl,List.append_assoc],fun y h=>?_⟩
    rcases List.mem_append.1 h with h|h
    ·exact hy y h
    ·rw[List.mem_singleton] at h
     omega
   ·exact⟨l,hl,hy⟩
theorem zT1 {r:Rk}{T:List Int}{i n:Nat}(hi:i<n) (h:T.getD ((lowG r.out).toNat+i) 0=2000000000):(nevL r T n)[(nevL r T i).length]? = some (lowG r.out+(i:Int)):=by
 obtain⟨l,hl,_⟩:=zIo r T (i+1) (n-(i+1))
 rw[show i+1+(n-(i+1))=n by omega,zDv,if_pos h] at hl
 rw[hl,List.append_assoc,List.getElem?_append_right (Nat.le_refl _),Nat.sub_self]
 rfl
theorem zR9 {r:Rk}{T:List Int}{i n:Nat}(hi:i<n) (h:¬ T.getD ((lowG r.out).toNat+i) 0=2000000000) {y:Int}(hy:(nevL r T n)[(nevL r T i).length]? = some y):lowG r.out+(i:Int)<y:=by
 obtain⟨l,hl,hg⟩:=zIo r T (i+1) (n-(i+1))
 rw[show i+1+(n-(i+1))=n by omega,zDv,if_neg h] at hl
 rw[hl,List.getElem?_append_right (Nat.le_refl _),Nat.sub_self] at hy
 have:=hg y (List.mem_of_getElem? hy)
 omega
theorem zP5 {l:List Am}{st g:Nat}(hcv:zAe 20 l=0) (hb:∀ a∈l,∀ c∈a.beds,∃ j,j<13∧c.b=armB.getD j 0) (hs:2≤st∧st≤7) (hg:g<3) :
 zBH ⟨20,l,st,g⟩=0∧ROk ⟨20,l,st,g⟩∧(∀ a∈l,∀ c∈a.beds,0≤c.b∧c.b≤499)∧(bsA 20 l≠[]→BdsO (bsA 20 l)) ∧
  ∀ s:Nat,lowG (g:Int)≤s→s≤st→(fewA g (bsA 20 l) st).getD s 0<0→(tabT ⟨20,l,st,g⟩ false).getD s 0=2000000000∧(tabT ⟨20,l,st,g⟩ true).getD s 0=1000000000:=by
 have hck:zBH ⟨20,l,st,g⟩=0:=by
  unfold zBH
  rw[if_pos hcv,if_pos ⟨⟨by show (2:Int)≤(st:Int);omega,by show (st:Int)≤60;omega⟩,by show (0:Int)≤(g:Int);omega,by show (g:Int)≤2;omega⟩]
 have hr:=(zDb hck).2
 have hb2:∀ a∈l,∀ c∈a.beds,0≤c.b∧c.b≤499:=fun a ha c hc=>by
  obtain⟨j,j1,j2⟩:=hb a ha c hc
  have:∀ j,j<13→0≤armB.getD j 0∧armB.getD j 0≤499:=by decide
  rw[j2];exact this j j1
 have hbd:=zVL (d:=20) hb
 refine⟨hck,hr,hb2,hbd,fun s h1 h2 h3=>?_⟩
 have hlg:=zBW (g:Int)
 have hB:∀ b∈bsA 20 l,zAb b=true:=fun b hbm=>by
  by_cases hn:bsA 20 l=[]
  ·rw[hn] at hbm;cases hbm
  ·exact ((hbd hn).bed b hbm).1
 have hall:AllB ⟨20,l,st,g⟩ (bsA 20 l):=zUX hb2
 exact zR8 hr hB hall s h1 (by show (s:Int)≤(st:Int);omega) (zSj hB (by omega) h2 h3)
set_option maxHeartbeats 4000000
abbrev u8L (ch:List Nat):RV:=.sl 1 (ch.map fun n:Nat=>[.it .u8 (n:Int)])
abbrev u16L (W:List Int):RV:=.sl 1 (W.map fun x=>[.it .u16 x])
theorem zO6 (ch:List Nat) (hC:∀ x∈ch,x<256) (n:Nat) (hn:n≤1000):zAA Tryz.prog 74 [u8L ch,i64 (n:Int)] (i64 (zDd ch n)):=by
 refine zas (rs:=[i64 (zDd ch n)]) [.tmp 4] Tryz.func74 rfl (by kernel_rfl) Tryz.ntmps74 rfl (by simp) rfl fun C vs=>?_
 repeat apply zq
 refine zb fun K hK=>?_;simp only[go_sem];(try simp (disch:=omega) only[zI]);repeat first|intro _|refine⟨by omega,?_⟩
 apply hK;apply zw (zk [0,1]);simp only[go_sem]
 by_cases h:ch.length=0
 ·have d1:((ch.length:Int) == 0)=true:=by rw[beq_iff_eq];omega
  repeat apply zq
  refine zb fun K hK=>?_;simp only[go_sem,d1,List.length_map];(try simp (disch:=omega) only[zI]);repeat first|intro _|refine⟨by omega,?_⟩
  apply hK;apply zw (zk [0,1,7]);simp only[go_sem]
  repeat apply zq
  apply zc rfl<;>intro hc<;>(try simp only[go_sem] at hc)
  repeat apply zq
  refine zb fun K hK=>?_;simp only[go_sem];(try simp (disch:=omega) only[zI]);repeat first|intro _|refine⟨by omega,?_⟩
  apply hK;apply zw (zk [4]);simp only[go_sem];apply ze;simp only[go_sem]
  unfold zDd
  rw[if_pos h]
 ·have d1:((ch.length:Int) == 0)=false:=by rw[beq_eq_false_iff_ne];omega
  have hml:=Nat.mod_lt n (show ch.length > 0 by omega)
  have hm:Int.tmod (n:Int) (ch.length:Int)=((n % ch.length:Nat):Int):=rfl
  obtain⟨x,hx⟩:=zol hml
  have hx2:=hC x (zmo hx)
  have hb:zDd ch n=(x:Int):=by
   unfold zDd
   rw[if_neg h,List.getD_eq_getElem?_getD,hx];rfl
  have wx:IntKind.i64.wrap (x:Int)=x:=by rw[zI]<;>omega
  rw[hb]
  generalize n % ch.length=m at *
  repeat apply zq
  refine zb fun K hK=>?_;simp only[go_sem,d1,List.length_map];(try simp (disch:=omega) only[zI]);repeat first|intro _|refine⟨by omega,?_⟩
  apply hK;apply zw (zk [0,1,7]);simp only[go_sem]
  repeat apply zq
  apply zc rfl<;>intro hc<;>(try simp only[go_sem] at hc)
  apply zx
  try simp only[go_sem]
  repeat apply zq
  refine zb fun K hK=>?_;simp only[go_sem,hm,hx,hml,wx,List.length_map];(try simp (disch:=omega) only[zI]);repeat first|intro _|refine⟨by omega,?_⟩
  repeat first|intro _|refine⟨by omega,?_⟩
  apply hK;apply zw (zk [4]);simp only[go_sem];apply ze;simp only[go_sem]
theorem zLt (C:List Nat) (bits:Int) (n:Nat):∀ k,(zAu C bits n k).n≤n+2*k
 | 0=>Nat.le_refl _
 | k+1=>by
   have ih:=zLt C bits n k
   show (zC5 C bits k (zAu C bits n k)).n≤_
   unfold zC5
   split
   ·simp only;omega
   ·omega
theorem zH6 (C:List Nat) (bits:Int) (n k:Nat) (h:¬ (zAu C bits n k).beds.length<5):∀ m,zAu C bits n (k+m)=zAu C bits n k
 | 0=>rfl
 | m+1=>by
   show zC5 C bits (k+m) (zAu C bits n (k+m))=_
   rw[zH6 C bits n k h m]
   unfold zC5
   rw[if_neg fun h'=>h h'.1]
theorem zTW (W:List Int) (C:List Nat):∀ i,(zAv W C i).2≤26*i
 | 0=>Nat.le_refl _
 | i+1=>by
   have ih:=zTW W C i
   have h:=zLt C (zB0 W i) (zAv W C i).2 13
   unfold zAv
   simp only
   generalize (zAu C (zB0 W i) (zAv W C i).2 13).n=q at *
   omega
set_option maxHeartbeats 8000000
theorem zRA (W:List Int) (hW:∀ x∈W,0≤x∧x≤65535) (ch:List Nat) (hCh:∀ x∈ch,x<256) :
 zAA Tryz.prog 42 [u16L W,u8L ch,i64 3] (lawV 20 (lawA W ch 3)):=by
 have hlb:=zOa
 have hby:=fun n hn=>zO6 ch hCh n hn
 obtain⟨N,hN⟩:∃ N,N=cntW W 3:=⟨_,rfl⟩
 have hN3:1≤N∧N≤3:=by rw[hN];unfold cntW;split<;>omega
 have hlw:lawA W ch 3=(zAv W ch N).1:=by rw[hN];rfl
 rw[hlw]
 refine zAx (rs:=[lawV 20 (zAv W ch N).1]) [.cell 6 24] Tryz.func42 rfl (by kernel_rfl) Tryz.ntmps42 rfl (by simp) rfl fun C hC vs=>?_
 apply zq
 refine zb fun K hK=>?_;simp only[go_sem];apply hK;apply zw (zk [0,1,2,6]);simp only[go_sem]
 apply zq
 refine zb fun K hK=>?_;simp only[go_sem]
 refine zh (hlb) rfl (by simp only[go_sem,i64,ints]) (by simp only[go_sem,i64,ints]) ?_
 (try simp only[go_sem]);apply hK;apply zw (zk [0,1,2,6,7,8,9]);simp only[go_sem];refine zw (zCG 7 1 134 93 2 (by omega) (by omega) rfl (by simp only[go_sem,List.getElem?_cons_succ,List.getElem?_cons_zero])) ?_
 try simp only[go_sem]
 repeat apply zq
 refine zb fun K hK=>?_;simp only[go_sem];apply hK;apply zw (zk [0,1,2,6,7,8,9,10]);simp only[go_sem];apply zd
 refine zuv (n:=137) N (fun i vs=>[(0,.r (u16L W)),(1,.r (u8L ch)),(2,.r (i64 3)),(6,.pt 6 (vs 6) 0),(7,.pt 7 (vs 7) 0),(8,.r (ints armB)),(9,.r (i64 ((zAv W ch i).2:Int))),(10,.r (i64 (i:Int)))])
  (fun i vs=>[(6,.box [.r (i64 0),.r .ns]),(7,.box [.r (i64 20),.os 134 (vs 134) 2 0 i]),(134,.arr 93 2 ((zAv W ch i).1.map aimR))]) (fun _=>True) 0 (zj [] ?_ ?_) (Nat.zero_le _) trivial ?_
 ·try simp only[go_sem]
  try rfl
 ·try simp only[go_sem]
  try rfl
 intro i vs hi _
 by_cases hiN:i<N
 rotate_left
 ·have hie:i=N:=by omega
  subst hie
  have hal:=zGV W ch i
  repeat apply zq
  refine zaw (n:=137) (fun (_:Unit) vs=>[(6,.pt 6 (vs 6) 0),(7,.pt 7 (vs 7) 0),(31,.r (.bo false))])
   (fun _ vs=>[(6,.box [.r (i64 0),.r .ns]),(7,.box [.r (i64 20),.os 134 (vs 134) 2 0 i]),(134,.arr 93 2 ((zAv W ch i).1.map aimR))]) (fun _=>True) (fun _ h=>h) ?_ ?_
  ·have c1:((i:Int) == 0)=false:=by rw[beq_eq_false_iff_ne];omega
   by_cases hiw:i<W.length
   ·have c2:decide ((i:Int)<(W.length:Int))=true:=decide_eq_true (by omega)
    have c3:decide ((i:Int)<3)=false:=decide_eq_false (by
     have q:=hN
     unfold cntW at q
     split at q<;>omega)
    refine zb fun K hK=>?_;simp only[go_sem,c1,c2,c3,hiw,List.length_map]
    (try intros)
    apply hK
    refine⟨(),trivial,zj [] ?_ ?_⟩
    ·try simp only[go_sem]
    ·try simp only[go_sem]
   ·have c2:decide ((i:Int)<(W.length:Int))=false:=decide_eq_false (by omega)
    refine zb fun K hK=>?_;simp only[go_sem,c1,c2,hiw,List.length_map]
    (try intros)
    apply hK
    refine⟨(),trivial,zj [] ?_ ?_⟩
    ·try simp only[go_sem]
    ·try simp only[go_sem]
  intro _ vs _
  apply zc rfl<;>intro hc<;>(try simp only[go_sem] at hc)
  apply zf;simp only[go_sem]
  have htk2:((zAv W ch i).1.map aimR).take i=(zAv W ch i).1.map aimR:=List.take_of_length_le (by rw[List.length_map];omega)
  refine zw (zED 7 1 134 (ty:=93) (sz:=2) (off:=0) (m:=i) (es:=(zAv W ch i).1.map aimR) (by omega) (by omega) rfl (by simp only[go_sem,List.getElem?_cons_succ,List.getElem?_cons_zero]) (by rfl) (by rw[List.length_map];omega)) ?_;simp only[go_sem,List.drop_zero,htk2,List.set_cons_succ,List.set_cons_zero];refine zw (zfP 7 7 [i64 20,zAl (zAv W ch i).1] (by omega) (by try simp only[go_sem]) (by try simp only[go_sem])) ?_;apply zw (zk [6,7]);simp only[go_sem]
  apply zq
  refine zb fun K hK=>?_;simp only[go_sem];apply hK;apply zw (zk [6]);simp only[go_sem];apply ze;simp only[go_sem]
  try simp
  try exact zEX _
 have hnA:(zAv W ch (i+1)).2=(zAu ch (zB0 W i) (zAv W ch i).2 13).n:=by simp only[zAv]
 have hlA:(zAv W ch (i+1)).1=(zAv W ch i).1++[⟨armB.getD (7+i % 3) 0,fixA (zAu ch (zB0 W i) (zAv W ch i).2 13)⟩]:=by simp only[zAv,aimA]
 rw[hnA,hlA]
 have hn0:=zTW W ch i
 have hal:=zGV W ch i
 have hit:=fun k (hk:k≤13)=>zI0 hCh (zB0 W i) (zAv W ch i).2 k hk
 have hitn:=fun k=>zLt ch (zB0 W i) (zAv W ch i).2 k
 have hfull:=zH6 ch (zB0 W i) (zAv W ch i).2
 have hne:(zAu ch (zB0 W i) (zAv W ch i).2 13).beds≠[]:=by
  refine zNN ch (zB0 W i) (zAv W ch i).2 (7+i % 3) (by omega) ?_
  unfold zB0
  split
  ·rename_i hlt
   refine zQz ?_ (by omega)
   rw[List.getD_eq_getElem?_getD,List.getElem?_eq_getElem hlt]
   exact hW _ (List.getElem_mem hlt)
  ·have h0:i=0:=by
    rw[hN] at hiN
    unfold cntW at hiN
    split at hiN<;>omega
   subst h0
   exact zNx
 have hiC:=fun k=>show zAu ch (zB0 W i) (zAv W ch i).2 (k+1)=zC5 ch (zB0 W i) k (zAu ch (zB0 W i) (zAv W ch i).2 k) from rfl
 have hi0:zAu ch (zB0 W i) (zAv W ch i).2 0=⟨[],0,0,(zAv W ch i).2⟩:=rfl
 have wi:IntKind.i64.wrap ((i:Int)+1)=(i:Int)+1:=by rw[zI]<;>omega
 repeat apply zq
 refine zaw (n:=137) (fun (_:Unit) vs=>[(0,.r (u16L W)),(1,.r (u8L ch)),(2,.r (i64 3)),(6,.pt 6 (vs 6) 0),(7,.pt 7 (vs 7) 0),(8,.r (ints armB)),(9,.r (i64 ((zAv W ch i).2:Int))),(10,.r (i64 (i:Int))),(31,.r (.bo true))])
  (fun _ vs=>[(6,.box [.r (i64 0),.r .ns]),(7,.box [.r (i64 20),.os 134 (vs 134) 2 0 i]),(134,.arr 93 2 ((zAv W ch i).1.map aimR))]) (fun _=>True) (fun _ h=>h) ?_ ?_
 ·by_cases hi00:i=0
  ·have c1:((i:Int) == 0)=true:=by rw[beq_iff_eq];omega
   refine zb fun K hK=>?_;simp only[go_sem,c1,List.length_map]
   (try intros)
   apply hK
   refine⟨(),trivial,zj [] ?_ ?_⟩
   ·try simp only[go_sem]
   ·try simp only[go_sem]
  ·have c1:((i:Int) == 0)=false:=by rw[beq_eq_false_iff_ne];omega
   have hiw:i<W.length:=by
    rw[hN] at hiN
    unfold cntW at hiN
    split at hiN<;>omega
   have c2:decide ((i:Int)<(W.length:Int))=true:=decide_eq_true (by omega)
   have c3:decide ((i:Int)<3)=true:=decide_eq_true (by omega)
   refine zb fun K hK=>?_;simp only[go_sem,c1,c2,c3,hiw,List.length_map]
   (try intros)
   apply hK
   refine⟨(),trivial,zj [] ?_ ?_⟩
   ·try simp only[go_sem]
   ·try simp only[go_sem]
 intro _ vs _
 apply zc rfl<;>intro hc<;>(try simp only[go_sem] at hc)
 apply zx
 try simp only[go_sem]
 apply zq
 apply zd
 apply zq
 refine zb fun K hK=>?_;simp only[go_sem];apply hK;apply zw (zk [0,1,2,6,7,8,9,10,11]);simp only[go_sem]
 obtain⟨q,hq⟩:∃ q:Bool,decide ((i:Int)<(W.length:Int))=q:=⟨_,rfl⟩
 have hq2:decide (i<W.length)=q:=by
  rw[← hq]
  by_cases e:i<W.length
  ·rw[decide_eq_true e,decide_eq_true (by omega)]
  ·rw[decide_eq_false e,decide_eq_false (by omega)]
 repeat apply zq
 refine zb fun K hK=>?_;simp only[go_sem,hq,hq2,List.length_map]
 (try intros)
 apply hK;apply zw (zk [0,1,2,6,7,8,9,10,11,37]);simp only[go_sem]
 refine zaw (n:=137) (fun (_:Unit) vs=>[(0,.r (u16L W)),(1,.r (u8L ch)),(2,.r (i64 3)),(6,.pt 6 (vs 6) 0),(7,.pt 7 (vs 7) 0),(8,.r (ints armB)),(9,.r (i64 ((zAv W ch i).2:Int))),(10,.r (i64 (i:Int))),(11,.r (i64 (zB0 W i)))])
  (fun _ vs=>[(6,.box [.r (i64 0),.r .ns]),(7,.box [.r (i64 20),.os 134 (vs 134) 2 0 i]),(134,.arr 93 2 ((zAv W ch i).1.map aimR))]) (fun _=>True) (fun _ h=>h) ?_ ?_
 ·cases q
  ·have hiw:¬ i<W.length:=of_decide_eq_false hq2
   have hbt:zB0 W i=128:=by unfold zB0;rw[if_neg hiw]
   rw[hbt]
   apply zc rfl<;>intro hc<;>(try simp only[go_sem] at hc)
   apply zx
   try simp only[go_sem]
   refine⟨(),zj [] ?_ ?_⟩
   ·try simp only[go_sem]
   ·try simp only[go_sem]
  ·have hiw:i<W.length:=of_decide_eq_true hq2
   obtain⟨w,hw⟩:=zol hiw
   have hwb:=hW w (zmo hw)
   have ww:IntKind.i64.wrap w=w:=by rw[zI]<;>omega
   have hm3:=Nat.mod_lt i (show 3 > 0 by omega)
   have tm:Int.tmod (i:Int) 3=((i % 3:Nat):Int):=rfl
   have wu:IntKind.u64.wrap ((i % 3:Nat):Int)=((i % 3:Nat):Int):=by
    have:∀ j:Nat,j<3→IntKind.u64.wrap (j:Int)=(j:Int):=by decide
    exact this _ hm3
   have hbt:zB0 W i=zKz IntKind.i64 w (shlI IntKind.i64 128 ((i % 3:Nat):Int)):=by
    unfold zB0
    rw[if_pos hiw,List.getD_eq_getElem?_getD,hw];rfl
   rw[hbt]
   generalize i % 3=m at *
   apply zc rfl<;>intro hc<;>(try simp only[go_sem] at hc)
   refine zb fun K hK=>?_;simp only[go_sem,hw,hiw,ww,tm,wu,List.length_map];apply hK
   refine⟨(),trivial,zj [] ?_ ?_⟩
   ·try simp only[go_sem]
   ·try simp only[go_sem]
 intro _ vs _
 generalize zB0 W i=bits at *
 generalize hn0e:(zAv W ch i).2=n0 at *
 generalize hLA:(zAv W ch i).1=LA at *
 have hm3:=Nat.mod_lt i (show 3 > 0 by omega)
 have tm:Int.tmod (i:Int) 3=((i % 3:Nat):Int):=rfl
 have h13:armB.length=13:=rfl
 have w7:IntKind.i64.wrap (7+((i % 3:Nat):Int))=((7+i % 3:Nat):Int):=by rw[zI]<;>omega
 obtain⟨at_,hat⟩:=zol (show 7+i % 3<armB.length by omega)
 have hag:armB.getD (7+i % 3) 0=at_:=by rw[List.getD_eq_getElem?_getD,hat];rfl
 have h7l:7+i % 3<armB.length:=by omega
 rw[hag]
 generalize 7+i % 3=m7 at *
 apply zq
 refine zb fun K hK=>?_;simp only[go_sem,tm,w7,hat,h7l,List.length_map];apply hK;apply zw (zk [0,1,2,6,7,8,9,10,11,12,13,14]);simp only[go_sem];refine zw (zCG 12 1 101 95 3 (by omega) (by omega) rfl (by simp only[go_sem,List.getElem?_cons_succ,List.getElem?_cons_zero])) ?_
 try simp only[go_sem]
 repeat apply zq
 refine zb fun K hK=>?_;simp only[go_sem];apply hK;apply zw (zk [0,1,2,6,7,8,9,10,11,12,13,14,15]);simp only[go_sem]
 refine zaw (n:=137) (fun (_:Unit) vs=>[(0,.r (u16L W)),(1,.r (u8L ch)),(2,.r (i64 3)),(6,.pt 6 (vs 6) 0),(7,.pt 7 (vs 7) 0),(8,.r (ints armB)),(9,.r (i64 ((zAu ch bits n0 13).n:Int))),(10,.r (i64 (i:Int))),(12,.pt 12 (vs 12) 0),(14,.r (i64 (zAu ch bits n0 13).high))])
  (fun _ vs=>[(6,.box [.r (i64 0),.r .ns]),(7,.box [.r (i64 20),.os 134 (vs 134) 2 0 i]),(12,.box [.r (i64 at_),.os 101 (vs 101) 3 0 (zAu ch bits n0 13).beds.length]),(101,.arr 95 3 ((zAu ch bits n0 13).beds.map bedR)),(134,.arr 93 2 (LA.map aimR))]) (fun _=>True) (fun _ h=>h) ?_ ?_
 ·skip
  apply zd
  refine zuv (n:=137) 13 (fun k vs=>[(0,.r (u16L W)),(1,.r (u8L ch)),(2,.r (i64 3)),(6,.pt 6 (vs 6) 0),(7,.pt 7 (vs 7) 0),(8,.r (ints armB)),(9,.r (i64 ((zAu ch bits n0 k).n:Int))),(10,.r (i64 (i:Int))),(11,.r (i64 bits)),(12,.pt 12 (vs 12) 0),(13,.r (i64 (zAu ch bits n0 k).sum)),(14,.r (i64 (zAu ch bits n0 k).high)),(15,.r (i64 (k:Int)))])
   (fun k vs=>[(6,.box [.r (i64 0),.r .ns]),(7,.box [.r (i64 20),.os 134 (vs 134) 2 0 i]),(12,.box [.r (i64 at_),.os 101 (vs 101) 3 0 (zAu ch bits n0 k).beds.length]),(101,.arr 95 3 ((zAu ch bits n0 k).beds.map bedR)),(134,.arr 93 2 (LA.map aimR))]) (fun _=>True) 0 (zj [] ?_ ?_) (Nat.zero_le _) trivial ?_
  ·simp only[hi0]
   try simp only[go_sem]
   try rfl
  ·simp only[hi0]
   try simp only[go_sem]
   try rfl
  intro k vs hk _
  have hI:=hit k hk
  have hnk:=hitn k
  have hfl:=hfull k
  have hst:=hiC k
  by_cases hgo:k<13∧(zAu ch bits n0 k).beds.length<5
  ·obtain⟨hk13,hl5⟩:=hgo
   rw[hst]
   generalize zAu ch bits n0 k=y at *
   have c1:decide ((k:Int)<13)=true:=decide_eq_true (by omega)
   have c2:decide ((y.beds.length:Int)<5)=true:=decide_eq_true (by omega)
   have wk:IntKind.i64.wrap ((k:Int)+1)=(k:Int)+1:=by rw[zI]<;>omega
   repeat apply zq
   refine zb fun K hK=>?_;simp only[go_sem,c1,c2,hk13,hl5,List.length_map]
   (try intros)
   apply hK;apply zw (zk [0,1,2,6,7,8,9,10,11,12,13,14,15,62]);simp only[go_sem]
   apply zc rfl<;>intro hc<;>(try simp only[go_sem] at hc)
   apply zx
   try simp only[go_sem]
   apply zq
   apply zd
   obtain⟨q,hq⟩:∃ q:Bool,bitI bits k=q:=⟨_,rfl⟩
   have hq2:(zF9 IntKind.i64 (shrI IntKind.i64 bits (IntKind.u64.wrap (k:Int))) 1 == 1)=q:=hq
   apply zq
   refine zb fun K hK=>?_;simp only[go_sem,hq2];apply hK;apply zw (zk [0,1,2,6,7,8,9,10,11,12,13,14,15,70]);simp only[go_sem]
   refine zaw (n:=137) (fun (_:Unit) vs=>[(0,.r (u16L W)),(1,.r (u8L ch)),(2,.r (i64 3)),(6,.pt 6 (vs 6) 0),(7,.pt 7 (vs 7) 0),(8,.r (ints armB)),(9,.r (i64 ((zC5 ch bits k y).n:Int))),(10,.r (i64 (i:Int))),(11,.r (i64 bits)),(12,.pt 12 (vs 12) 0),(13,.r (i64 (zC5 ch bits k y).sum)),(14,.r (i64 (zC5 ch bits k y).high)),(15,.r (i64 (k:Int)))])
    (fun _ vs=>[(6,.box [.r (i64 0),.r .ns]),(7,.box [.r (i64 20),.os 134 (vs 134) 2 0 i]),(12,.box [.r (i64 at_),.os 101 (vs 101) 3 0 (zC5 ch bits k y).beds.length]),(101,.arr 95 3 ((zC5 ch bits k y).beds.map bedR)),(134,.arr 93 2 (LA.map aimR))]) (fun _=>True) (fun _ h=>h) ?_ ?_
   ·cases q
    ·have hstp:zC5 ch bits k y=y:=by unfold zC5;rw[if_neg fun h=>by rw[hq] at h;cases h.2]
     rw[hstp]
     apply zc rfl<;>intro hc<;>(try simp only[go_sem] at hc)
     apply zx
     try simp only[go_sem]
     refine⟨(),zj [] ?_ ?_⟩
     ·try simp only[go_sem]
     ·try simp only[go_sem]
    ·obtain⟨bk,hbk⟩:=zol (show k<armB.length by omega)
     have hkl:k<armB.length:=by omega
     have hbg:armB.getD k 0=bk:=by rw[List.getD_eq_getElem?_getD,hbk];rfl
     have hstp:zC5 ch bits k y=⟨y.beds++[⟨bk,loA ch y,hiA ch y⟩],y.sum+loA ch y,y.high+hiA ch y,y.n+2⟩:=by
      unfold zC5
      rw[if_pos ⟨hl5,hq⟩,hbg]
     rw[hstp]
     have b1:=zGR hCh y.n
     have b2:=zGR hCh (y.n+1)
     have hs:=hI.sum
     have hh:=hI.high
     have hF1:=hby y.n (by omega)
     have hF2:=hby (y.n+1) (by omega)
     have t6:Int.tmod (zDd ch y.n) 6=zDd ch y.n % 6:=Int.tmod_eq_emod_of_nonneg b1.1
     have t7:Int.tmod (zDd ch (y.n+1)) 7=zDd ch (y.n+1) % 7:=Int.tmod_eq_emod_of_nonneg b2.1
     have hsp:=zN2 (zDd ch y.n % 6) 0
     have ws:IntKind.i64.wrap (20-y.sum)=20-y.sum:=by rw[zI]<;>omega
     have el:min (zDd ch y.n % 6) (20-y.sum)=loA ch y:=rfl
     have hlo:0≤loA ch y∧loA ch y≤5:=by rw[← el];omega
     have wn:IntKind.i64.wrap ((y.n:Int)+1)=((y.n+1:Nat):Int):=by rw[zI]<;>omega
     have wa:IntKind.i64.wrap (loA ch y+zDd ch (y.n+1) % 7)=loA ch y+zDd ch (y.n+1) % 7:=by rw[zI]<;>omega
     have eh:min 20 (loA ch y+zDd ch (y.n+1) % 7)=hiA ch y:=rfl
     have hhi:0≤hiA ch y∧hiA ch y≤20:=by rw[← eh];omega
     have w13:IntKind.i64.wrap (y.sum+loA ch y)=y.sum+loA ch y:=by rw[zI]<;>omega
     have w14:IntKind.i64.wrap (y.high+hiA ch y)=y.high+hiA ch y:=by rw[zI]<;>omega
     have w9:IntKind.i64.wrap ((y.n:Int)+2)=((y.n+2:Nat):Int):=by rw[zI]<;>omega
     generalize loA ch y=lo at *
     generalize hiA ch y=hi_ at *
     apply zc rfl<;>intro hc<;>(try simp only[go_sem] at hc)
     apply zq
     refine zb fun K hK=>?_;simp only[go_sem,t6]
     refine zh (hF1) rfl (by simp only[go_sem,i64,ints,t6]) (by simp only[go_sem,i64,ints,t6]) ?_
     (try simp only[go_sem,t6])
     refine zh (hsp) rfl (by simp only[go_sem,i64,ints,t6]) (by simp only[go_sem,i64,ints,t6]) ?_
     (try simp only[go_sem,t6]);apply hK;apply zw (zk [0,1,2,6,7,8,9,10,11,12,13,14,15,16]);simp only[go_sem]
     apply zq
     refine zb fun K hK=>?_;simp only[go_sem,ws,el];apply hK;apply zw (zk [0,1,2,6,7,8,9,10,11,12,13,14,15,16]);simp only[go_sem]
     apply zq
     refine zAF [(16,some 16),(1,none),(9,none)] follows (by decide +kernel) (by kernel_rfl) (by simp only[zAO,List.mem_cons,List.not_mem_nil,forall_eq_or_imp,Oc.keyOf,go_sem];simp) fun K hK=>?_
     simp only[go_sem,wn]
     refine zh (hF2) rfl (by simp only[go_sem,i64,ints,t7,wa,eh,wn]) (by simp only[go_sem,i64,ints,t7,wa,eh,wn]) ?_
     (try simp only[go_sem,t7,wa,eh,wn]);apply hK;apply zw (zk [0,1,2,6,7,8,9,10,11,12,13,14,15,16]);simp only[go_sem]
     apply zq
     refine zDQ [(12,some 12),(16,some 16),(8,none),(15,none)] [12] follows (by decide +kernel) (by kernel_rfl) (by simp only[zAO,List.mem_cons,List.not_mem_nil,forall_eq_or_imp,Oc.keyOf,go_sem];simp) (by intro k hk;simp only[List.mem_cons,List.not_mem_nil,or_false] at hk;first|(subst hk;exact⟨_,rfl⟩)|(rcases hk with rfl|rfl<;>exact⟨_,rfl⟩)|(rcases hk with rfl|rfl|rfl<;>exact⟨_,rfl⟩)) fun K hK=>?_
     simp only[go_sem,hbk,hkl,List.length_map]
     refine⟨by omega,?_⟩
     apply hK;apply zw (zk [0,1,2,6,7,8,9,10,11,12,13,14,15,16]);simp only[go_sem]
     refine zAF [(16,some 16)] follows (by decide +kernel) (by kernel_rfl) (by simp only[zAO,List.mem_cons,List.not_mem_nil,forall_eq_or_imp,Oc.keyOf,go_sem];simp) fun K hK=>?_
     simp only[go_sem,w13,w14,w9];apply hK
     first|refine⟨(),trivial,zj [16] ?_ ?_⟩|refine⟨(),zj [16] ?_ ?_⟩
     ·try simp only[go_sem]
      try simp
     ·try simp only[go_sem]
      try simp [bedR]
   intro _ vs _
   refine zb fun K hK=>?_;simp only[go_sem,wk];apply hK
   try simp only[go_sem]
   first|refine⟨hk13,zj [] ?_ ?_⟩|refine zj [] ?_ ?_
   ·try simp only[go_sem]
    try simp
   ·try simp only[go_sem]
  ·have hfin:zAu ch bits n0 13=zAu ch bits n0 k:=by
    by_cases hk13:k<13
    ·have:=hfl (fun h=>hgo ⟨hk13,h⟩) (13-k)
     rw[show k+(13-k)=13 by omega] at this
     exact this
    ·rw[show k=13 by omega]
   rw[hfin]
   generalize zAu ch bits n0 k=y at *
   repeat apply zq
   refine zaw (n:=137) (fun (_:Unit) vs=>[(0,.r (u16L W)),(1,.r (u8L ch)),(2,.r (i64 3)),(6,.pt 6 (vs 6) 0),(7,.pt 7 (vs 7) 0),(8,.r (ints armB)),(9,.r (i64 (y.n:Int))),(10,.r (i64 (i:Int))),(12,.pt 12 (vs 12) 0),(14,.r (i64 y.high)),(62,.r (.bo false))])
    (fun _ vs=>[(6,.box [.r (i64 0),.r .ns]),(7,.box [.r (i64 20),.os 134 (vs 134) 2 0 i]),(12,.box [.r (i64 at_),.os 101 (vs 101) 3 0 y.beds.length]),(101,.arr 95 3 (y.beds.map bedR)),(134,.arr 93 2 (LA.map aimR))]) (fun _=>True) (fun _ h=>h) ?_ ?_
   ·by_cases hk13:k<13
    ·have c1:decide ((k:Int)<13)=true:=decide_eq_true (by omega)
     have c2:decide ((y.beds.length:Int)<5)=false:=decide_eq_false (by omega)
     have c3:¬ y.beds.length<5:=by omega
     refine zb fun K hK=>?_;simp only[go_sem,c1,c2,c3,hk13,List.length_map]
     (try intros)
     apply hK
     refine⟨(),trivial,zj [] ?_ ?_⟩
     ·try simp only[go_sem]
     ·try simp only[go_sem]
    ·have c1:decide ((k:Int)<13)=false:=decide_eq_false (by omega)
     refine zb fun K hK=>?_;simp only[go_sem,c1,hk13,List.length_map]
     (try intros)
     apply hK
     refine⟨(),trivial,zj [] ?_ ?_⟩
     ·try simp only[go_sem]
     ·try simp only[go_sem]
   intro _ vs _
   apply zc rfl<;>intro hc<;>(try simp only[go_sem] at hc)
   apply zf;simp only[go_sem]
   refine⟨(),zj [] ?_ ?_⟩
   ·try simp only[go_sem]
   ·try simp only[go_sem]
 intro _ vs _
 have hI:=hit 13 (Nat.le_refl _)
 generalize zAu ch bits n0 13=y at *
 have hfx:(fixA y).length=y.beds.length:=by
  unfold fixA
  split
  ·cases hy:y.beds with
   | nil=>rfl
   | cons b l=>simp
  ·rfl
 have hs:=hI.sum
 have hh:=hI.high
 have hlen5:=hI.len
 obtain⟨q,hq⟩:∃ q:Bool,decide (y.high<20)=q:=⟨_,rfl⟩
 repeat apply zq
 refine zb fun K hK=>?_;simp only[go_sem,hq];apply hK;apply zw (zk [0,1,2,6,7,8,9,10,12,14,114]);simp only[go_sem]
 refine zaw (n:=137) (fun (_:Unit) vs=>[(0,.r (u16L W)),(1,.r (u8L ch)),(2,.r (i64 3)),(6,.pt 6 (vs 6) 0),(7,.pt 7 (vs 7) 0),(8,.r (ints armB)),(9,.r (i64 (y.n:Int))),(10,.r (i64 (i:Int))),(12,.pt 12 (vs 12) 0)])
  (fun _ vs=>[(6,.box [.r (i64 0),.r .ns]),(7,.box [.r (i64 20),.os 134 (vs 134) 2 0 i]),(12,.box [.r (i64 at_),.os 101 (vs 101) 3 0 y.beds.length]),(101,.arr 95 3 ((fixA y).map bedR)),(134,.arr 93 2 (LA.map aimR))]) (fun _=>True) (fun _ h=>h) ?_ ?_
 ·cases q
  ·have hge:¬ y.high<20:=of_decide_eq_false hq
   have hfe:fixA y=y.beds:=by unfold fixA;rw[if_neg hge]
   rw[hfe]
   apply zc rfl<;>intro hc<;>(try simp only[go_sem] at hc)
   apply zx
   try simp only[go_sem]
   refine⟨(),zj [] ?_ ?_⟩
   ·try simp only[go_sem]
   ·try simp only[go_sem]
  ·have hlt:y.high<20:=of_decide_eq_true hq
   obtain⟨b,l,hbl⟩:∃ b l,y.beds=b::l:=by
    cases hy:y.beds with
    | nil=>exact absurd hy hne
    | cons b l=>exact⟨b,l,rfl⟩
   have hfe:fixA y=⟨b.b,b.lo,min 20 (b.hi+20-y.high)⟩::l:=by unfold fixA;rw[if_pos hlt,hbl]
   have hb:=hI.each b (by rw[hbl];simp)
   have hll:(l.length:Int)≤4:=by
    have:=hlen5
    rw[hbl] at this
    simp at this
    omega
   rw[hfe,hbl]
   have x1:IntKind.i64.wrap (b.hi+20)=b.hi+20:=by rw[zI]<;>omega
   have x2:IntKind.i64.wrap (b.hi+20-y.high)=b.hi+20-y.high:=by rw[zI]<;>omega
   have hlp:(0:Int)<(l.length:Int)+1:=by omega
   apply zc rfl<;>intro hc<;>(try simp only[go_sem] at hc)
   refine zDQ [(12,some 12),(14,none)] [12] follows (by decide +kernel) (by kernel_rfl) (by simp only[zAO,List.mem_cons,List.not_mem_nil,forall_eq_or_imp,Oc.keyOf,go_sem];simp) (by intro k hk;simp only[List.mem_cons,List.not_mem_nil,or_false] at hk;first|(subst hk;exact⟨_,rfl⟩)|(rcases hk with rfl|rfl<;>exact⟨_,rfl⟩)|(rcases hk with rfl|rfl|rfl<;>exact⟨_,rfl⟩)) fun K hK=>?_
   simp only[go_sem,x1,x2,hlp,bedR,List.length_map]
   refine⟨by omega,?_⟩
   apply hK
   first|refine⟨(),trivial,zj [] ?_ ?_⟩|refine⟨(),zj [] ?_ ?_⟩
   ·try simp only[go_sem]
    try simp
   ·try simp only[go_sem]
    try simp [bedR]
 intro _ vs _
 rw[← hfx]
 have htk3:((fixA y).map bedR).take (fixA y).length=(fixA y).map bedR:=List.take_of_length_le (by simp)
 refine zw (zED 12 1 101 (ty:=95) (sz:=3) (off:=0) (m:=(fixA y).length) (es:=(fixA y).map bedR) (by omega) (by omega) rfl (by simp only[go_sem,List.getElem?_cons_succ,List.getElem?_cons_zero]) (by rfl) (by simp)) ?_;simp only[go_sem,List.drop_zero,htk3,List.set_cons_succ,List.set_cons_zero];refine zw (zfP 12 12 [i64 at_,zBJ (fixA y)] (by omega) (by try simp only[go_sem]) (by try simp only[go_sem])) ?_;apply zw (zk [0,1,2,6,7,8,9,10,12]);simp only[go_sem]
 have hLi:(LA.map aimR).length=i:=by rw[List.length_map];exact hal
 refine zb fun K hK=>?_;simp only[go_sem,hLi]
 refine⟨by omega,?_⟩
 apply hK;apply zw (zk [0,1,2,6,7,8,9,10]);simp only[go_sem];refine zb fun K hK=>?_;simp only[go_sem,wi];apply hK
 try simp only[go_sem]
 first|refine⟨by omega,zj [] ?_ ?_⟩|refine zj [] ?_ ?_
 ·try simp only[go_sem]
  try simp
 ·try simp only[go_sem]
  try simp [aimR]
end Go.Proofs.YtgfbenanljjgaaaGreat.Du.Th.Ai

namespace Go.Proofs.YtgfbenanljjgaaaGreat.Du.Th
open Go Go.Oc
set_option maxRecDepth 8000
theorem zRa (a d:Int) (l:List Bd) (hs:Small l) (hl:l.length≤10) (hd:0≤d) (hd':d≤6000):zAA Tryz.prog 65 [.ag [i64 a,zBJ l,i64 d]] (zBJ (zBj d l)):=by
 have hb:=zCY hs
 refine zas (rs:=[zBJ (zBj d l)]) [.tmp 2] Tryz.func65 rfl (by kernel_rfl) Tryz.ntmps65 rfl (by simp) rfl fun C vs=>?_
 apply zq
 refine zb fun K hK=>?_;simp only[go_sem];apply hK
 apply zq
 refine zb fun K hK=>?_;simp only[go_sem]
 refine zh (zPZ a l d hs (by omega)) rfl (by simp only[go_sem,i64,ints]) (by simp only[go_sem,i64,ints]) ?_
 (try simp only[go_sem]);apply hK;apply zw (zk [1,2,3]);simp only[go_sem]
 repeat apply zq
 refine zb fun K hK=>?_;simp only[go_sem]
 intro _
 apply hK;apply zw (zk [1,2,3,11,12,13]);simp only[go_sem];apply zd;refine zw (zIW 2 46 95 3 (by omega) rfl) ?_
 try simp only[go_sem]
 refine zup (n:=49) l.length (fun i vs=>[(1,.pt 1 (vs 1) 0),(2,.os 46 (vs 46) 3 0 i),(3,.pt 3 (vs 3) 0),(11,.r (zBJ l)),(12,.r (i64 l.length)),(13,.r (i64 i))])
  (fun i=>[(1,.box [.r (i64 a),.r (zBJ l),.r (i64 d)]),(3,.box [.r (i64 (loS l)),.r (i64 (hiS l))]),(46,.arr 95 3 (((zBj d l).take i).map bedR))]) (fun _=>True) 0 (zfo [] ?_ ?_) (Nat.zero_le _) trivial ?_
 ·try simp only[go_sem]
 ·try simp only[go_sem]
 ·intro i vs hi _
  have hlt:((zBj d l).take i).length=i:=by rw[List.length_take];simp [zBj];omega
  apply zq
  refine zb fun K hK=>?_;simp only[go_sem];apply hK
  apply zq
  apply zc rfl<;>intro hc<;>(try simp only[go_sem] at hc)
  ·have hci:=hc
   obtain⟨x,hx⟩:=zol hc
   obtain⟨⟨x1,x2⟩,x3,x4⟩:=hs x (zmo hx)
   have htx:(zBj d l).take (i+1)=(zBj d l).take i++[zMc d (loS l) (hiS l) x]:=zto (by simp [zBj,hx])
   apply zx
   apply zq
   apply zd
   apply zq
   refine zb fun K hK=>?_;simp only[go_sem,hx,hc,bedR];apply hK
   apply zq
   refine zb fun K hK=>?_;simp only[go_sem];apply hK
   apply zq
   refine zb fun K hK=>?_;simp only[go_sem];(try simp (disch:=omega) only[zI]);apply hK;apply zw (zk [1,2,3,5,11,12,13]);simp only[go_sem];refine zb fun K hK=>?_;simp only[go_sem,hlt]
   refine⟨by omega,?_⟩
   apply hK;apply zw (zk [1,2,3,11,12,13]);simp only[go_sem];refine zb fun K hK=>?_;simp only[go_sem];(try simp (disch:=omega) only[zI]);apply hK
   try simp only[go_sem]
   refine⟨hci,zfo [5,6] ?_ ?_⟩
   ·try simp only[go_sem]
   ·try simp only[go_sem]
    rw[htx]
    simp [bedR,zMc]
  ·apply zf;simp only[go_sem]
   apply zq
   refine zb fun K hK=>?_;simp only[go_sem];apply hK;apply ze;simp only[go_sem]
   have h1:i=l.length:=by omega
   have h2:(zBj d l).take i=zBj d l:=List.take_of_length_le (by simp [zBj];omega)
   subst h1
   rw[h2]
   simp [zBj]
   exact List.take_of_length_le (by simp)
theorem zTE (d:Int) (l:List Am) (hw:WfL d l):zAA Tryz.prog 34 [lawV d l] (.tu [if zAe d l=0 then lawV d (l.map (zCX d)) else .ag [i64 0,.ns],i64 (zAe d l)]):=by
 refine zAx (rs:=[if zAe d l=0 then lawV d (l.map (zCX d)) else .ag [i64 0,.ns],i64 (zAe d l)]) [.cell 2 24,.tmp 3] Tryz.func34 rfl (by kernel_rfl) Tryz.ntmps34 rfl (by simp) rfl fun C hC vs=>?_
 apply zq
 refine zb fun K hK=>?_;simp only[go_sem];apply hK
 repeat apply zq
 refine zb fun K hK=>?_;simp only[go_sem]
 refine zh (zJH d l hw) rfl (by simp only[go_sem,i64,ints]) (by simp only[go_sem,i64,ints]) ?_
 (try simp only[go_sem]);apply hK
 apply zq
 refine zb fun K hK=>?_;simp only[go_sem]
 cases hE:zAe d l != 0
 case true =>
  apply hK
  have hne:¬ zAe d l=0:=by simpa using hE
  apply zc rfl<;>intro hc<;>(try simp only[go_sem] at hc)
  apply zq
  refine zb fun K hK=>?_;simp only[go_sem];apply hK;apply ze;simp only[go_sem]
  simp [hne,zAS.le_refl]
 have h0:zAe d l=0:=by simpa using hE
 obtain⟨c1,c2,c3,c4,c5⟩:=zEk h0
 apply hK
 apply zc rfl<;>intro hc<;>(try simp only[go_sem] at hc)
 apply zx
 try simp only[go_sem]
 apply zq
 refine zb fun K hK=>?_;simp only[go_sem];apply hK
 repeat apply zq
 refine zb fun K hK=>?_;simp only[go_sem]
 refine zh (zRO d l) rfl (by simp only[go_sem,i64,ints]) (by simp only[go_sem,i64,ints]) ?_
 (try simp only[go_sem]);apply hK;apply zw (zk [2,5,18]);simp only[go_sem];apply zd;refine zw (zCG 5 1 30 93 2 (by omega) (by omega) rfl rfl) ?_
 try simp only[go_sem]
 refine zCU hC (zDM d l) (zMT d l) [2,5,18] (by decide) (fun vs=>[(2,.pt 2 (vs 2) 0),(5,.pt 5 (vs 5) 0),(18,.r (.fn 96 [.rp [i64 d,zAl l]]))])
  (fun i vs=>[(2,.box [.r (i64 0),.r .ns]),(5,.box [.r (i64 d),.os 30 (vs 30) 2 0 i]),(30,.arr 93 2 (((l.map (zCX d)).take i).map aimR))])
  (fun i=>True) (zj [1] ?_ ?_) trivial (fun _=>rfl) (fun _=>rfl) (fun _ _=>rfl) (by simp) (fun e he=>zHA he) ?_ ?_
 ·try simp only[go_sem]
 ·try simp only[go_sem]
 ·intro i e vs us C he _
  obtain⟨x,hx,rfl⟩:=zFO he
  obtain⟨_,_,_,k4,_⟩:=zEm (c5 x (zmo hx))
  have hil:i<l.length:=(List.getElem?_eq_some_iff.1 hx).1
  have hlt:((l.map (zCX d)).take i).length=i:=by rw[List.length_take];simp;omega
  have htx:(l.map (zCX d)).take (i+1)=(l.map (zCX d)).take i++[zCX d x]:=zto (by simp [hx])
  refine zb fun K hK=>?_;simp only[go_sem];apply hK
  refine⟨rfl,fun C'=>?_⟩
  apply zw (zk [2,5,7,18]);simp only[go_sem];apply zd
  refine zDQ [(2,some 2),(5,some 5),(7,some 7)] [2,5,7] follows (by decide +kernel) (by kernel_rfl) (by simp only[zAO,List.mem_cons,List.not_mem_nil,forall_eq_or_imp,Oc.keyOf,go_sem];simp) (by intro k hk;simp only[List.mem_cons,List.not_mem_nil,or_false] at hk;first|(subst hk;exact⟨_,rfl⟩)|(rcases hk with rfl|rfl<;>exact⟨_,rfl⟩)|(rcases hk with rfl|rfl|rfl<;>exact⟨_,rfl⟩)) fun K hK=>?_
  simp only[go_sem,hlt]
  refine zh (zRa x.at_ d x.beds (zEN k4 (by omega)) (c2 x (zmo hx)) (by omega) (by omega)) rfl (by simp only[go_sem,i64,ints,hlt]) (by simp only[go_sem,i64,ints,hlt]) ?_
  (try simp only[go_sem,hlt])
  refine⟨by omega,?_⟩
  apply hK
  try simp only[go_sem]
  refine zj (F:=fun _=>[]) [7] (by try simp only[go_sem]) ?_
  try simp only[go_sem]
  rw[htx]
  simp [aimR,zCX]
 ·intro vs us _
  try simp only[go_sem]
  refine zw (zBk rfl) ?_
  apply zq
  refine zb fun K hK=>?_;simp only[go_sem];apply hK;apply ze;simp only[go_sem]
  have hel:(zDM d l).length=l.length:=by simp [zDM]
  rw[hel,h0]
  refine⟨⟨by simp,?_⟩,rfl⟩
  rw[if_pos rfl,List.take_of_length_le (l:=l.map (zCX d)) (by simp),List.take_of_length_le (by simp)]
  exact zAS.le_refl _
end Go.Proofs.YtgfbenanljjgaaaGreat.Du.Th

namespace Go.Oc
open Go Go.RowKit
section
variable {P:Program}{C:Ctx}{p p1 p3:Plan}{s s1 s3:AS}{a a1 a3:Act}{w w1 w2 w3:World}{L:Nat}{R:Nat→Prop}
def ghAt (P:Program) (s:AS):Prop:=∃ l o,(s.rows 999).c = .gh P l false o
def ownY (C:Ctx) (p:Plan) (b:Nat):Prop:=∃ k,p.β k=some b∧¬ (1000≤k∧C.bor b)
def zPg (C:Ctx) (p:Plan) (R:Nat→Prop) (n:Nat):XS:=C.X.since n (fun b=>p.R b∨R b∨ownY C p b) p.Ψ p.Θ
def CinY (C:Ctx) (p:Plan) (R:Nat→Prop) (w:World) (rd:Option Nat) (Hd:Nat→Prop):Ctx :=
 { w0:=w,R0:=fun b=>p.R b∨R b,bor:=fun b=>(C.bor b∧∃ k,1000≤k∧p.β k=some b)∨p.Θ b,pin:=C.pin,own:=ownY C p,X:=zPg C p R w.heap.size,rd:=rd,hd:=Hd }
def zOL (C:Ctx) (p:Plan) (R:Nat→Prop) (n:Nat):Plan:={ p with R:=fun b=>p.R b∨R b,X:=zPg C p R n }
theorem SR.gh_of (h:SR C p s a w) {l:Nat}{o:Option (List (List RV))}(hg:(s.rows 999).c = .gh P l false o):C.X.l=l∧C.X.z=false∧YOk P C.X∧C.X.X o w p.Ψ p.Θ∧p.β 999=none∧p.γ 999=1:=by
 have hr:=h.rw 999
 rw[hg] at hr
 simp only[zrl] at hr
 rw[h.ex.px] at hr
 exact⟨hr.2.2.2.1,hr.2.2.2.2.1,hr.2.2.2.2.2.1,hr.2.2.2.2.2.2,hr.2.1,hr.2.2.1⟩
theorem SR.yr (h:SR C p s a w) (hz:C.X.z=false) {b:Nat}(hb:p.R b):C.X.R b∨C.X.n0≤b:=by
 rcases h.rn b hb with g|g|g
 ·exact .inl (h.ex.ψ0 hz b g)
 ·exact .inr (Nat.le_trans h.ex.n0 g)
 ·exact h.ex.ψo b g
theorem SR.yo (h:SR C p s a w) {b:Nat}(hb:ownY C p b):C.X.R b∨C.X.n0≤b:=by
 obtain⟨k,h1,h2⟩:=hb
 rcases (h.bl k b h1).2.2 with g|g|g
 ·exact .inr (Nat.le_trans h.ex.n0 g)
 ·exact (h2 g).elim
 ·exact h.ex.ψo b g
theorem SR.intoY (h:SR C p s a w) (hg:ghAt P s) (hos:w2.os=w.os) (htape:w2.tape=w.tape) (hout:w2.output=w.output) (hsize:w2.heap.size=w.heap.size) (hoth:∀ b,b≠L→w2.heap[b]? = w.heap[b]?)
 (hLR:¬ p.R L) (hLβ:∀ k,p.β k≠some L) (hLΨ:¬ p.Ψ L) (hR:∀ b,R b→b<w.heap.size∧(∀ k,p.β k≠some b)∧¬ p.Θ b∧(C.X.R b∨C.X.n0≤b)) {a':Act}{tm':Nat→AV}(htm:∀ t,(tm' t).rel w2 (zOL C p R w2.heap.size) s.ver (a'.tmps.getD t undef))
 (hsz:a'.tmps.size=s.n) (hdf:a'.defers=[]) {rd:Option Nat}{Hd:Nat→Prop}(hHd:∀ b,Hd b→b<w.heap.size∧¬ C.bor b∧¬ p.R b∧¬ R b∧(∀ k,p.β k≠some b)∧¬ p.Ψ b∧¬ p.Θ b) :
 SR (CinY C p R w2 rd Hd) (zOL C p R w2.heap.size) { s with tm:=tm' } a' w2:=by
 obtain⟨l,o,hg⟩:=hg
 obtain⟨g1,g2,g3,g4,g5,g6⟩:=h.gh_of hg
 have hk:Kept w w2 p (zOL C p R w2.heap.size) s.ver s.ver :=
  ⟨fun _ h=>.inl h,fun ad hr=>World.cell?_of_block (hoth _ fun e=>hLR (e▸hr)),fun _=>Nat.le_refl _,fun _ _=>⟨rfl,rfl⟩⟩
 have hX2:C.X.X o w2 p.Ψ p.Θ:=C.X.st g4 hos htape hout (Nat.le_of_eq hsize.symm) (fun b hb=>hoth b fun e=>hLΨ (e▸hb))
 have hX3:(zPg C p R w2.heap.size).X o w2 p.Ψ p.Θ:=⟨hX2,Nat.le_refl _,fun b h=>.inl h,fun b h=>.inl h⟩
 exact {
  base:=⟨rfl,rfl,rfl,Nat.le_refl _,fun _ _ _ _=>rfl⟩
  r0:=fun _ h=>h
  rn:=fun _ h=>.inl h
  rb:=fun b hb=>by rw[hsize];exact hb.elim (h.rb b) (fun hb=>(hR b hb).1)
  tm:=htm
  sz:=hsz
  ex:={
   px:=rfl
   n0:=Nat.le_refl _
   ψ0:=fun _ b hb=>hb.elim .inl fun hb=>.inr (.inl hb)
   ψl:=fun b hb=>by rw[hsize];exact h.ex.ψl b hb
   θl:=fun b hb=>by rw[hsize];exact h.ex.θl b hb
   ψb:=h.ex.ψb
   ψr:=fun b hb=>hb.elim (h.ex.ψr b) fun hb=>(hR b hb).2.2.1
   ψo:=fun b hb=>.inl (.inr (.inr hb))
   θo:=fun b hb _=>.inr hb
   bo:=fun b hb=>by
    show b<w2.heap.size
    rw[hsize]
    rcases hb with (⟨_,k,_,hk⟩|hb)|⟨k,hk,_⟩
    ·exact (h.bl k b hk).1
    ·exact h.ex.θl b hb
    ·exact (h.bl k b hk).1
   ψn:=fun hn=>(hn _ _ _ _ hX3).elim
   hd:=fun b hb=>by
    obtain⟨g1,g2,g3,g4,g5,g6,g7⟩:=hHd b hb
    exact⟨by show b<w2.heap.size;rw[hsize];exact g1,fun g=>g.elim (fun g=>g2 g.1) g7,fun ⟨k,g,_⟩=>g5 k g,by rw[hsize];exact g1,fun g=>g.elim g3 g4,g6,g7,g5⟩
   rm:=fun _=>hdf
   df:=⟨[],hdf,List.nodup_nil,fun D hD=>by cases hD⟩ }
  rw:=fun k=>by
   by_cases e:k=999
   ·subst e
    show zrl w2 _ s.ver 999 (s.rows 999).c
    rw[hg]
    simp only[zrl]
    refine⟨trivial,g5,g6,g1,g2,?_,hX3⟩
    refine g3.since (fun b hb=>?_) (Nat.le_trans h.ex.n0 (by rw[hsize];exact h.base.size))
    rcases hb with hb|hb|hb
    ·exact h.yr g2 hb
    ·exact (hR b hb).2.2.2
    ·exact h.yo hb
   ·exact zAQ hk (.inl e) rfl rfl (fun b hb=>hoth b fun e=>hLβ k (e▸hb)) _ (fun km _ _ _ _ _ b hb=>hoth b fun e=>hLβ km (e▸hb)) (h.rw k)
  bl:=fun k b hb=>⟨by rw[hsize];exact (h.bl k b hb).1,fun hr=>hr.elim (h.bl k b hb).2.1 (fun hr=>(hR b hr).2.1 k hb),.inr (by
   by_cases e:1000≤k∧C.bor b
   ·exact .inl ⟨e.1,.inl ⟨e.2,k,e.1,hb⟩⟩
   ·exact .inr ⟨k,hb,e⟩)⟩
  ij:=h.ij
  cap:=h.cap
  pn:=h.pn
  lk:=h.lk }
structure HopY (C:Ctx) (p:Plan) (w:World) (L:Nat) (R:Nat→Prop) (p3:Plan) (w3:World):Prop where
 os:w3.os=w.os
 tape:w3.tape=w.tape
 output:w3.output=w.output
 size:w.heap.size≤w3.heap.size
 heap:∀ b,b<w.heap.size→(∀ k,p.β k≠some b)→¬ p.Θ b→b≠L→w3.heap[b]? = w.heap[b]?
 r:∀ b,p.R b→p3.R b
 rn:∀ b,p3.R b→p.R b∨R b∨w.heap.size≤b∨ownY C p b
 bl:∀ k b,p3.β k=some b→w.heap.size≤b∨(1000≤k∧C.bor b∧∃ k,1000≤k∧p.β k=some b)∨(1000≤k∧p.Θ b)∨ownY C p b
 psi:∀ b,p3.Ψ b→p.Ψ b∨p.R b∨R b∨ownY C p b∨w.heap.size≤b
 theta:∀ b,p3.Θ b→p.Θ b∨w.heap.size≤b
theorem HopY.of (hos:w2.os=w.os) (htape:w2.tape=w.tape) (hout:w2.output=w.output) (hsize:w2.heap.size=w.heap.size) (hoth:∀ b,b≠L→w2.heap[b]? = w.heap[b]?) {rd:Option Nat}{Hd:Nat→Prop}
 (h:SR (CinY C p R w2 rd Hd) p3 s3 a3 w3) (hg:ghAt P s3):HopY C p w L R p3 w3:=by
 obtain⟨l,o,hg⟩:=hg
 obtain⟨_,_,_,g4,_,_⟩:=h.gh_of hg
 obtain⟨_,g5,g6,g7⟩:=g4
 exact {
  os:=h.base.os.trans hos
  tape:=h.base.tape.trans htape
  output:=h.base.output.trans hout
  size:=hsize▸h.base.size
  heap:=fun b hb hn ht hl=>(h.base.block b (by show b<w2.heap.size;rw[hsize];exact hb) (fun g=>g.elim (fun ⟨_,k,_,hk⟩=>hn k hk) ht) (fun ⟨k,hk,_⟩=>hn k hk)).trans (hoth b hl)
  r:=fun b hb=>h.r0 b (.inl hb)
  rn:=fun b hb=>by
   rcases h.rn b hb with g|g|g
   ·exact g.elim .inl (fun g=>.inr (.inl g))
   ·exact .inr (.inr (.inl (by rw[← hsize];exact g)))
   ·exact .inr (.inr (.inr g))
  bl:=fun k b hb=>by
   rcases (h.bl k b hb).2.2 with g|⟨g1,⟨g2,k',g3,g4⟩|g2⟩|g
   ·exact .inl (by rw[← hsize];exact g)
   ·exact .inr (.inl ⟨g1,g2,k',g3,g4⟩)
   ·exact .inr (.inr (.inl ⟨g1,g2⟩))
   ·exact .inr (.inr (.inr g))
  psi:=fun b hb=>by
   rcases g6 b hb with g|g|g
   ·exact .inl g
   ·rcases g with g|g|g
    ·exact .inr (.inl g)
    ·exact .inr (.inr (.inl g))
    ·exact .inr (.inr (.inr (.inl g)))
   ·exact .inr (.inr (.inr (.inr (by rw[← hsize];exact g))))
  theta:=fun b hb=>by
   rcases g7 b hb with g|g
   ·exact .inl g
   ·exact .inr (by rw[← hsize];exact g) }
theorem HopY.trans (h:HopY C p w L R p1 w1) {C':Ctx}(hCb:∀ b,C'.bor b↔(C.bor b∧∃ k,1000≤k∧p.β k=some b)∨p.Θ b) (h':HopY C' p1 w1 L (fun _=>False) p3 w3):HopY C p w L R p3 w3:=by
 have hown:∀ b,ownY C' p1 b→w.heap.size≤b∨ownY C p b:=fun b ⟨k,g1,g2⟩=>by
  rcases h.bl k b g1 with g|⟨g3,g4,g5⟩|⟨g3,g4⟩|g
  ·exact .inl g
  ·exact (g2 ⟨g3,(hCb b).2 (.inl ⟨g4,g5⟩)⟩).elim
  ·exact (g2 ⟨g3,(hCb b).2 (.inr g4)⟩).elim
  ·exact .inr g
 exact {
  os:=h'.os.trans h.os
  tape:=h'.tape.trans h.tape
  output:=h'.output.trans h.output
  size:=Nat.le_trans h.size h'.size
  heap:=fun b hb hn ht hl=>by
   refine (h'.heap b (Nat.lt_of_lt_of_le hb h.size) (fun k hk=>?_) (fun g=>?_) hl).trans (h.heap b hb hn ht hl)
   ·rcases h.bl k b hk with g|⟨_,_,k',_,g⟩|⟨_,g⟩|⟨k',g,_⟩
    ·omega
    ·exact hn k' g
    ·exact ht g
    ·exact hn k' g
   ·rcases h.theta b g with g|g
    ·exact ht g
    ·omega
  r:=fun b hb=>h'.r b (h.r b hb)
  rn:=fun b hb=>by
   rcases h'.rn b hb with g|g|g|g
   ·exact h.rn b g
   ·exact g.elim
   ·exact .inr (.inr (.inl (Nat.le_trans h.size g)))
   ·rcases hown b g with q|q
    ·exact .inr (.inr (.inl q))
    ·exact .inr (.inr (.inr q))
  bl:=fun k b hb=>by
   rcases h'.bl k b hb with g|⟨g1,g2,_⟩|⟨g1,g2⟩|g
   ·exact .inl (Nat.le_trans h.size g)
   ·rcases (hCb b).1 g2 with q|q
    ·exact .inr (.inl ⟨g1,q⟩)
    ·exact .inr (.inr (.inl ⟨g1,q⟩))
   ·rcases h.theta b g2 with q|q
    ·exact .inr (.inr (.inl ⟨g1,q⟩))
    ·exact .inl q
   ·rcases hown b g with q|q
    ·exact .inl q
    ·exact .inr (.inr (.inr q))
  psi:=fun b hb=>by
   rcases h'.psi b hb with g|g|g|g|g
   ·exact h.psi b g
   ·rcases h.rn b g with q|q|q|q
    ·exact .inr (.inl q)
    ·exact .inr (.inr (.inl q))
    ·exact .inr (.inr (.inr (.inr q)))
    ·exact .inr (.inr (.inr (.inl q)))
   ·exact g.elim
   ·rcases hown b g with q|q
    ·exact .inr (.inr (.inr (.inr q)))
    ·exact .inr (.inr (.inr (.inl q)))
   ·exact .inr (.inr (.inr (.inr (Nat.le_trans h.size g))))
  theta:=fun b hb=>by
   rcases h'.theta b hb with g|g
   ·exact h.theta b g
   ·exact .inr (Nat.le_trans h.size g) }
theorem HopY.put (h:HopY C p w L R p3 w3) {o:Obj}:HopY C p w L R p3 (w3.putObj L o) where
 os:=h.os
 tape:=h.tape
 output:=h.output
 size:=by rw[World.putObj_size];exact h.size
 heap:=fun b hb hn ht hl=>(World.putObj_heap_other hl).trans (h.heap b hb hn ht hl)
 r:=h.r
 rn:=h.rn
 bl:=h.bl
 psi:=h.psi
 theta:=h.theta
theorem SR.landY (h0:SR C p s a w) (hg0:ghAt P s) (hL0:C.w0.heap.size≤L) (hLm:∀ d∈a.defers,d.target ≠ .collected L) (hop:HopY C p w L R p3 w3)
 (hR:∀ b,R b→b<w.heap.size∧(∀ d∈a.defers,d.target ≠ .collected b)∧¬ C.hd b∧(C.R0 b∨C.w0.heap.size≤b∨C.own b)) {C':Ctx}(hpin:C'.pin=C.pin) (hXX:∀ o w Ψ Θ,C'.X.X o w Ψ Θ→C.X.X o w Ψ Θ) (h3:SR C' p3 s3 a3 w2) (hg3:ghAt P s3)
 (hLR:¬ p3.R L) (hLβ:∀ k,p3.β k≠some L) (hLΨ:¬ p3.Ψ L) (hXl:C'.X.l=C.X.l)
 (hos:w3.os=w2.os) (htape:w3.tape=w2.tape) (hout:w3.output=w2.output) (hsize:w3.heap.size=w2.heap.size) (hoth:∀ b,b≠L→w3.heap[b]? = w2.heap[b]?) :
 SR C { p3 with X:=C.X } { n:=s.n,tm:=fun _=>.r .un,rows:=s3.rows } a w3:=by
 obtain⟨l0,o0,hg0⟩:=hg0
 obtain⟨f1,f2,f3,f4,f5,f6⟩:=h0.gh_of hg0
 obtain⟨l3,o3,hg3⟩:=hg3
 obtain⟨e1,e2,e3,e4,e5,e6⟩:=h3.gh_of hg3
 have hX3:C.X.X o3 w3 p3.Ψ p3.Θ:=C.X.st (hXX _ _ _ _ e4) hos htape hout (Nat.le_of_eq hsize.symm) (fun b hb=>hoth b fun e=>hLΨ (e▸hb))
 have hk:Kept w2 w3 p3 { p3 with X:=C.X } s3.ver s3.ver:=⟨fun _ h=>h,fun ad hr=>World.cell?_of_block (hoth _ fun e=>hLR (e▸hr)),fun _=>Nat.le_refl _,fun _ _=>⟨rfl,rfl⟩⟩
 have hβC:∀ k b,p3.β k=some b→C.w0.heap.size≤b∨(1000≤k∧C.bor b)∨C.own b:=fun k b hb=>by
  rcases hop.bl k b hb with g|⟨g1,g2,_⟩|⟨g1,g2⟩|⟨k',g1,g2⟩
  ·exact .inl (Nat.le_trans h0.base.size g)
  ·exact .inr (.inl ⟨g1,g2⟩)
  ·by_cases hlt:b<C.w0.heap.size
   ·exact .inr (.inl ⟨g1,h0.ex.θo b g2 hlt⟩)
   ·exact .inl (Nat.le_of_not_lt hlt)
  ·rcases (h0.bl k' b g1).2.2 with q|q|q
   ·exact .inl q
   ·exact (g2 q).elim
   ·exact .inr (.inr q)
 have hout':∀ b,b<w.heap.size→(∀ k,p.β k≠some b)→¬ p.Θ b→∀ k,p3.β k≠some b:=fun b hb hn ht k hk=>by
  rcases hop.bl k b hk with g|⟨_,_,k',_,g⟩|⟨_,g⟩|⟨k',g1,_⟩
  ·omega
  ·exact hn k' g
  ·exact ht g
  ·exact hn k' g1
 exact {
  base:=⟨hop.os.trans h0.base.os,hop.tape.trans h0.base.tape,hop.output.trans h0.base.output,Nat.le_trans h0.base.size hop.size,fun b hb hbor hown=>by
   refine (hop.heap b (Nat.lt_of_lt_of_le hb h0.base.size) (fun k hk=>?_) (fun g=>hbor (h0.ex.θo b g hb)) (fun e=>by omega)).trans (h0.base.block b hb hbor hown)
   rcases (h0.bl k b hk).2.2 with g|g|g
   ·omega
   ·exact hbor g.2
   ·exact hown g⟩
  r0:=fun b hb=>hop.r b (h0.r0 b hb)
  rn:=fun b hb=>by
   rcases hop.rn b hb with g|g|g|⟨k,g1,g2⟩
   ·exact h0.rn b g
   ·exact (hR b g).2.2.2
   ·exact .inr (.inl (Nat.le_trans h0.base.size g))
   ·rcases (h0.bl k b g1).2.2 with q|q|q
    ·exact .inr (.inl q)
    ·exact (g2 q).elim
    ·exact .inr (.inr q)
  rb:=fun b hb=>hsize▸h3.rb b hb
  tm:=fun t=>AV.rel_un _ _ _ _
  sz:=h0.sz
  ex:={
   px:=rfl
   n0:=h0.ex.n0
   ψ0:=h0.ex.ψ0
   ψl:=fun b hb=>hsize▸h3.ex.ψl b hb
   θl:=fun b hb=>hsize▸h3.ex.θl b hb
   ψb:=h3.ex.ψb
   ψr:=h3.ex.ψr
   ψo:=h0.ex.ψo
   θo:=fun b hb hlt=>by
    rcases hop.theta b hb with g|g
    ·exact h0.ex.θo b g hlt
    ·have:=h0.base.size;omega
   bo:=h0.ex.bo
   ψn:=fun hn=>(hn _ _ _ _ hX3).elim
   hd:=fun b hb=>by
    obtain⟨k1,k2,k3,k4,k5,k6,k7,k8⟩:=h0.ex.hd b hb
    refine⟨k1,k2,k3,Nat.lt_of_lt_of_le k4 hop.size,fun g=>?_,fun g=>?_,fun g=>?_,hout' b k4 k8 k7⟩
    ·rcases hop.rn b g with g|g|g|⟨k,g,_⟩
     ·exact k5 g
     ·exact (hR b g).2.2.1 hb
     ·omega
     ·exact k8 k g
    ·rcases hop.psi b g with g|g|g|⟨k,g,_⟩|g
     ·exact k6 g
     ·exact k5 g
     ·exact (hR b g).2.2.1 hb
     ·exact k8 k g
     ·omega
    ·rcases hop.theta b g with g|g
     ·exact k7 g
     ·omega
   rm:=h0.ex.rm
   df:=by
    obtain⟨Ds,g1,g2,g3⟩:=h0.ex.df
    refine⟨Ds,g1,g2,fun D hD=>?_⟩
    have hmem:({ target:=.collected D,args:=#[] }:Deferred)∈a.defers:=by rw[g1];exact List.mem_map.2 ⟨D,hD,rfl⟩
    obtain⟨k1,k2,k3,k4,k5,k6⟩:=g3 D hD
    have hlt:D<w.heap.size:=(Array.getElem?_eq_some_iff.1 k1).1
    refine⟨(hop.heap D hlt k4 k6 fun e=>hLm _ hmem (by rw[e])).trans k1,k2,fun g=>?_,hout' D hlt k4 k6,fun g=>?_,fun g=>?_⟩
    ·rcases hop.rn D g with g|g|g|⟨k,g,_⟩
     ·exact k3 g
     ·exact (hR D g).2.1 _ hmem rfl
     ·omega
     ·exact k4 k g
    ·rcases hop.psi D g with g|g|g|⟨k,g,_⟩|g
     ·exact k5 g
     ·exact k3 g
     ·exact (hR D g).2.1 _ hmem rfl
     ·exact k4 k g
     ·omega
    ·rcases hop.theta D g with g|g
     ·exact k6 g
     ·omega }
  rw:=fun k=>by
   by_cases e:k=999
   ·subst e
    show zrl w3 _ s3.ver 999 (s3.rows 999).c
    rw[hg3]
    simp only[zrl];exact⟨trivial,e5,e6,hXl.symm.trans e1,f2,f3,hX3⟩
   ·exact zAQ hk (.inl e) rfl rfl (fun b hb=>hoth b fun e=>hLβ k (e▸hb)) _ (fun km _ _ _ _ _ b hb=>hoth b fun e=>hLβ km (e▸hb)) (h3.rw k)
  bl:=fun k b hb=>⟨by rw[hsize];exact (h3.bl k b hb).1,(h3.bl k b hb).2.1,hβC k b hb⟩
  ij:=h3.ij
  cap:=h3.cap
  pn:=fun k x hx=>h3.pn k x (by rw[hpin];exact hx)
  lk:=h3.lk }
def zUw (P:Program) (n:Nat) (I:List (List RV)→List Value→AS→Prop) (J:Code→List Value→AS→Prop) (rest:List (List RV)) (us:List Value):Exit→AS→Prop
 | .normal,s=>∃ s4,Sub s s4∧ghAt P s4∧I rest us ⟨n,look [],s4.rows⟩
 | .ret,s=>∃ s4,Sub s s4∧ghAt P s4∧J .ret us ⟨n,look [],s4.rows⟩
 | .exit id,s=>∃ s4,Sub s s4∧ghAt P s4∧J (.exit id) us ⟨n,look [],s4.rows⟩
 | _,_=>False
def XJY (P:Program) (C:Ctx) (aL:Act) (L:Nat) (rec:LoopState→Option Code→Loop) (I:List (List RV)→AS→Prop) (J:Code→AS→Prop) (o:Option (List (List RV))) (w:World) (Ψ Θ:Nat→Prop):Prop :=
 ∃ p s, SR C p s aL w∧s.n=aL.tmps.size∧ghAt P s∧(match o with
   | some left=>I left s∧w.heap[L]? = some (.loop (rec .ready none))
   | none=>∃ c,J c s∧w.heap[L]? = some (.loop (rec .done (some c))))∧¬ p.R L∧(∀ k,p.β k≠some L)∧¬ p.Ψ L∧¬ p.Θ L ∧
   (∀ b,Ψ b↔p.R b∨(∃ k,p.β k=some b)∨(b<C.w0.heap.size∧¬ C.bor b∧¬ C.own b)∨b=L∨C.hd b∨(∃ d∈aL.defers,d.target = .collected b)∨p.Ψ b∨p.Θ b)∧(∀ b,Θ b↔(∃ k,p.β k=some b)∨b=L∨p.Θ b)
theorem XJY.st {aL:Act}{rec:LoopState→Option Code→Loop}{I:List (List RV)→AS→Prop}{J:Code→AS→Prop}{o:Option (List (List RV))}{w w':World}{Ψ Θ:Nat→Prop}(h:XJY P C aL L rec I J o w Ψ Θ)
 (hos:w'.os=w.os) (htape:w'.tape=w.tape) (hout:w'.output=w.output) (hsize:w.heap.size≤w'.heap.size) (hh:∀ b,Ψ b→w'.heap[b]? = w.heap[b]?):XJY P C aL L rec I J o w' Ψ Θ:=by
 obtain⟨p,s,hS,hsn,hg,ho,hLR,hLβ,hLΨ,hLΘ,hΨ,hΘ⟩:=h
 refine⟨p,s,hS.other rfl hos htape hout hsize (fun b hb hf=>hh b ((hΨ b).2 ?_)) ?_,hsn,hg,?_,hLR,hLβ,hLΨ,hLΘ,hΨ,hΘ⟩
 ·rcases hf with g|g|g|g
  ·exact .inl g
  ·exact .inr (.inl g)
  ·exact .inr (.inr (.inl g))
  ·exact .inr (.inr (.inr (.inr (.inr (.inr (.inl g))))))
 ·obtain⟨Ds,g1,g2,g3⟩:=hS.ex.df
  exact { hS.ex with
   ψl:=fun b hb=>Nat.lt_of_lt_of_le (hS.ex.ψl b hb) hsize
   θl:=fun b hb=>Nat.lt_of_lt_of_le (hS.ex.θl b hb) hsize
   hd:=fun b hb=>by
    obtain⟨k1,k2,k3,k4,k5⟩:=hS.ex.hd b hb
    exact⟨k1,k2,k3,Nat.lt_of_lt_of_le k4 hsize,k5⟩
   df:=⟨Ds,g1,g2,fun D hD=>by
    obtain⟨k1,k2⟩:=g3 D hD
    refine⟨(hh D ((hΨ D).2 (.inr (.inr (.inr (.inr (.inr (.inl ⟨{ target:=.collected D,args:=#[] },?_,rfl⟩)))))))).trans k1,k2⟩
    rw[g1];exact List.mem_map.2 ⟨D,hD,rfl⟩⟩ }
 ·have hL:=hh L ((hΨ L).2 (.inr (.inr (.inr (.inl rfl)))))
  cases o with
  | some left=>exact⟨ho.1,hL.trans ho.2⟩
  | none =>
    obtain⟨c,h1,h2⟩:=ho
    exact⟨c,h1,hL.trans h2⟩
theorem SR.turnY (h:SR C p s a w) {o:Obj}(hLR:¬ p.R L) (hLβ:∀ k,p.β k≠some L) (hL0:C.w0.heap.size≤L) (hLΨ:¬ p.Ψ L) (hLm:∀ d∈a.defers,d.target ≠ .collected L):SR C p s a (w.putObj L o):=by
 refine h.other rfl rfl rfl rfl (Nat.le_of_eq World.putObj_size.symm) (fun b _ hb=>zAC b fun e=>?_) ?_
 ·subst e
  rcases hb with g|⟨k,g⟩|g|g
  ·exact hLR g
  ·exact hLβ k g
  ·omega
  ·exact hLΨ g
 ·obtain⟨Ds,g1,g2,g3⟩:=h.ex.df
  exact { h.ex with
   ψl:=fun b hb=>by rw[World.putObj_size];exact h.ex.ψl b hb
   θl:=fun b hb=>by rw[World.putObj_size];exact h.ex.θl b hb
   hd:=fun b hb=>by rw[World.putObj_size];exact h.ex.hd b hb
   df:=⟨Ds,g1,g2,fun D hD=>by
    obtain⟨k1,k2⟩:=g3 D hD
    refine⟨(zAC D fun e=>hLm { target:=.collected D,args:=#[] } ?_ (by rw[e])).trans k1,k2⟩
    rw[g1];exact List.mem_map.2 ⟨D,hD,rfl⟩⟩ }
set_option maxHeartbeats 800000 in
theorem zHY {g:Operand}{ps:Array Tmp}{assign body:Code}{Q:Exit→AS→Prop}(hrd:C.rd=none) (hgh:ghAt P s) {F:FuncId}{args:List RV}{xs:List (List RV)}{z:Bool}
 (hF:s.ev g = .r (.fn F args)) (hI:zGD P z F args xs) (hdead:(s.rows 0).c = .dead) (ts:List Nat) (hps:∀ t∈ps.toList,t<s.n)
 (I:List (List RV)→List Value→AS→Prop) (J:Code→List Value→AS→Prop)
 (h0:∀ us,I xs us { n:=s.n,tm:=look [],rows:=upd s.rows 0 ⟨(s.rows 0).ver,.sus (ts.map s.tm) us⟩ })
 (round:∀ e rest us s',s'.n=s.n→I (e::rest) us s'→e.length=ps.size∧∃ avs,(s'.rows 0).c = .sus avs us∧∀ C,awp P C assign (fun x s2=>x = .normal∧ghAt P s2∧∀ C,awp P C body (zUw P s.n I J rest us) s2) ⟨s.n,psA ps.toList e (look (ts.zip avs)),s'.rows⟩)
 (done:∀ us s',s'.n=s.n→I [] us s'→∃ avs,(s'.rows 0).c = .sus avs us∧Q .normal ⟨s.n,look (ts.zip avs),s'.rows⟩)
 (stop:∀ c us s',s'.n=s.n→J c us s'→∃ avs,(s'.rows 0).c = .sus avs us∧awp P C c Q ⟨s.n,look (ts.zip avs),s'.rows⟩):awp P C (.rangeFunc g ps assign body) Q s:=by
 rintro a w ⟨p,hS⟩
 have hF0:fnc C.rd=Fence.wide:=by rw[hrd];rfl
 rw[hF0]
 refine wpIn_rangeFunc fun fn _=>?_
 obtain⟨vsC,hgv,hcs0⟩:=zDc hS (f:=g) (F:=F) (cs:=args.map .r) (by rw[hF];rfl)
 obtain⟨rec,hrec⟩:∃ rec:LoopState→Option Code→Loop,rec=fun st pe=>{ state:=st,pending:=pe,fn,tmps:=a.tmps,params:=ps,assign,body,defers:=w.heap.size }:=⟨_,rfl⟩
 obtain⟨w1,hw1⟩:∃ w1,(w.alloc (.deferred (some []))).alloc (.loop (rec .ready none))=w1:=⟨_,rfl⟩
 obtain⟨L,hLdef⟩:∃ L,L=w.heap.size+1:=⟨_,rfl⟩
 obtain⟨aL,haL⟩:∃ aL:Act,aL={ tmps:=a.tmps,defers:={ target:=.collected w.heap.size,args:=#[] }::a.defers }:=⟨_,rfl⟩
 have hS1:SR C p s aL w1:=by rw[haL,← hw1];exact hS.enter hrd _
 have hsz1:w1.heap.size=w.heap.size+2:=by rw[← hw1];simp
 have hL1:w1.heap[L]? = some (.loop (rec .ready none)):=by
  rw[← hw1,hLdef];have:=World.alloc_heap_new (w.alloc (.deferred (some []))) (.loop (rec .ready none));rwa [World.size_alloc] at this
 have hLR:¬ p.R L:=fun h=>by have:=hS.rb L h;omega
 have hLβ:∀ k,p.β k≠some L:=fun k h=>by have:=(hS.bl k L h).1;omega
 have hLΨ:¬ p.Ψ L:=fun h=>by have:=hS.ex.ψl L h;omega
 have hLΘ:¬ p.Θ L:=fun h=>by have:=hS.ex.θl L h;omega
 have hL0:C.w0.heap.size≤L:=by have:=hS.base.size;omega
 have hLm:∀ d∈aL.defers,d.target ≠ .collected L:=fun d hd e=>by
  obtain⟨Ds,g1,_,g3⟩:=hS1.ex.df
  rw[g1] at hd
  obtain⟨D,hD,rfl⟩:=List.mem_map.1 hd
  injection e with e
  subst e
  have:=(g3 _ hD).1
  rw[hL1] at this;cases this
 obtain⟨us,hus⟩:∃ us,us=ts.map fun t=>aL.tmps.getD t undef:=⟨_,rfl⟩
 have hgh1:ghAt P ({ n:=s.n,tm:=fun _=>.r .un,rows:=upd s.rows 0 ⟨(s.rows 0).ver,.sus (ts.map s.tm) us⟩ }:AS):=by
  obtain⟨l,o,hg⟩:=hgh
  refine⟨l,o,?_⟩
  show (upd s.rows 0 ⟨(s.rows 0).ver,.sus (ts.map s.tm) us⟩ 999).c=_
  rw[zuo _ _ (by decide)];exact hg
 have hz0:C.X.z=false:=by obtain⟨l,o,hg⟩:=hgh;exact (hS.gh_of hg).2.1
 have hS2:=hS1.wait hdead ts
 rw[← hus,← look_nil'] at hS2
 rw[← look_nil'] at hgh1
 have htmps:aL.tmps=a.tmps:=by rw[haL]
 have hsn:s.n=aL.tmps.size:=by rw[htmps];exact hS.sz.symm
 let X:XS:={ l:=L,z:=z,n0:=w1.heap.size,R:=p.R,X:=XJY P C aL L rec (fun left s'=>I left us s') (fun c s'=>J c us s'),st:=XJY.st }
 have hcap:RV.relV w1 p.R args vsC.toList:=by
  have hk:Kept w w1 p p s.ver s.ver:=⟨fun _ h=>h,fun ad hr=>World.cell?_of_block (by rw[← hw1];exact (Below.heap_alloc _ _ _ (by have:=hS.rb _ hr;simp;omega)).trans (Below.heap_alloc _ _ _ (hS.rb _ hr))),fun _=>Nat.le_refl _,fun _ _=>⟨rfl,rfl⟩⟩
  have hV:=AV.relV_mono hk _ _ hcs0
  have hp:AV.pureL (args.map .r)=true:=by clear hI hF hV hcs0;induction args with|nil=>rfl|cons c cs ih=>simpa [AV.pureL,AV.pure] using ih
  have h1:=zBb (rows:=fun _=>⟨0,.dead⟩) _ _ hp hV
  rw[zEu] at h1
  exact h1
 have hY:YOk P X:=by
  intro e rest wv Ψ Θ R vs hX hR hV
  obtain⟨pv,sv,hSv,hsnv,hgv',⟨hIv,hLv⟩,hLRv,hLβv,hLΨv,hLΘv,hΨv,hΘv⟩:=hX
  obtain⟨hlen,avs,hrow,hround⟩:=round e rest us sv (hsnv.trans hsn.symm) hIv
  have hvs:vs.size=ps.size:=by have:=RV.relV_length hV;simp only[Array.length_toList] at this;omega
  have hltv:L<wv.heap.size:=(Array.getElem?_eq_some_iff.1 hLv).1
  have hy:=run_yield (P:=P) (args:=vs) hLv (by rw[hrec];exact hvs)
  rw[hrec] at hy
  refine⟨fn,_,assign,body,hy,?_⟩
  have hRY:∀ b,R b→b<wv.heap.size∧(∀ k,pv.β k≠some b)∧¬ pv.Θ b∧(C.X.R b∨C.X.n0≤b):=fun b hb=>by
   refine⟨(hR b hb).1,fun k hk=>(hR b hb).2.1 ((hΘv b).2 (.inl ⟨k,hk⟩)),fun h=>(hR b hb).2.1 ((hΘv b).2 (.inr (.inr h))),?_⟩
   rcases (hR b hb).2.2 with q|q
   ·exact hS.yr hz0 q
   ·have q':w1.heap.size≤b:=q
    have:=hS.ex.n0
    have:=hS.base.size
    exact .inr (by omega)
  have hRL:¬ R L:=fun hb=>(hR L hb).2.1 ((hΘv L).2 (.inr (.inl rfl)))
  have hkv:Kept wv wv pv (zOL C pv R wv.heap.size) sv.ver sv.ver:=⟨fun _ h=>.inl h,fun _ _=>rfl,fun _=>Nat.le_refl _,fun _ _=>⟨rfl,rfl⟩⟩
  have haw:=hSv.awake (by rw[hrow,hus])
  have hzip:(ps.zip vs).foldl (fun tmps (x:Nat × Value)=>tmps.setIfInBounds x.1 x.2) a.tmps=(ps.toList.zip vs.toList).foldl (fun tmps (x:Nat × Value)=>tmps.setIfInBounds x.1 x.2) a.tmps:=by
   rw[← Array.foldl_toList,Array.toList_zip]
  obtain⟨hpsz,hprel⟩:=zFi (w:=wv) (p:=zOL C pv R wv.heap.size) (ver:=sv.ver) ps.toList e vs.toList (look (ts.zip avs)) a.tmps (RV.relV_mono (fun _ h=>.inr h) (fun _ _=>rfl) _ _ hV)
   (fun t ht=>by rw[← htmps,← hsn];exact hps t ht) (fun t=>by rw[← htmps];exact AV.rel_mono hkv _ _ (haw.tm t))
  let Hd:Nat→Prop:=fun b=>b=L∨∃ d∈aL.defers,d.target = .collected b
  have hHd:∀ b,Hd b→b<wv.heap.size∧¬ C.bor b∧¬ pv.R b∧¬ R b∧(∀ k,pv.β k≠some b)∧¬ pv.Ψ b∧¬ pv.Θ b:=fun b hb=>by
   rcases hb with rfl|⟨d,hd,hdt⟩
   ·exact⟨hltv,fun hb=>by have:=hS.ex.bo b (.inl hb);omega,hLRv,hRL,hLβv,hLΨv,hLΘv⟩
   ·obtain⟨Ds,g1,_,g3⟩:=hSv.ex.df
    rw[g1] at hd
    obtain⟨D,hD,rfl⟩:=List.mem_map.1 hd
    injection hdt with hdt
    subst hdt
    obtain⟨k1,k2,k3,k4,k5,k6⟩:=g3 D hD
    refine⟨(Array.getElem?_eq_some_iff.1 k1).1,fun hb=>by have:=hS.ex.bo D (.inl hb);omega,k3,fun hr=>?_,k4,k5,k6⟩
    have hD1:D<w1.heap.size:=by
     obtain⟨Ds',q1,_,q3⟩:=hS1.ex.df
     have:Ds'=Ds:=zA3 (q1.symm.trans g1)
     subst this
     exact (Array.getElem?_eq_some_iff.1 (q3 D hD).1).1
    rcases (hR D hr).2.2 with q|q
    ·obtain⟨Ds',q1,_,q3⟩:=hS1.ex.df
     have:Ds'=Ds:=zA3 (q1.symm.trans g1)
     subst this
     exact (q3 D hD).2.2.1 q
    ·have q':w1.heap.size≤D:=q
     omega
  have hSa:=hSv.intoY (L:=L) (w2:=wv) (R:=R) (rd:=some L) (Hd:=Hd) (a':={ tmps:=(ps.zip vs).foldl (fun tmps (x:Nat × Value)=>tmps.setIfInBounds x.1 x.2) a.tmps,defers:=[] }) (tm':=psA ps.toList e (look (ts.zip avs)))
   hgv' rfl rfl rfl rfl (fun _ _=>rfl) hLRv hLβv hLΨv hRY (fun t=>by rw[hzip];exact hprel t) (by rw[hzip,hpsz,← htmps];exact hsnv.symm) rfl hHd
  have hna:=hsnv.trans hsn.symm
  refine roundIn_of_wpIn trivial ?_
  have hassign:=hround (CinY C pv R wv (some L) Hd) _ _ ⟨_,hna▸hSa⟩
  refine wpIn_mono hassign ?_
  rintro x a1 wa ⟨s1,⟨p1,hS1a⟩,rfl,hga,hbody⟩
  have hnotb:∀ b,Hd b→¬ (CinY C pv R wv (some L) Hd).bor b:=fun b hb g=>g.elim (fun g=>(hHd b hb).2.1 g.1) (hHd b hb).2.2.2.2.2.2
  have hLa:wa.heap[L]? = some (.loop (rec .ready none)):=(hS1a.base.block L hltv (hnotb L (.inl rfl)) (fun ⟨k,hk,_⟩=>hLβv k hk)).trans hLv
  have hlta:L<wa.heap.size:=(Array.getElem?_eq_some_iff.1 hLa).1
  refine⟨_,run_beginRound hLa (by rw[hrec]),?_⟩
  have hop1:=HopY.of (L:=L) (w:=wv) (w2:=wv) rfl rfl rfl rfl (fun _ _=>rfl) hS1a hga
  have hHd1:∀ b,Hd b→b<wa.heap.size∧¬ (CinY C pv R wv (some L) Hd).bor b∧¬ p1.R b∧¬ False∧(∀ k,p1.β k≠some b)∧¬ p1.Ψ b∧¬ p1.Θ b:=fun b hb=>by
   obtain⟨_,q2,_,q4,q5,q6,q7,q8⟩:=hS1a.ex.hd b hb
   exact⟨q4,q2,q5,fun h=>h,q8,q6,q7⟩
  have hL1h:=hHd1 L (.inl rfl)
  have hS1b:=hS1a.intoY (L:=L) (w2:=wa.putObj L (.loop { rec .ready none with state:=.busy })) (R:=fun _=>False) (rd:=some L) (Hd:=Hd) (a':=a1) (tm':=s1.tm) hga rfl rfl rfl World.putObj_size zAC
   hL1h.2.2.1 hL1h.2.2.2.2.1 hL1h.2.2.2.2.2.1 (fun _ h=>h.elim) (fun t=>by
    have hk1:Kept wa (wa.putObj L (.loop { rec .ready none with state:=.busy })) p1 (zOL (CinY C pv R wv (some L) Hd) p1 (fun _=>False) (wa.putObj L (.loop { rec .ready none with state:=.busy })).heap.size) s1.ver s1.ver :=
     ⟨fun _ h=>.inl h,fun ad hr=>World.cell?_of_block (zAC _ fun e=>hL1h.2.2.1 (e▸hr)),fun _=>Nat.le_refl _,fun _ _=>⟨rfl,rfl⟩⟩
    exact AV.rel_mono hk1 _ _ (hS1a.tm t)) hS1a.sz (hS1a.ex.rm rfl) hHd1
  refine wpIn_mono (hbody _ _ _ ⟨_,hS1b⟩) ?_
  have hLb:(wa.putObj L (.loop { rec .ready none with state:=.busy })).heap[L]? = some (.loop { rec .ready none with state:=.busy }):=World.putObj_heap_same hlta
  have hRo:∀ b,R b→b<wv.heap.size∧(∀ d∈aL.defers,d.target ≠ .collected b)∧¬ C.hd b∧(C.R0 b∨C.w0.heap.size≤b∨C.own b):=fun b hb=>by
   have hsz0:=hS.base.size
   refine⟨(hR b hb).1,fun d hd hdt=>(hHd b (.inr ⟨d,hd,hdt⟩)).2.2.2.1 hb,fun hh=>?_,?_⟩
   ·obtain⟨q1,_,_,_,q5,_⟩:=hS.ex.hd b hh
    rcases (hR b hb).2.2 with q|q
    ·exact q5 q
    ·have q':w1.heap.size≤b:=q;omega
   ·rcases (hR b hb).2.2 with q|q
    ·exact hS.rn b q
    ·have q':w1.heap.size≤b:=q;exact .inr (.inl (by omega))
  have fin:∀ (jump:Option Code) (s3:AS) (p3:Plan) (a3:Act) (w3:World),SR (CinY (CinY C pv R wv (some L) Hd) p1 (fun _=>False) (wa.putObj L (.loop { rec .ready none with state:=.busy })) (some L) Hd) p3 s3 a3 w3 →
   (match jump with|none=>∃ s4,Sub s3 s4∧ghAt P s4∧I rest us ⟨s.n,look [],s4.rows⟩|some c=>∃ s4,Sub s3 s4∧ghAt P s4∧J c us ⟨s.n,look [],s4.rows⟩) →
   ∃ v w', (Instr.endRound L jump).run P w3 = .ok v w'∧(w'.os=wv.os∧w'.tape=wv.tape∧w'.output=wv.output∧wv.heap.size≤w'.heap.size∧(∀ b, b<wv.heap.size→¬ Θ b→w'.heap[b]? = wv.heap[b]?) ∧
     ∃ Ψ' Θ':Nat→Prop,(∀ b,Ψ' b→Ψ b∨R b∨wv.heap.size≤b)∧(∀ b,Θ' b→Θ b∨wv.heap.size≤b)∧(∀ b,Ψ' b→b<w'.heap.size)∧(∀ b,Θ' b→b<w'.heap.size) ∧
     ((Ending.returned v = .returned (.bool true)∧X.X (some rest) w' Ψ' Θ')∨(Ending.returned v = .returned (.bool false)∧X.X Option.none w' Ψ' Θ'))):=by
   intro jump s30 p30 a3 w3 h30 hj0
   obtain⟨s3,hsub,hg3,hj⟩:∃ s4,Sub s30 s4∧ghAt P s4∧(match jump with|none=>I rest us ⟨s.n,look [],s4.rows⟩|some c=>J c us ⟨s.n,look [],s4.rows⟩):=by
    cases jump with
    | none=>exact hj0
    | some c=>exact hj0
   obtain⟨p3,h3⟩:=hsub _ _ _ ⟨p30,h30⟩
   have hL3:w3.heap[L]? = some (.loop { rec .ready none with state:=.busy }):=by
    refine (h3.base.block L (by show L<(wa.putObj L _).heap.size;rw[World.putObj_size];exact hlta) (fun g=>g.elim (fun g=>hL1h.2.1 g.1) hL1h.2.2.2.2.2.2) (fun ⟨k,hk,_⟩=>hL1h.2.2.2.2.1 k hk)).trans hLb
   obtain⟨_,_,_,_,e5,e6,e7,e8⟩:=h3.ex.hd L (.inl rfl)
   have hend:=run_endRound (P:=P) jump hL3
   have hlt3:L<w3.heap.size:=(Array.getElem?_eq_some_iff.1 hL3).1
   have hop2:=HopY.of (C:=CinY C pv R wv (some L) Hd) (p:=p1) (L:=L) (w:=wa) (w2:=wa.putObj L (.loop { rec .ready none with state:=.busy })) (R:=fun _=>False) rfl rfl rfl World.putObj_size zAC h3 hg3
   obtain⟨o4,ho4⟩:∃ o4,o4=Obj.loop { { rec .ready none with state:=.busy } with state:=if jump.isNone then .ready else .done,pending:=jump }:=⟨_,rfl⟩
   rw[← ho4] at hend
   have hop:=(HopY.trans (C':=CinY C pv R wv (some L) Hd) hop1 (fun _=>Iff.rfl) hop2).put (o:=o4)
   have hL4:(w3.putObj L o4).heap[L]? = some (.loop (rec (if jump.isNone then .ready else .done) jump)):=by
    rw[World.putObj_heap_same hlt3,ho4,hrec]
   have hS4:SR C { p3 with X:=C.X } ⟨s.n,look [],s3.rows⟩ aL (w3.putObj L o4):=by
    have:=hSv.landY (C':=CinY (CinY C pv R wv (some L) Hd) p1 (fun _=>False) (wa.putObj L (.loop { rec .ready none with state:=.busy })) (some L) Hd) hgv' hL0 hLm hop hRo rfl (fun o w Ψ Θ h=>h.1.1) h3 hg3 e5 e8 e6 rfl rfl rfl rfl World.putObj_size zAC
    rw[hna,← look_nil'] at this
    exact this
   refine⟨_,_,hend,hop.os,hop.tape,hop.output,hop.size,fun b hb hθ=>hop.heap b hb (fun k hk=>hθ ((hΘv b).2 (.inl ⟨k,hk⟩))) (fun h=>hθ ((hΘv b).2 (.inr (.inr h)))) (fun e=>hθ ((hΘv b).2 (.inr (.inl e)))),
    fun b=>p3.R b∨(∃ k,p3.β k=some b)∨(b<C.w0.heap.size∧¬ C.bor b∧¬ C.own b)∨b=L∨C.hd b∨(∃ d∈aL.defers,d.target = .collected b)∨p3.Ψ b∨p3.Θ b,fun b=>(∃ k,p3.β k=some b)∨b=L∨p3.Θ b,fun b hb=>?_,fun b hb=>?_,fun b hb=>?_,fun b hb=>?_,?_⟩
   ·have hown:ownY C pv b→Ψ b:=fun ⟨k,q,_⟩=>(hΨv b).2 (.inr (.inl ⟨k,q⟩))
    have hrr:p3.R b→Ψ b∨R b∨wv.heap.size≤b:=fun g=>by
     rcases hop.rn b g with q|q|q|q
     ·exact .inl ((hΨv b).2 (.inl q))
     ·exact .inr (.inl q)
     ·exact .inr (.inr q)
     ·exact .inl (hown q)
    have hpsi:pv.Ψ b→Ψ b:=fun q=>(hΨv b).2 (.inr (.inr (.inr (.inr (.inr (.inr (.inl q)))))))
    have hthe:pv.Θ b→Ψ b:=fun q=>(hΨv b).2 (.inr (.inr (.inr (.inr (.inr (.inr (.inr q)))))))
    rcases hb with g|⟨k,g⟩|g|g|g|g|g|g
    ·exact hrr g
    ·rcases hop.bl k b g with q|⟨_,_,k',_,q⟩|⟨_,q⟩|q
     ·exact .inr (.inr q)
     ·exact .inl ((hΨv b).2 (.inr (.inl ⟨k',q⟩)))
     ·exact .inl (hthe q)
     ·exact .inl (hown q)
    ·exact .inl ((hΨv b).2 (.inr (.inr (.inl g))))
    ·exact .inl ((hΨv b).2 (.inr (.inr (.inr (.inl g)))))
    ·exact .inl ((hΨv b).2 (.inr (.inr (.inr (.inr (.inl g))))))
    ·exact .inl ((hΨv b).2 (.inr (.inr (.inr (.inr (.inr (.inl g)))))))
    ·rcases hop.psi b g with q|q|q|q|q
     ·exact .inl (hpsi q)
     ·exact .inl ((hΨv b).2 (.inl q))
     ·exact .inr (.inl q)
     ·exact .inl (hown q)
     ·exact .inr (.inr q)
    ·rcases hop.theta b g with q|q
     ·exact .inl (hthe q)
     ·exact .inr (.inr q)
   ·rcases hb with⟨k,g⟩|g|g
    ·rcases hop.bl k b g with q|⟨_,_,k',_,q⟩|⟨_,q⟩|⟨k',q,_⟩
     ·exact .inr q
     ·exact .inl ((hΘv b).2 (.inl ⟨k',q⟩))
     ·exact .inl ((hΘv b).2 (.inr (.inr q)))
     ·exact .inl ((hΘv b).2 (.inl ⟨k',q⟩))
    ·exact .inl ((hΘv b).2 (.inr (.inl g)))
    ·rcases hop.theta b g with q|q
     ·exact .inl ((hΘv b).2 (.inr (.inr q)))
     ·exact .inr q
   ·have hsz4:=hS4.base.size
    rcases hb with g|⟨k,g⟩|g|rfl|g|⟨d,hd,hdt⟩|g|g
    ·exact hS4.rb b g
    ·exact (hS4.bl k b g).1
    ·omega
    ·rw[World.putObj_size];exact hlt3
    ·exact (hS4.ex.hd b g).2.2.2.1
    ·exact Nat.lt_of_lt_of_le (hHd b (.inr ⟨d,hd,hdt⟩)).1 hop.size
    ·exact hS4.ex.ψl b g
    ·exact hS4.ex.θl b g
   ·rcases hb with⟨k,g⟩|rfl|g
    ·exact (hS4.bl k b g).1
    ·rw[World.putObj_size];exact hlt3
    ·exact hS4.ex.θl b g
   ·cases jump with
    | none=>exact .inl ⟨rfl,{ p3 with X:=C.X },_,hS4,hsn,hg3,⟨hj,hL4⟩,e5,e8,e6,e7,fun _=>Iff.rfl,fun _=>Iff.rfl⟩
    | some c=>exact .inr ⟨rfl,{ p3 with X:=C.X },_,hS4,hsn,hg3,⟨c,hj,hL4⟩,e5,e8,e6,e7,fun _=>Iff.rfl,fun _=>Iff.rfl⟩
  rintro en a3 w3 ⟨s3,⟨p3,h3⟩,hq⟩
  cases en with
  | normal=>exact fin none s3 p3 a3 w3 h3 hq
  | ret=>exact fin (some .ret) s3 p3 a3 w3 h3 hq
  | exit id=>exact fin (some (.exit id)) s3 p3 a3 w3 h3 hq
  | goto l=>exact hq.elim
  | panic ch=>exact hq.elim
  | outgrown=>exact hq.elim
 have hX0:X.X (some xs) w1 (fun b=>p.R b∨(∃ k,p.β k=some b)∨(b<C.w0.heap.size∧¬ C.bor b∧¬ C.own b)∨b=L∨C.hd b∨(∃ d∈aL.defers,d.target = .collected b)∨p.Ψ b∨p.Θ b) (fun b=>(∃ k,p.β k=some b)∨b=L∨p.Θ b) :=
  ⟨p,_,hS2,hsn,hgh1,⟨h0 us,hL1⟩,hLR,hLβ,hLΨ,hLΘ,fun _=>Iff.rfl,fun _=>Iff.rfl⟩
 have hlt1:L<w1.heap.size:=(Array.getElem?_eq_some_iff.1 hL1).1
 have hcall:=hI.2 w1 p.R vsC X _ _ hS1.rb hcap rfl (fun _ b hb=>hb) (Nat.le_refl _) hY (fun b hb=>by
  have hszw:=hS1.base.size
  rcases hb with g|⟨k,g⟩|g|rfl|g|⟨d,hd,hdt⟩|g|g
  ·exact hS1.rb b g
  ·exact (hS1.bl k b g).1
  ·omega
  ·exact hlt1
  ·exact (hS1.ex.hd b g).2.2.2.1
  ·obtain⟨Ds,g1,_,g3⟩:=hS1.ex.df
   rw[g1] at hd
   obtain⟨D,hD,rfl⟩:=List.mem_map.1 hd
   injection hdt with hdt
   subst hdt
   exact (Array.getElem?_eq_some_iff.1 (g3 D hD).1).1
  ·exact hS1.ex.ψl b g
  ·exact hS1.ex.θl b g) (fun b hb=>by
  rcases hb with⟨k,g⟩|rfl|g
  ·exact (hS1.bl k b g).1
  ·exact hlt1
  ·exact hS1.ex.θl b g) (fun b hb hθ=>by
  rcases hθ with⟨k,g⟩|rfl|g
  ·exact (hS1.bl k b g).2.1 hb
  ·exact hLR hb
  ·exact hS1.ex.ψr b hb g) hX0
 have e1:(Instr.enterLoop fn a.tmps ps assign body none).run P w = .ok (L,[{ target:=.collected w.heap.size,args:=#[] }]) w1:=by
  rw[run_enterLoop_outer,← hw1,hrec,hLdef]
 have e2:(resolve a.eval (rangeCall g L) 0).run P w1 = .ok { target:=.fn (.func F) vsC,args:=#[.func (.yield L) #[] #[]] } w1:=by
  simp only[resolve,hgv,Sem.run_bind,Deferred.ofValue,Sem.run_pure,Result.andThen_ok]
  simp [Act.eval]
 have e3:(invoke (.fn (.func F) vsC) #[.func (.yield L) #[] #[]]).run P w1 = .ok (.enter F (#[.func (.yield L) #[] #[]]++vsC)) w1:=by
  simp only[invoke];exact zAn hI.1 _ _
 have e4:Fence.wide.depth.isSome=true→1≤0:=fun h=>by simp [Fence.wide] at h
 refine⟨L,_,w1,_,w1,F,_,w1,e1,e2,?_,e3,e4,?_⟩
 ·intro f' _;exact trivial
 ·refine callsIn_wide.2 (hcall.mono ?_)
  have haL':({ a with defers:=[{ target:=.collected w.heap.size,args:=#[] }]++a.defers }:Act)=aL:=by rw[haL];rfl
  rintro e w' ⟨⟨v,rfl⟩,Ψ',Θ',hX|hX⟩
  ·obtain⟨p',s',hS',hsn',hg',⟨hI',hL'⟩,hLR',hLβ',hLΨ',_⟩:=hX
   have hend:=run_endLoop (P:=P) hL' (by rw[hrec];simp)
   have hp:(rec .ready none).pending=none:=by rw[hrec]
   rw[hp] at hend
   refine⟨none,_,hend,?_⟩
   obtain⟨avs,hrow,hQ⟩:=done us s' (hsn'.trans hsn.symm) hI'
   have hS4:∀ o,SR C p' ⟨s.n,look (ts.zip avs),s'.rows⟩ aL (w'.putObj L o):=fun o=>by
    have:=(hS'.turnY (o:=o) hLR' hLβ' hL0 hLΨ' hLm).awake (by rw[hrow,hus])
    rw[hsn'.trans hsn.symm] at this
    exact this
   rw[haL']
   exact⟨_,⟨_,hS4 _⟩,hQ⟩
  ·obtain⟨p',s',hS',hsn',hg',⟨c,hJ',hL'⟩,hLR',hLβ',hLΨ',_⟩:=hX
   have hend:=run_endLoop (P:=P) hL' (by rw[hrec];simp)
   have hp:(rec .done (some c)).pending=some c:=by rw[hrec]
   rw[hp] at hend
   refine⟨some c,_,hend,?_⟩
   obtain⟨avs,hrow,hQ⟩:=stop c us s' (hsn'.trans hsn.symm) hJ'
   have hS4:∀ o,SR C p' ⟨s.n,look (ts.zip avs),s'.rows⟩ aL (w'.putObj L o):=fun o=>by
    have:=(hS'.turnY (o:=o) hLR' hLβ' hL0 hLΨ' hLm).awake (by rw[hrow,hus])
    rw[hsn'.trans hsn.symm] at this
    exact this
   have hQ':=fun o=>hQ _ _ ⟨_,hS4 o⟩
   rw[hF0] at hQ'
   rw[haL']
   exact hQ' _
end
def zLY (P:Program) (n:Nat) (ts:List Nat) (Q:Exit→AS→Prop) (N:AS→Prop) (us:List Value):Exit→AS→Prop
 | .normal,s=>N s
 | .ret,s=>ghAt P s∧∃ avs,(s.rows 0).c = .sus avs us∧Q .ret ⟨n,look (ts.zip avs),s.rows⟩
 | .exit id,s=>ghAt P s∧∃ avs,(s.rows 0).c = .sus avs us∧Q (.exit id) ⟨n,look (ts.zip avs),s.rows⟩
 | _,_=>False
theorem zHR {P:Program}{n:Nat}{ts:List Nat}{Q:Exit→AS→Prop}{N:AS→Prop}{us:List Value}{s:AS}:zLY P n ts Q N us .normal s=N s:=rfl
theorem zTo {P:Program}{n:Nat}{ts:List Nat}{Q:Exit→AS→Prop}{N:AS→Prop}{us:List Value}{l:List (Nat × AV)}{vs:Nat→Nat}{cs:List (Nat × RowC)}{ll:Nat}{o:Option (List (List RV))}{avs:List AV}(hg:zAG cs 999 = .gh P ll false o) (h:zAG cs 0 = .sus avs us) (hq:Q .ret (st n (ts.zip avs) vs cs)) :
 zLY P n ts Q N us .ret (st n l vs cs):=⟨⟨ll,o,hg⟩,avs,h,hq⟩
attribute [go_sem] zHR
theorem zMK {P:Program}{C:Ctx}{n:Nat}{s:AS}{t:Nat}{ps:Array Tmp}{assign body:Code}{Q:Exit→AS→Prop}(hC:C.rd=none) {f:FuncId}{caps:List RV}{z:Bool}(xs:List (List RV)) (hI:zGD P z f caps xs)
 (ts:List Nat) (hnd:ts.Nodup) (F:(Nat→Nat)→List (Nat × AV)) (R:Nat→(Nat→Nat)→List (Nat × RowC)) (I:Nat→Prop) (h0:FitV n F (R 0) s) (hi0:I 0)
 (hts:∀ vs,(F vs).map (·.1)=ts) (hg:∀ vs,look (F vs) t = .r (.fn f caps)) (hd:∀ i vs,zAG (R i vs) 0 = .dead) (hgh:∀ i vs,∃ l o,zAG (R i vs) 999 = .gh P l false o) (hps:∀ t∈ps.toList,t<n) (hlen:∀ e∈xs,e.length=ps.size)
 (round:∀ i e vs us C,xs[i]? = some e→I i→awp P C assign (fun x s2=>x = .normal∧ghAt P s2∧∀ C,awp P C body (zLY P n ts Q (fun s3=>I (i+1)∧∃ vs',Sub s3 (st n [] vs' ((0,.sus ((F vs').map (·.2)) us)::R (i+1) vs'))) us) s2)
  (st n (psL ps.toList e (F vs)) vs ((0,.sus ((F vs).map (·.2)) us)::R i vs)))
 (done:∀ vs us,I xs.length→Q .normal (st n (F vs) vs ((0,.sus ((F vs).map (·.2)) us)::R xs.length vs))):awp P C (.rangeFunc (.tmp t) ps assign body) Q s:=by
 obtain⟨vs0,h0⟩:=h0
 refine zw h0 ?_
 have hdrop:∀ i e rest,xs.drop i=e::rest→xs[i]? = some e∧xs.drop (i+1)=rest:=fun i e rest h=>by
  refine⟨?_,by rw[← List.drop_drop,h];rfl⟩
  have:(xs.drop i)[0]? = some e:=by rw[h];rfl
  simpa using this
 have hz:∀ vs,ts.zip ((F vs).map (·.2))=F vs:=fun vs=>by rw[← hts vs];exact zD9 _
 have hgs:∀ (i:Nat) (vs:Nat→Nat) (l:List (Nat × AV)) (x:RowC),ghAt P (st n l vs ((0,x)::R i vs)):=fun i vs l x=>by
  obtain⟨q,o,h⟩:=hgh i vs
  refine⟨q,o,?_⟩
  show zAG ((0,x)::R i vs) 999=_
  rw[zlc,if_neg (by decide)];exact h
 refine zHY hC (hgh 0 vs0) (F:=f) (args:=caps) (xs:=xs) (z:=z) (by
  show look (F vs0) t=_
  rw[hg]) hI (hd 0 vs0) ts hps
  (fun left us s'=>∃ i vs,left=xs.drop i∧i≤xs.length∧I i∧s'=st n [] vs ((0,.sus ((F vs).map (·.2)) us)::R i vs))
  (fun c us s'=>∃ avs,(s'.rows 0).c = .sus avs us∧((c = .ret∧Q .ret ⟨n,look (ts.zip avs),s'.rows⟩)∨∃ id,c = .exit id∧Q (.exit id) ⟨n,look (ts.zip avs),s'.rows⟩))
  (fun us=>⟨0,vs0,rfl,Nat.zero_le _,hi0,?_⟩) ?_ ?_ ?_
 ·refine (zCW (c:=.sus (ts.map (st n (F vs0) vs0 (R 0 vs0)).tm) us)).trans ?_
  congr 3
  have hk:(F vs0).map (·.2)=ts.map (look (F vs0)):=by
   have:=zDJ (F vs0) (by rw[hts vs0];exact hnd)
   rw[hts vs0] at this
   exact this
  rw[hk];rfl
 ·rintro e rest us s' _ ⟨i,vs,hl,hle,hI',rfl⟩
  obtain⟨h1,h2⟩:=hdrop i e rest hl.symm
  refine⟨hlen e (List.mem_of_getElem? h1),(F vs).map (·.2),rfl,fun C'=>?_⟩
  have hr:=round i e vs us C' h1 hI'
  rw[hz,zEF]
  refine zAi ?_ hr
  rintro x s2 ⟨hx,hg2,hbody⟩
  refine⟨hx,hg2,fun C''=>zAi ?_ (hbody C'')⟩
  intro x s3 hq
  cases x with
  | normal =>
    obtain⟨hI3,vs',hsub⟩:=hq
    refine⟨_,hsub,hgs _ _ _ _,i+1,vs',h2.symm,?_,hI3,rfl⟩
    have:=(List.getElem?_eq_some_iff.1 h1).1
    omega
  | ret =>
    obtain⟨hg3,avs,h3,h4⟩:=hq
    exact⟨s3,Sub.refl _,hg3,avs,h3,.inl ⟨rfl,h4⟩⟩
  | exit id =>
    obtain⟨hg3,avs,h3,h4⟩:=hq
    exact⟨s3,Sub.refl _,hg3,avs,h3,.inr ⟨id,rfl,h4⟩⟩
  | goto l=>exact hq.elim
  | panic c=>exact hq.elim
  | outgrown=>exact hq.elim
 ·rintro us s' _ ⟨i,vs,hl,hle,hI',rfl⟩
  have hi:i=xs.length:=by
   have:(xs.drop i).length=0:=by rw[← hl];rfl
   rw[List.length_drop] at this;omega
  subst hi
  refine⟨(F vs).map (·.2),rfl,?_⟩
  have:=done vs us hI'
  rw[hz]
  exact this
 ·rintro c us s' _ ⟨avs,h3,h4⟩
  refine⟨avs,h3,?_⟩
  rcases h4 with⟨rfl,h4⟩|⟨id,rfl,h4⟩
  ·exact ze h4
  ·exact zf h4
end Go.Oc

namespace Go.Oc
open Go Go.RowKit
def yop (P:Program) (o:Oper) (K:AS→Prop) (s:AS):Prop :=
 match o.op,o.dst with
 | .call ⟨.value f,args,ts⟩,some d=>∃ (F:FuncId) (cs:List AV) (ar:Nat→List RV) (xs rest:List (List RV)) (ll:Nat),zAf (s.ev f)=some (F,cs)∧(s.rows 999).c = .gh P ll false (some (xs++rest))∧AV.pureL (args.toList.map s.ev++cs)=true ∧
  RV.leL (zAc s.rows (args.toList.map s.ev++cs)) (ar ll)∧zIQ P F ar xs∧K ((s.row 999 ⟨(s.rows 999).ver,.gh P ll false (some rest)⟩).put (some d) (.r (.bo true)))∧K ((s.row 999 ⟨(s.rows 999).ver,.gh P ll false none⟩).put (some d) (.r (.bo false)))
 | _,_=>False
def xopY (P:Program) (o:Oper) (K:AS→Prop) (s:AS):Prop:=xopL P o K s∨yop P o K s
def zNS (ops:Array Oper) (s:AS) (o:Oper):Prop :=
 match o.guard with
 | none=>True
 | some (g,want)=>∃ t,((ops[g]?).bind (·.dst):Option Nat)=some t∧s.tm t = .r (.bo want)
theorem zVW {ops:Array Oper}{s:AS}{o:Oper}(h:zNS ops s o):zAN ops s o=some true:=by
 unfold zNS at h
 unfold zAN
 split at h
 ·rename_i e;rw[e]
 ·rename_i g want e
  obtain⟨t,h1,h2⟩:=h
  rw[e]
  simp only[h1,h2,BEq.rfl]
def zNf (ops:Array Oper) (s:AS) (o:Oper):Prop :=
 match o.guard with
 | none=>False
 | some (g,want)=>∃ t,((ops[g]?).bind (·.dst):Option Nat)=some t∧(s.tm t = .r (.bo (!want))∨s.tm t = .r .ud)
theorem zVX {ops:Array Oper}{s:AS}{o:Oper}(h:zNf ops s o):zAN ops s o=some false:=by
 unfold zNf at h
 unfold zAN
 split at h
 ·exact h.elim
 ·rename_i g want e
  obtain⟨t,h1,h2⟩:=h
  rw[e]
  rcases h2 with h2|h2
  ·simp only[h1,h2]
   cases want<;>rfl
  ·simp only[h1,h2]
def FitG (n:Nat) (F:(Nat→Nat)→Bool→List (Nat × AV)) (R:(Nat→Nat)→Bool→List (Nat × RowC)) (s:AS):Prop:=∃ vs z,Sub s (st n (F vs z) vs (R vs z))
theorem zAB {n:Nat}{F:(Nat→Nat)→Bool→List (Nat × AV)}{R:(Nat→Nat)→Bool→List (Nat × RowC)}{s:AS}(z:Bool) (h:FitV n (fun vs=>F vs z) (fun vs=>R vs z) s):FitG n F R s:=by
 obtain⟨vs,h⟩:=h
 exact⟨vs,z,h⟩
section
variable {P:Program}{C:Ctx}{s:AS}
theorem zN8 {p:Plan}{a:Act}{w:World}{o:Oper}{KA:AS→Prop}(hp:SR C p s a w) (h:xopY P o KA s) (hd0:∀ t,o.dst=some t→t<s.n) {K:Act→World→Prop}{Q:Exit→Act→World→Prop}
 (hK:∀ a' w' p' s',SR C p' s' a' w'→s'.n=s.n→KA s'→K a' w') (hnd:∀ c,o.op ≠ .defer c):o.wpIn (fnc C.rd) 0 P a w K Q:=by
 rcases h with h|h
 ·exact zN9 hp h hd0 hK hnd
 unfold yop at h
 split at h
 ·rename_i f args ts d ho hd
  obtain⟨F,cs,ar,xs,rest,ll,hF,hrow,hpu,hle,hY,h1,h2⟩:=h
  have hdn:=hd0 d hd
  obtain⟨dst,op,ty,pos,af,gd⟩:=o
  simp only at ho hd
  subst ho hd
  refine zAa (by intro c h;cases h) ?_
  obtain⟨vs,hfv,hcs⟩:=zDc hp hF
  have hargs:=zDs hp args.toList
  have hall:=AV.relV_append hargs hcs
  have hlist:(args.map a.eval++vs).toList=args.toList.map a.eval++vs.toList:=by simp
  rw[← hlist] at hall
  have hV:=zDX _ _ _ hle (zBb (rows:=s.rows) _ _ hpu hall)
  have hr:=hp.rw 999
  rw[hrow] at hr
  simp only[zrl] at hr
  obtain⟨_,hβ,hγ,hl,hz,hYo,hX⟩:=hr
  have hrun:(execOp a.eval ⟨some d,.call ⟨.value f,args,ts⟩,ty,pos,af,gd⟩).run P w = .ok (.enter F (args.map a.eval++vs)) w:=by
   simp only[execOp,Sem.run_bind,resolve,hfv,Deferred.ofValue,Sem.run_pure,Result.andThen_ok,invoke]
   simpa using zAn hY.1 (args.map a.eval++vs) w
  unfold Oper.wp
  rw[hrun,Oper.upon_enter]
  have hzX:p.X.z=false:=hz
  have hz':C.X.z=false:=by rw[← hp.ex.px];exact hz
  refine (hY.2 rest w p.R _ p.X p.Ψ p.Θ hp.rb (by rw[hl];exact hV) hzX (fun b hb=>?_) ?_ hYo hp.ex.ψl hp.ex.θl hp.ex.ψr hX).mono ?_
  ·rw[hp.ex.px];exact hp.yr hz' hb
  ·rw[hp.ex.px];exact Nat.le_trans hp.ex.n0 hp.base.size
  rintro e w' ⟨g1,g2,g3,g4,g5,Ψ',Θ',g6,g7,g8,g9,g10⟩
  rcases g10 with⟨rfl,hX'⟩|⟨rfl,hX'⟩
  ·have hS:=hp.yielded hrow g1 g2 g3 g4 g5 (fun _ h=>h) g6 g7 g8 g9 hp.ex.px hX'
   have hput:=hS.put' (d:=some d) (av:=.r (.bo true)) (v:=.bool true) (by simp only[AV.rel,RV.rel]) (fun t ht=>by injection ht with ht;subst ht;exact hdn)
   exact hK _ _ _ _ hput rfl h1
  ·have hS:=hp.yielded hrow g1 g2 g3 g4 g5 (fun _ h=>h) g6 g7 g8 g9 hp.ex.px hX'
   have hput:=hS.put' (d:=some d) (av:=.r (.bo false)) (v:=.bool false) (by simp only[AV.rel,RV.rel]) (fun t ht=>by injection ht with ht;subst ht;exact hdn)
   exact hK _ _ _ _ hput rfl h2
 ·exact h.elim
end
def zGI (P:Program) (ops:Array Oper) (n:Nat) (F:(Nat→Bool)→(Nat→Nat)→Bool→List (Nat × AV)) (R:(Nat→Bool)→(Nat→Nat)→Bool→List (Nat × RowC)):Nat→List Oper→Prop
 | _,[]=>True
 | k,o::rest=>(∀ b vs z,(∀ j e,j<ops.size→(deps ops j).contains e=true→b j=true→b e=true)→b k=false→(∀ e∈deps ops k,b e=true) →
  (zNS ops (st n (F b vs z) vs (R b vs z)) o∧xopY P o (FitG n (F (upd b k true)) (R (upd b k true))) (st n (F b vs z) vs (R b vs z)))∨(zNf ops (st n (F b vs z) vs (R b vs z)) o∧FitG n (F (upd b k true)) (R (upd b k true)) ((st n (F b vs z) vs (R b vs z)).put o.dst (.r .ud))))∧zGI P ops n F R (k+1) rest
theorem zFx {P:Program}{ops:Array Oper}{n:Nat}{F:(Nat→Bool)→(Nat→Nat)→Bool→List (Nat × AV)}{R:(Nat→Bool)→(Nat→Nat)→Bool→List (Nat × RowC)}:∀ {l:List Oper}{k i:Nat}{o:Oper},zGI P ops n F R k l→l[i]? = some o →
 ∀ b vs z, (∀ j e, j<ops.size→(deps ops j).contains e=true→b j=true→b e=true)→b (k+i)=false→(∀ e∈deps ops (k+i), b e=true) →
   (zNS ops (st n (F b vs z) vs (R b vs z)) o∧xopY P o (FitG n (F (upd b (k+i) true)) (R (upd b (k+i) true))) (st n (F b vs z) vs (R b vs z)))∨(zNf ops (st n (F b vs z) vs (R b vs z)) o∧FitG n (F (upd b (k+i) true)) (R (upd b (k+i) true)) ((st n (F b vs z) vs (R b vs z)).put o.dst (.r .ud)))
 | [],_,_,_,_,h=>by simp at h
 | x::l, k, 0, o, hs, h=>by
   simp only[List.getElem?_cons_zero,Option.some.injEq] at h
   subst h
   exact hs.1
 | x::l, k, i+1, o, hs, h=>by
   have:=zFx (k:=k+1) (i:=i) hs.2 (by simpa using h)
   rwa [show k+1+i=k+(i+1) by omega] at this
section
variable {P:Program}{C:Ctx}{s:AS}{a:Act}{w:World}{ops:Array Oper}
theorem zSQ {Q:AS→Prop}{Q':Exit→Act→World→Prop}(hQ:∀ s a w,Q s→SRel C s a w→Q' .normal a w) {n:Nat}{F:(Nat→Bool)→(Nat→Nat)→Bool→List (Nat × AV)}{R:(Nat→Bool)→(Nat→Nat)→Bool→List (Nat × RowC)}
 (hd:zA9 ops n=true) (hu:upOk ops=true) (hstep:zGI P ops n F R 0 ops.toList)
 (hend:∀ b vs z,(∀ j,b j=true)→Q (st n (F b vs z) vs (R b vs z))) :
 ∀ (fuel:Nat) (vs:Nat→Nat) (z:Bool) (listed:Array Bool) (a:Act) (w:World), listed.size=ops.size→down ops listed→unl listed ops.size≤fuel→SRel C (st n (F (fun j=>listed.getD j true) vs z) vs (R (fun j=>listed.getD j true) vs z)) a w →
   wpAnyIn (fnc C.rd) 0 P .any ops Q' fuel listed a w:=by
 have all:∀ {listed:Array Bool},listed.size=ops.size→(∀ j,j<ops.size→listed.getD j true=true)→∀ j,(fun j=>listed.getD j true) j=true:=fun {listed} hsz h j=>by
  by_cases hj:j<ops.size
  ·exact h j hj
  ·show listed.getD j true=true
   have:¬ j<listed.size:=by omega
   simp [this]
 intro fuel
 induction fuel with
 | zero =>
   intro vs z listed a w hsz hdn hf hs
   have h0:=zIU (listed:=listed) ops.size (by omega)
   refine⟨List.eq_nil_iff_forall_not_mem.2 fun j hj=>?_,hQ _ _ _ (hend _ _ _ (all hsz h0)) hs⟩
   obtain⟨h1,o,ho,_⟩:=mem_ready.1 hj
   have:=h0 j (Array.getElem?_eq_some_iff.1 ho).1
   rw[this] at h1
   cases h1
 | succ fuel ih =>
   intro vs z listed a w hsz hdn hf hs
   refine⟨fun h0=>hQ _ _ _ (hend _ _ _ (all hsz (ready_nil hu h0 hsz))) hs,fun i hi=>?_⟩
   obtain⟨hi1,o,ho,hall⟩:=mem_ready.1 hi
   unfold wpOpIn
   rw[ho]
   simp only
   have hil:i<ops.size:=(Array.getElem?_eq_some_iff.1 ho).1
   obtain⟨p,hp⟩:=hs
   have hx:=zFx (k:=0) (i:=i) hstep (by rw[Array.getElem?_toList];exact ho) (fun j=>listed.getD j true) vs z (fun j e hj he hb=>?_) (by rw[Nat.zero_add];exact hi1) (fun e he=>?_)
   ·rw[Nat.zero_add] at hx
    have e:upd (fun j=>listed.getD j true) i true=fun j=>(listed.setIfInBounds i true).getD j true:=by
     funext j
     rw[zFI]
     rfl
    rcases hx with⟨hw,hx⟩|⟨hw,hx⟩
    ·rw[if_pos (zAq hp (zVW hw))]
     refine zN8 hp hx (zA0 hd ho) (fun a' w' p' s' hs' hn hK=>?_) (zFP hd ho)
     obtain⟨vs',z',hsub⟩:=hK
     rw[e] at hsub
     exact ih vs' z' _ a' w' (by simpa using hsz) (zEL hdn hi) (by have:=zIV hi1 ops.size hil;omega) (hsub C a' w' ⟨p',hs'⟩)
    ·rw[zAq hp (zVX hw)]
     simp only[Bool.false_eq_true,if_false]
     refine⟨fun _ _=>trivial,?_⟩
     obtain⟨vs',z',hsub⟩:=hx
     rw[e] at hsub
     have:=hp.put' (d:=o.dst) (av:=.r .ud) (v:=undef) (by simp only[AV.rel,RV.rel]) (zA0 hd ho)
     exact ih vs' z' _ _ _ (by simpa using hsz) (zEL hdn hi) (by have:=zIV hi1 ops.size hil;omega) (hsub C _ _ ⟨p,this⟩)
   ·have hjs:j<listed.size:=by omega
    have hb':listed.getD j true=true:=hb
    have h2:=hdn j (by simpa [hjs] using hb') e (by simpa using he)
    show listed.getD e true=true
    by_cases hes:e<listed.size
    ·simpa [hes] using h2
    ·simp [hes]
   ·have h2:=zBy hi e (by simpa using he)
    show listed.getD e true=true
    by_cases hes:e<listed.size
    ·simpa [hes] using h2
    ·simp [hes]
end
theorem zJL {P:Program}{C:Ctx}{id:Nat}{l:List Oper}{n:Nat}{Q:Exit→AS→Prop}{s:AS}(F:(Nat→Bool)→(Nat→Nat)→Bool→List (Nat × AV)) (R:(Nat→Bool)→(Nat→Nat)→Bool→List (Nat × RowC)) (hm:P.follows .mixedOrders=true)
 (hd:zA9 l.toArray n=true) (hu:upOk l.toArray=true) (h0:FitG n (F fun j=>decide (l.length≤j)) (R fun j=>decide (l.length≤j)) s)
 (hstep:zGI P l.toArray n F R 0 l) (hend:∀ b vs z,(∀ j,b j=true)→Q .normal (st n (F b vs z) vs (R b vs z))):awp P C (.region id l.toArray true) Q s:=fun a w hs=>by
 obtain⟨vs,z,hsub⟩:=h0
 obtain⟨p,hp⟩:=hsub C a w hs
 have hs':SR C p _ a { w with drawn:=w.drawn+1 }:=hp.below (w':=w.drew) ((Below.refl _ _).drew) (fun _ h=>h) (fun _ h=>.inl h) hp.rb
 refine wpIn_region_any hm ?_
 have e:(fun j=>(Array.replicate l.toArray.size false).getD j true)=fun j=>decide (l.length≤j):=by
  funext j
  by_cases h:j<l.length
  ·have:¬ l.length≤j:=by omega
   simp [h,this]
  ·have:l.length≤j:=by omega
   simp [h,this]
 refine zSQ (Q:=fun s=>Q .normal s) (n:=n) (F:=F) (R:=R) (fun s a w hq hs=>⟨s,hs,hq⟩) hd hu (by simpa using hstep) hend _ vs z _ _ _ (by simp) (fun j hj=>?_) ?_ ?_
 ·exfalso
  simp only[Array.getD_eq_getD_getElem?,Array.getElem?_replicate] at hj
  split at hj<;>simp at hj
 ·have:∀ m,unl (Array.replicate l.toArray.size false) m≤m:=by
   intro m
   induction m with
   | zero=>exact Nat.le_refl _
   | succ m ih=>simp only[unl];split<;>omega
  exact this _
 ·rw[e]
  exact⟨p,hs'⟩
def zUr (P:Program) (rv:ResultVar) (rest:List (List RV)):Exit→AS→Prop
 | .normal,s=>∃ b l,resC (resA P s rv) (fun v=>v = .r (.bo b))∧(s.rows 999).c = .gh P l false (if b then some rest else none)
 | .ret,s=>∃ b l,resC (resA P s rv) (fun v=>v = .r (.bo b))∧(s.rows 999).c = .gh P l false (if b then some rest else none)
 | _,_=>False
theorem zHh {P:Program}{f:FuncId}{fn:Func}{c:Code}{n:Nat}{rv:ResultVar}{args:Nat→List RV}{xs:List (List RV)}(hf:P.funcs[f]? = some fn) (hb:fn.body=some c) (hc:callable P f=true) (hn:fn.ntmps=n) (hres:fn.results.toList=[rv])
 (hargs:∀ l,(args l).length≤n) (h:∀ C l rest,C.rd=none→awp P C c (zUr P rv rest) (st n (argL 0 (args l)) (fun _=>0) [(999,.gh P l false (some (xs++rest)))])):zIQ P f args xs:=by
 refine⟨hc,fun rest w R vs X Ψ Θ hR hV hz hRX hn0 hY hΨ hΘ hRΘ hX=>?_⟩
 have hlen:=RV.relV_length hV
 simp only[Array.length_toList] at hlen
 have hal:=hargs X.l
 obtain⟨X',hX'⟩:∃ X':XS,X'=X.since w.heap.size R Ψ Θ:=⟨_,rfl⟩
 have hl':X'.l=X.l:=by rw[hX'];rfl
 have hz':X'.z=false:=by rw[hX'];exact hz
 have hn':X'.n0=w.heap.size:=by rw[hX'];rfl
 have hR':X'.R=R:=by rw[hX'];rfl
 have hY':YOk P X':=by rw[hX'];exact hY.since hRX hn0
 have hXX:X'.X (some (xs++rest)) w Ψ Θ:=by rw[hX'];exact⟨hX,Nat.le_refl _,fun b h=>.inl h,fun b h=>.inl h⟩
 let C:Ctx:={ w0:=w,R0:=R,bor:=Θ,pin:=fun _=>none,X:=X' }
 let p:Plan:={ R:=R,β:=fun _=>none,γ:=fun _=>1,X:=X',Ψ:=Ψ,Θ:=Θ }
 have hs:SR C p (st n (argL 0 (args X.l)) (fun _=>0) [(999,.gh P X.l false (some (xs++rest)))]) { tmps:=vs++Array.replicate (fn.ntmps-vs.size) undef,defers:=[] } w:={
  base:=⟨rfl,rfl,rfl,Nat.le_refl _,fun _ _ _ _=>rfl⟩
  r0:=fun _ h=>h
  rn:=fun _ h=>.inl h
  rb:=hR
  tm:=fun t=>by
   show (look (argL 0 (args X.l)) t).rel _ _ _ _
   by_cases hmem:∃ x,(t,x)∈argL 0 (args X.l)
   ·cases e:(args X.l)[t]? with
    | none =>
      obtain⟨x,hx⟩:=hmem
      obtain⟨i,y,h1,h2⟩:=zB4 _ hx
      simp only[Nat.zero_add,Prod.mk.injEq] at h1
      rw[← h1.1,e] at h2;cases h2
    | some x =>
      obtain⟨u,hu,hx⟩:=RV.relV_get hV e
      have:(vs++Array.replicate (fn.ntmps-vs.size) undef).getD t undef=u:=by
       have ht:t<vs.size:=by have:=(List.getElem?_eq_some_iff.1 hu).1;simpa using this
       rw[Array.getD_eq_getD_getElem?,Array.getElem?_append_left ht]
       simp only[Array.getElem?_toList] at hu
       rw[hu];rfl
      have e2:=zCA (k:=0) e
      rw[Nat.zero_add] at e2
      rw[this,e2]
      simpa only[AV.rel] using hx
   ·rw[zCg hmem]
    exact AV.rel_un _ _ _ _
  sz:=by simp only[Array.size_append,Array.size_replicate,st];omega
  ex:={
   px:=rfl
   n0:=by show X'.n0≤w.heap.size;rw[hn'];exact Nat.le_refl _
   ψ0:=fun _ b hb=>by show X'.R b;rw[hR'];exact hb
   ψl:=hΨ
   θl:=hΘ
   ψb:=fun k b h=>by cases h
   ψr:=hRΘ
   ψo:=fun b h=>h.elim
   θo:=fun b h _=>h
   bo:=fun b h=>h.elim (hΘ b) (fun h=>h.elim)
   ψn:=fun hn=>(hn _ _ _ _ hXX).elim
   hd:=fun b h=>h.elim
   rm:=fun _=>rfl
   df:=⟨[],rfl,List.nodup_nil,fun D hD=>by cases hD⟩ }
  rw:=fun k=>by
   show zrl w p _ k (zAG [(999,RowC.gh P X.l false (some (xs++rest)))] k)
   rw[zlc,zAz]
   split
   ·rename_i e
    simp only[zrl];exact⟨e,rfl,rfl,hl',hz',hY',hXX⟩
   ·simp only[zrl];exact⟨rfl,rfl⟩
  bl:=fun k b h=>by simp [p] at h
  ij:=fun k k' b h=>by simp [p] at h
  cap:=fun k=>by simp [p,maxLen]
  pn:=fun k x h=>by cases h
  lk:=fun j km n l cur h _=>by
   have h':zAG [(999,RowC.gh P X.l false (some (xs++rest)))] j = .mi km n l cur:=h
   rw[zlc,zAz] at h'
   split at h'<;>cases h' }
 refine callsIn_wide.1 (callsIn_of_wp_marks (n:=0) hf hb trivial (wpIn_mono (h C X.l rest rfl _ w ⟨p,hs⟩) ?_))
 rintro e a' w' ⟨s',⟨p',hs'⟩,hq⟩
 have fin:∀ (a':Act) (w':World),SR C p' s' a' w'→(∃ b l,resC (resA P s' rv) (fun v=>v = .r (.bo b))∧(s'.rows 999).c = .gh P l false (if b then some rest else none)) →
  ∃ v, (results fn a'.tmps).run P w' = .ok v w'∧(w'.os=w.os∧w'.tape=w.tape∧w'.output=w.output∧w.heap.size≤w'.heap.size∧(∀ b, b<w.heap.size→¬ Θ b→w'.heap[b]? = w.heap[b]?) ∧
    ∃ Ψ' Θ':Nat→Prop,(∀ b,Ψ' b→Ψ b∨R b∨w.heap.size≤b)∧(∀ b,Θ' b→Θ b∨w.heap.size≤b)∧(∀ b,Ψ' b→b<w'.heap.size)∧(∀ b,Θ' b→b<w'.heap.size) ∧
    ((Ending.returned v = .returned (.bool true)∧X.X (some rest) w' Ψ' Θ')∨(Ending.returned v = .returned (.bool false)∧X.X none w' Ψ' Θ'))):=fun a' w' hs' ⟨b,l,hb1,hb2⟩=>by
  obtain⟨v,hu0,hv0⟩:=zDD hs' rv hb1.1
  have hv:v = .bool b:=by
   rw[hb1.2] at hv0
   simpa only[AV.rel,RV.rel] using hv0
  have hu:(zEZ a'.tmps rv).run P w' = .ok (.bool b) w':=by rw[← hv];exact hu0
  have hm:(fn.results.mapM (zEZ a'.tmps)).run P w' = .ok #[.bool b] w':=by
   rw[Array.mapM_eq_mapM_toList,hres]
   simp only[Sem.run_map,List.mapM_cons,List.mapM_nil,Sem.run_bind,hu,Result.andThen_ok,Sem.run_pure]
  have hpx:p'.X=X':=hs'.ex.px
  have hr:=hs'.rw 999
  rw[hb2] at hr
  simp only[zrl] at hr
  rw[hpx] at hr
  have hXe:=hr.2.2.2.2.2.2
  refine⟨.bool b,by rw[zBI,Sem.run_bind,hm];simp,hs'.base.os,hs'.base.tape,hs'.base.output,hs'.base.size,fun k hk ht=>hs'.base.block k hk ht (fun h=>h),p'.Ψ,p'.Θ,?_,?_,hs'.ex.ψl,hs'.ex.θl,?_⟩
  ·rw[hX'] at hXe;exact hXe.2.2.1
  ·rw[hX'] at hXe;exact hXe.2.2.2
  ·rw[hX'] at hXe
   cases b
   ·exact .inr ⟨rfl,hXe.1⟩
   ·exact .inl ⟨rfl,hXe.1⟩
 cases e with
 | normal=>exact hs'.leave fun a'' w'' _ hs''=>fin a'' w'' hs'' hq
 | ret=>exact hs'.leave fun a'' w'' _ hs''=>fin a'' w'' hs'' hq
 | _=>exact hq.elim
end Go.Oc
