/- Part 9 of the texts of this claim. -/
import Derived.Test.YtgfbenanljjgaaaGreatVD8
import Derived.Test.YtgfbenanljjgaaaGreatVD5
import Derived.Test.YtgfbenanljjgaaaGreatVD4
import Derived.Test.YtgfbenanljjgaaaGreatVD6
import Derived.Test.YtgfbenanljjgaaaGreatVD7
set_option linter.unusedSimpArgs false
set_option linter.unusedVariables false
namespace Go.Oc
open Go Go.RowKit
instance {c:Prop}[h:Decidable c] {v:AV}:Decidable (Res.when c v).pre:=h
instance {v:AV}:Decidable (Res.val v).pre:=.isTrue trivial
instance:Decidable Res.bad.pre:=.isFalse id
instance {c a:Prop}[h:Decidable c] {y:Yi}:Decidable (Res.mk c a y).pre:=h
def nilB {α:Type}(l:List α):Decidable (l=[]):=match l with
 | []=>.isTrue rfl
 | _::_=>.isFalse (by simp)
instance {α:Type}{l:List α}:Decidable (l=[]):=nilB l
def RowC.isDead:RowC→Bool
 | .dead=>true
 | _=>false
theorem isDead_iff {c:RowC}:c = .dead↔c.isDead=true:=by cases c<;>simp [RowC.isDead]
instance {c:RowC}:Decidable (c = .dead):=decidable_of_iff _ isDead_iff.symm
def decNews {s:AS}{y:AV}{c:Prop}{sz:Nat}{es:List (List RV)}(h:news? s y=some (c,sz,es)):Decidable c:=by
 unfold news? at h
 split at h
 ·exact .isTrue (by injection h with h;injection h with h1 _;rw[← h1];trivial)
 ·exact .isTrue (by injection h with h;injection h with h1 _;rw[← h1];trivial)
 ·split at h
  ·rename_i k n sz off m _ n' t sz' es' _
   exact decidable_of_iff (n=n'∧sz=sz'∧off+m≤es'.length) (by injection h with h;injection h with h1 _;rw[← h1])
  ·cases h
 ·cases h
def decLen {s:AS}{y:AV}{c:Prop}{m:Nat}(h:lenA s y=some (c,m)):Decidable c:=by
 unfold lenA at h
 split at h
 ·exact .isTrue (by injection h with h;injection h with h1 _;rw[← h1];trivial)
 ·exact .isTrue (by injection h with h;injection h with h1 _;rw[← h1];trivial)
 ·rename_i k n sz off m
  exact decidable_of_iff (n=s.ver k) (by injection h with h;injection h with h1 _;rw[← h1])
 ·cases h
section
variable {P:Program}{s:AS}
instance {c a b:AV}:Decidable (sPick c a b).pre:=by delta sPick;split<;>infer_instance
instance {op:BinOp}{t:TypeId}{x y:AV}:Decidable (sEq P op t x y).pre:=by delta sEq;split<;>(try split)<;>(try split)<;>infer_instance
instance {op:BinOp}{t:TypeId}{x y:AV}:Decidable (sBin P op t x y).pre:=by delta sBin;split<;>(try split)<;>infer_instance
instance {op:UnOp}{x:AV}:Decidable (sUn op x).pre:=by delta sUn;split<;>infer_instance
instance {a b:TypeId}{x:AV}:Decidable (sConv P a b x).pre:=by delta sConv;split<;>infer_instance
instance {t:TypeId}{a:AV}:Decidable (sLoad P s t a).pre:=by delta sLoad;split<;>(try split)<;>infer_instance
instance {t:TypeId}{a x:AV}:Decidable (sStore P s t a x).pre:=by delta sStore;split<;>(try split)<;>infer_instance
instance {d:Nat}{x:AV}:Decidable (sBox s d x).pre:=by delta sBox;split<;>infer_instance
instance {d:Nat}{t:TypeId}:Decidable (sAlloc P s d t).pre:=by delta sAlloc;split<;>infer_instance
instance {t:TypeId}{a:AV}{f:Nat}:Decidable (sField P s t a f).pre:=by delta sField;split<;>(try split)<;>(try split)<;>infer_instance
instance {cs:AV}{o sz:Nat}{agg:Bool}{c:Prop} [Decidable c]:Decidable (sPart cs o sz agg c).pre:=by delta sPart;split<;>infer_instance
instance {t:TypeId}{x:AV}{f:Nat}:Decidable (sFieldV P t x f).pre:=by delta sFieldV;split<;>(try split)<;>infer_instance
instance {t:TypeId}{x i:AV}:Decidable (sIndexV P t x i).pre:=by delta sIndexV;split<;>infer_instance
instance {t:TypeId}{x i:AV}:Decidable (sIndex P s t x i).pre:=by delta sIndex;split<;>(try split)<;>infer_instance
instance {x mx:AV}{lo hi:Option AV}:Decidable (sSlice3 s x lo hi mx).pre:=by
 delta sSlice3
 split
 ·have:=decLen ‹lenA _ _=some (_,_)›
  infer_instance
 ·infer_instance
instance {n esz:Nat}{x:AV}{lo hi mx:Option AV}:Decidable (sSliceA n esz x lo hi mx).pre:=by delta sSliceA;split<;>infer_instance
instance {t:TypeId}{x:AV}{lo hi mx:Option AV}:Decidable (sSlice P s t x lo hi mx).pre:=by delta sSlice;split<;>(try split)<;>(try split)<;>infer_instance
instance {t:TypeId}{ps:List (Nat × AV)}:Decidable (sBuild P s t ps).pre:=by delta sBuild;split<;>(try split)<;>infer_instance
instance {t:TypeId}{n:Nat}{ps:List (Nat × AV)}:Decidable (sBuildSlice P s t n ps).pre:=by delta sBuildSlice;split<;>(try split)<;>(try split)<;>infer_instance
instance {d:Nat}{t:TypeId}{l c:AV}:Decidable (sMakeSlice P s d t l c).pre:=by delta sMakeSlice;split<;>infer_instance
instance {d:Nat}{t t':TypeId}{x y:AV}:Decidable (sAppend P s d t t' x y).pre:=by
 delta sAppend
 split
 ·rename_i h
  have:=decNews h
  infer_instance
 ·rename_i h
  have:=decNews h
  infer_instance
 ·rename_i h
  have:=decNews h
  split
  ·infer_instance
  ·split<;>infer_instance
  ·infer_instance
 ·infer_instance
instance {d:Nat}{t t':TypeId}{x y:AV}:Decidable (sAppendZ P s d t t' x y).pre:=by delta sAppendZ;split<;>infer_instance
instance {t:TypeId}{x:AV}:Decidable (sCap P t x).pre:=by delta sCap;split<;>infer_instance
instance {t:TypeId}{x:AV}:Decidable (sClear P s t x).pre:=by delta sClear;split<;>(try split)<;>infer_instance
instance {t:TypeId}{x:AV}:Decidable (sLen P s t x).pre:=by delta sLen;split<;>(try split)<;>infer_instance
instance {r:Option RV}:Decidable (sMinMax r).pre:=by delta sMinMax;split<;>infer_instance
instance {x:AV}{i:Nat}:Decidable (sExtract x i).pre:=by delta sExtract;split<;>(try split)<;>infer_instance
instance {x:AV}:Decidable (sNil s x).pre:=by delta sNil;split<;>infer_instance
instance {d:Nat}{t:TypeId}:Decidable (sMakeMap P s d t).pre:=by delta sMakeMap;split<;>infer_instance
instance {t:TypeId}{x key:AV}{ok:Bool}:Decidable (sLookup P s t x key ok).pre:=by delta sLookup;split<;>(try split)<;>(try split)<;>infer_instance
instance {t:TypeId}{x key:AV}:Decidable (sMapEntry P s t x key).pre:=by delta sMapEntry;split<;>(try split)<;>(try split)<;>infer_instance
instance {x st v:AV}:Decidable (sEntryStore s x st v).pre:=by delta sEntryStore;split<;>(try split)<;>(try split)<;>infer_instance
instance {t:TypeId}{x key v:AV}:Decidable (sMapUpdate P s t x key v).pre:=by delta sMapUpdate;split<;>(try split)<;>(try split)<;>infer_instance
instance {d:Nat}{t:TypeId}{x:AV}:Decidable (sRange P s d t x).pre:=by delta sRange;split<;>(try split)<;>infer_instance
instance {x:AV}:Decidable (sEntry s x).pre:=by delta sEntry;split<;>(try split)<;>infer_instance
instance {d:Nat}{b:Builtin}{ts:List TypeId}{xs:List AV}:Decidable (sBuiltin P s d b ts xs).pre:=by delta sBuiltin;split<;>(try split)<;>infer_instance
instance decStep {o:Oper}:Decidable (step P o s).pre:=by delta step;split<;>(try split)<;>infer_instance
end
def nth:List AV→Nat→AV
 | [],_=>.r .un
 | x::_,0=>x
 | _::l,t+1=>nth l t
def setAt:List AV→Nat→AV→List AV
 | [],0,v=>[v]
 | [],d+1,v=>.r .un::setAt [] d v
 | _::l,0,v=>v::l
 | x::l,d+1,v=>x::setAt l d v
theorem nth_setAt:∀ (l:List AV) (d:Nat) (v:AV) (t:Nat),nth (setAt l d v) t=if t=d then v else nth l t
 | [],0,v,0=>by simp [setAt,nth]
 | [],0,v,t+1=>by simp [setAt,nth]
 | [],d+1,v,0=>by simp [setAt,nth]
 | [],d+1,v,t+1=>by simp only[setAt,nth,nth_setAt [] d v t,Nat.add_right_cancel_iff]
 | x::l,0,v,0=>by simp [setAt,nth]
 | x::l,0,v,t+1=>by simp [setAt,nth]
 | x::l,d+1,v,0=>by simp [setAt,nth]
 | x::l,d+1,v,t+1=>by simp only[setAt,nth,nth_setAt l d v t,Nat.add_right_cancel_iff]
def rowAt:List (Nat × Row)→Nat→Row
 | [],_=>⟨0,.dead⟩
 | (j,r)::l,k=>if k=j then r else rowAt l k
def setRow:List (Nat × Row)→Nat→Row→List (Nat × Row)
 | [],k,r=>[(k,r)]
 | (j,q)::l,k,r=>if k=j then (j,r)::l else (j,q)::setRow l k r
theorem rowAt_setRow:∀ (l:List (Nat × Row)) (k:Nat) (r:Row) (j:Nat),rowAt (setRow l k r) j=if j=k then r else rowAt l j
 | [],k,r,j=>rfl
 | (i, q)::l, k, r, j=>by
   unfold setRow
   split
   ·rename_i e;subst e
    simp only[rowAt]
    split<;>rfl
   ·rename_i e
    simp only[rowAt,rowAt_setRow l k r j]
    by_cases e1:j=i
    ·have:¬ j=k:=by omega
     simp [e1];omega
    ·simp [e1]
structure CS where
 n:Nat
 tm:List AV
 rows:List (Nat × Row)
def CS.as (s:CS):AS:=⟨s.n,nth s.tm,rowAt s.rows⟩
def CS.put (s:CS) (d:Option Nat) (v:AV):CS:=match d with|some d=>⟨s.n,setAt s.tm d v,s.rows⟩|none=>s
def CS.row (s:CS) (k:Nat) (r:Row):CS:=⟨s.n,s.tm,setRow s.rows k r⟩
def CS.effs (s:CS):List (Nat × Row)→CS
 | []=>s
 | (k,r)::l=>(s.row k r).effs l
def CS.app (s:CS) (d:Option Nat) (y:Yi):CS:=(s.effs y.eff).put d y.av
theorem as_put (s:CS) (d:Option Nat) (v:AV):(s.put d v).as=s.as.put d v:=by
 cases d with
 | none=>rfl
 | some d =>
   simp only[CS.put,CS.as,AS.put,AS.mk.injEq,true_and,and_true]
   funext t
   rw[nth_setAt];rfl
theorem as_row (s:CS) (k:Nat) (r:Row):(s.row k r).as=s.as.row k r:=by
 simp only[CS.row,CS.as,AS.row,AS.mk.injEq,true_and]
 funext j
 rw[rowAt_setRow];rfl
theorem as_effs:∀ (l:List (Nat × Row)) (s:CS),(s.effs l).as={ s.as with rows:=l.foldl (fun f p=>upd f p.1 p.2) s.as.rows }
 | [],s=>rfl
 | (k, r)::l, s=>by
   simp only[CS.effs,as_effs l,as_row,List.foldl_cons]
   rfl
theorem as_app (s:CS) (d:Option Nat) (y:Yi):(s.app d y).as=s.as.app d y:=by
 unfold CS.app AS.app
 rw[as_put,as_effs]
 rfl
theorem put_num (s:CS) (d:Option Nat) (v:AV):(s.put d v).n=s.n:=by cases d<;>rfl
theorem effs_num:∀ (l:List (Nat × Row)) (s:CS),(s.effs l).n=s.n
 | [],s=>rfl
 | (k,r)::l,s=>by simp only[CS.effs,effs_num l];rfl
theorem app_num (s:CS) (d:Option Nat) (y:Yi):(s.app d y).n=s.n:=by simp only[CS.app,put_num,effs_num]
def bindL {α β:Type}(x:Option (List α)) (f:α→Option (List β)):Option (List β) :=
 match x with
 | none=>none
 | some l=>go l
 where go:List α→Option (List β)
 | []=>some []
 | a::l=>match f a with
   | none=>none
   | some ys=>match go l with
     | none=>none
     | some zs=>some (ys++zs)
theorem bindL_go {α β:Type}{f:α→Option (List β)}:∀ {l:List α}{zs:List β},bindL.go f l=some zs→∀ a∈l,∃ ys,f a=some ys∧∀ y∈ys,y∈zs
 | [],_,_,a,ha=>by simp at ha
 | b::l, zs, h, a, ha=>by
   unfold bindL.go at h
   split at h
   ·cases h
   ·rename_i ys hys
    split at h
    ·cases h
    ·rename_i ws hws
     injection h with h;subst h
     rcases List.mem_cons.1 ha with rfl|ha
     ·exact⟨ys,hys,fun y hy=>by simp [hy]⟩
     ·obtain⟨y2,h1,h2⟩:=bindL_go hws a ha
      exact⟨y2,h1,fun y hy=>by simp [h2 y hy]⟩
theorem bindL_spec {α β:Type}{x:Option (List α)}{f:α→Option (List β)}{zs:List β}(h:bindL x f=some zs):∃ l,x=some l∧∀ a∈l,∃ ys,f a=some ys∧∀ y∈ys,y∈zs:=by
 unfold bindL at h
 split at h
 ·cases h
 ·exact⟨_,rfl,bindL_go h⟩
abbrev Caller:=Bool→CS→Option Nat→AV→List AV→Option CS
def Caller.ok (P:Program) (call:Caller):Prop :=
 ∀ D s d f xs t,call D s d f xs=some t→t.n=s.n∧∀ K:AS→Prop,K t.as→acall P s.as f xs (fun r=>K (s.as.put d (.r r)))∨(D=false∧(mcall P s.as d f xs K∨ocall P s.as d f xs K))
def each {α:Type}(f:Nat→α→CS):List α→Nat→List CS
 | [],_=>[]
 | e::l,i=>f i e::each f l (i+1)
theorem each_mem {α:Type}{f:Nat→α→CS}:∀ {l:List α}{i j:Nat}{e:α},l[j]? = some e→f (i+j) e∈each f l i
 | [],_,_,_,h=>by simp at h
 | x::l,i,0,e,h=>by simp at h;subst h;simp [each]
 | x::l, i, j+1, e, h=>by
   simp at h
   have:=each_mem (f:=f) (i:=i+1) h
   rw[show i+1+j=i+(j+1) from by omega] at this
   simp [each,this]
theorem each_num {α:Type}{f:Nat→α→CS}{n:Nat}(h:∀ i e,(f i e).n=n):∀ {l:List α}{i:Nat},∀ t∈each f l i,t.n=n
 | [],_,t,ht=>by simp [each] at ht
 | x::l, i, t, ht=>by
   simp only[each,List.mem_cons] at ht
   rcases ht with rfl|ht
   ·exact h _ _
   ·exact each_num h t ht
def nextC (s:CS) (d:Option Nat) (x:AV):Option (List CS) :=
 match x with
 | .mi k n =>
   match rowAt s.rows k with
   | ⟨n', .mi km nm left _⟩ =>
     if n=n'∧nm=(rowAt s.rows km).ver∧k≠km then
      match left with
      | []=>some [s.put d (.r (.tu [.bo false]))]
      | e::l=>some (each (fun i e'=>CS.put (s.row k ⟨n',.mi km nm ((e::l).eraseIdx i) (some e')⟩) d (.r (.tu [.bo true,e'.1,e'.2]))) (e::l) 0)
     else none
   | _=>none
 | _=>none
theorem nextC_ok {s:CS}{d:Option Nat}{x:AV}{L:List CS}(h:nextC s d x=some L) {K:AS→Prop}(hK:∀ t∈L,K t.as):sNext s.as d x K∧∀ t∈L,t.n=s.n:=by
 unfold nextC at h
 split at h
 ·rename_i k n
  split at h
  ·rename_i n' km nm left cur hr
   split at h
   ·rename_i hc
    have hr':s.as.rows k=⟨n',.mi km nm left cur⟩:=hr
    unfold sNext
    simp only[hr']
    split at h
    ·injection h with h;subst h
     refine⟨⟨hc.1,hc.2.1,hc.2.2,fun _=>?_,fun i e he=>by simp at he⟩,fun t ht=>?_⟩
     ·rw[← as_put];exact hK _ (by simp)
     ·simp only[List.mem_singleton] at ht;rw[ht,put_num]
    ·rename_i e l
     injection h with h;subst h
     refine⟨⟨hc.1,hc.2.1,hc.2.2,fun h=>by simp at h,fun i e' he=>?_⟩,fun t ht=>?_⟩
     ·rw[← as_row,← as_put]
      have:=each_mem (f:=fun i e'=>CS.put (s.row k ⟨n',.mi km nm ((e::l).eraseIdx i) (some e')⟩) d (.r (.tu [.bo true,e'.1,e'.2]))) (i:=0) he
      rw[Nat.zero_add] at this
      exact hK _ this
     ·exact each_num (fun i e=>by rw[put_num];rfl) t ht
   ·cases h
  ·cases h
 ·cases h
def opC (P:Program) (call:Caller) (D:Bool) (o:Oper) (s:CS):Option (List CS) :=
 match o.op with
 | .call ⟨.value f, args, _⟩ =>
   match call D s o.dst (s.as.ev f) (args.toList.map s.as.ev) with
   | some t=>some [t]
   | none=>none
 | .next x false=>if D then none else nextC s o.dst (s.as.ev x)
 | _ =>
   if (step P o s.as).pre then
    if D&&cls o == 2 && !((rowAt s.rows (o.dst.getD 0)).c.isDead&&o.dst.isSome) then none
    else some [s.app o.dst (step P o s.as).y]
   else none
theorem opC_ok {P:Program}{call:Caller}(hcall:call.ok P) {D:Bool}{o:Oper}{s:CS}{L:List CS}(h:opC P call D o s=some L) {K:AS→Prop}(hK:∀ t∈L,K t.as):xop P D o K s.as∧∀ t∈L,t.n=s.n:=by
 unfold opC at h
 split at h
 ·rename_i f args ts ho
  split at h
  ·rename_i t ht
   injection h with h;subst h
   obtain⟨hn,hc⟩:=hcall _ _ _ _ _ _ ht
   have hc:=hc K (hK t (by simp))
   refine⟨?_,fun t' ht'=>by simp only[List.mem_singleton] at ht';rw[ht'];exact hn⟩
   unfold xop
   split
   ·rename_i hD
    unfold aop
    rw[ho]
    rcases hc with hc|⟨hc,_⟩
    ·exact .inl hc
    ·rw[hD] at hc;cases hc
   ·rw[ho]
    rcases hc with hc|⟨_,hc⟩
    ·exact .inl hc
    ·exact .inr (hc.imp id .inl)
  ·cases h
 ·rename_i x ho
  split at h
  ·cases h
  ·rename_i hD
   have:=nextC_ok h hK
   refine⟨?_,this.2⟩
   unfold xop
   rw[if_neg hD,ho]
   exact this.1
 ·rename_i h1 h2
  split at h
  ·rename_i hp
   split at h
   ·cases h
   ·rename_i hdead
    injection h with h;subst h
    refine⟨?_,fun t ht=>by simp only[List.mem_singleton] at ht;rw[ht,app_num]⟩
    have key:∀ D',(D'=true→D=true)→aop P D' o K s.as:=fun D' hD'=>by
     unfold aop
     split
     ·rename_i f args ts ho;exact (h1 f args ts ho).elim
     ·rename_i x ho;exact (h2 x ho).elim
     ·refine⟨hp,fun hD hc=>?_,fun _=>?_⟩
      ·have hD:=hD' hD
       cases e:((rowAt s.rows (o.dst.getD 0)).c.isDead&&o.dst.isSome) with
       | false=>exact (hdead (by simp only[hD,hc,e];rfl)).elim
       | true =>
         simp only[Bool.and_eq_true] at e
         exact⟨isDead_iff.2 e.1,e.2⟩
      ·rw[← as_app];exact hK _ (by simp)
    unfold xop
    split
    ·rename_i hD;exact key true fun _=>hD
    ·split
     ·rename_i f args ts ho;exact (h1 f args ts ho).elim
     ·rename_i x ho;exact (h2 x ho).elim
     ·exact key false fun h=>by cases h
  ·cases h
def runOps (P:Program) (call:Caller) (D:Bool) (ops:Array Oper):List Oper→CS→Option (List CS)
 | [],s=>some [s]
 | o::rest, s =>
   match o.guard with
   | none=>bindL (opC P call D o s) (runOps P call D ops rest)
   | some (g, want) =>
     match ((ops[g]?).bind (·.dst):Option Nat) with
     | none=>runOps P call D ops rest (s.put o.dst (.r .ud))
     | some t =>
       match nth s.tm t with
       | .r (.bo b)=>if b == want then bindL (opC P call D o s) (runOps P call D ops rest) else runOps P call D ops rest (s.put o.dst (.r .ud))
       | .r .ud=>runOps P call D ops rest (s.put o.dst (.r .ud))
       | _=>none
theorem runOps_ok {P:Program}{call:Caller}(hcall:call.ok P) {D:Bool}{ops:Array Oper}{K:AS→Prop}:∀ (l:List Oper) {s:CS}{L:List CS},runOps P call D ops l s=some L→(∀ t∈L,t.n=s.n→K t.as)→aops P D ops l K s.as
 | [], s, L, h, hK=>by
   unfold runOps at h
   injection h with h;subst h
   exact hK s (by simp) rfl
 | o::l, s, L, h, hK=>by
   have go:∀ {s1:CS},s1.n=s.n→bindL (opC P call D o s1) (runOps P call D ops l)=some L→xop P D o (aops P D ops l K) s1.as:=fun hn h=>by
    obtain⟨l1,h1,h2⟩:=bindL_spec h
    have hnum:=(opC_ok hcall h1 (K:=fun _=>True) fun _ _=>trivial).2
    refine (opC_ok hcall h1 fun t ht=>?_).1
    obtain⟨ys,hys,hsub⟩:=h2 t ht
    exact runOps_ok hcall l hys fun t' ht' hn'=>hK t' (hsub t' ht') (by rw[hn',hnum t ht,hn])
   have sk:runOps P call D ops l (s.put o.dst (.r .ud))=some L→aops P D ops l K (s.as.put o.dst (.r .ud)):=fun h=>by
    rw[← as_put]
    exact runOps_ok hcall l h fun t ht hn=>hK t ht (by rw[hn,put_num])
   unfold runOps at h
   unfold aops
   split at h
   ·rename_i hg
    rw[hg]
    exact go rfl h
   ·rename_i g want hg
    rw[hg]
    dsimp only
    split at h
    ·rename_i ht;rw[ht];exact sk h
    ·rename_i t ht
     rw[ht]
     dsimp only
     split at h
     ·rename_i b hb
      have hb':s.as.tm t = .r (.bo b):=hb
      rw[hb']
      dsimp only
      split at h
      ·rename_i e
       have e:b=want:=by simpa using e
       subst e
       refine⟨fun _=>?_,fun e=>(by cases b<;>cases e)⟩
       rw[put_self hb']
       exact go rfl h
      ·rename_i e
       have e:b = !want:=by cases b<;>cases want<;>simp_all
       subst e
       refine⟨fun e=>(by cases want<;>cases e),fun _=>?_⟩
       rw[put_self hb']
       exact sk h
     ·rename_i hb
      have hb':s.as.tm t = .r .ud:=hb
      rw[hb']
      exact sk h
     ·cases h
def codeOk (n:Nat):Code→Bool
 | .region _ ops _=>dstOk ops n
 | .seq a b=>codeOk n a&&codeOk n b
 | .cond _ a b=>codeOk n a&&codeOk n b
 | .block _ c=>codeOk n c
 | .loop c=>codeOk n c
 | _=>true
structure Modes where
 fs:List (FuncId × Nat)
def modeOf:List (FuncId × Nat)→FuncId→Option Nat
 | [],_=>none
 | (g,m)::l,f=>if f=g then some m else modeOf l f
def fnOkE (P:Program) (f:FuncId):Bool :=
 match P.funcs[f]? with
 | some fn=>match fn.body with
   | some c=>codeOk fn.ntmps c&&callable P f
   | none=>false
 | none=>false
def allOk (P:Program):List (FuncId × Nat)→Bool
 | []=>true
 | (f,_)::l=>fnOkE P f&&allOk P l
theorem allOk_get {P:Program}:∀ {l:List (FuncId × Nat)}{f:FuncId}{m:Nat},allOk P l=true→modeOf l f=some m→fnOkE P f=true
 | [],_,_,_,h=>by simp [modeOf] at h
 | (g, k)::l, f, m, ha, h=>by
   simp only[allOk,Bool.and_eq_true] at ha
   unfold modeOf at h
   split at h
   ·rename_i e;subst e;exact ha.1
   ·exact allOk_get ha.2 h
mutual
def snapB (rows:Nat→Row):AV→Bool
 | .r _=>true
 | .os k n sz off m=>n == (rows k).ver&&match (rows k).c with | .arr _ sz' es=>sz == sz'&&decide (off+m≤es.length)|_=>false
 | .pt k n off=>n == (rows k).ver&&match (rows k).c with | .box cs=>snap1B rows (cs.drop off)|_=>false
 | .pe k n sz idx _=>n == (rows k).ver&&match (rows k).c with | .arr _ sz' es=>sz == sz'&&decide (idx<es.length)|_=>false
 | .fn _ cs=>snapBL rows cs
 | .ag cs=>snapBL rows cs
 | .tu cs=>snapBL rows cs
 | .mp _ _=>false
 | .mi _ _=>false
 | .pu _ _ _=>false
def snapBL (rows:Nat→Row):List AV→Bool
 | []=>true
 | x::xs=>snapB rows x&&snapBL rows xs
def snap1B (rows:Nat→Row):List AV→Bool
 | []=>true
 | .os k n sz off m::xs=>(n == (rows k).ver&&match (rows k).c with | .arr _ sz' es=>sz == sz'&&decide (off+m≤es.length)|_=>false)&&snap1B rows xs
 | _::xs=>snap1B rows xs
end
end Go.Oc

namespace Go.Oc
open Go Go.RowKit
section
variable {rows:Nat→Row}
theorem osB {k n sz off m:Nat}(h:(n == (rows k).ver&&match (rows k).c with | .arr _ sz' es=>sz == sz'&&decide (off+m≤es.length)|_=>false)=true) :
 n=(rows k).ver∧match (rows k).c with | .arr _ sz' es=>sz=sz'∧off+m≤es.length | .arc _ sz' es _=>sz=sz'∧off+m≤es.length|_=>False:=by
 simp only[Bool.and_eq_true,beq_iff_eq] at h
 refine⟨h.1,?_⟩
 have h:=h.2
 split at h
 ·rename_i e;simp only[e];simpa using h
 ·cases h
theorem snap1B_ok:∀ (xs:List AV),snap1B rows xs=true→snap1PL rows xs
 | [],_=>trivial
 | x::xs, h=>by
   cases x with
   | os k n sz off m =>
     simp only[snap1B,Bool.and_eq_true (_&&_)] at h
     exact⟨osB h.1,snap1B_ok xs h.2⟩
   | _=>simp only[snap1B] at h;exact⟨trivial,snap1B_ok xs h⟩
mutual
theorem snapB_ok:∀ (x:AV),snapB rows x=true→snapP rows x
 | .r _,_=>by simp only[snapP]
 | .os k n sz off m,h=>by simp only[snapB] at h;simp only[snapP];exact⟨(osB h).1,osP (osB h).2⟩
 | .pt k n off, h=>by
   simp only[snapB,Bool.and_eq_true,beq_iff_eq] at h
   simp only[snapP]
   refine⟨h.1,?_⟩
   have h:=h.2
   generalize (rows k).c=c at h ⊢
   cases c<;>first|exact snap1B_ok _ h|cases h
 | .pe k n sz idx _, h=>by
   simp only[snapB,Bool.and_eq_true,beq_iff_eq] at h
   simp only[snapP]
   refine⟨h.1,?_⟩
   have h:=h.2
   generalize (rows k).c=c at h ⊢
   cases c<;>first|(simp only[Bool.and_eq_true,beq_iff_eq,decide_eq_true_eq] at h;exact h)|cases h
 | .fn _ cs,h=>by simp only[snapB] at h;simp only[snapP];exact snapBL_ok cs h
 | .ag cs,h=>by simp only[snapB] at h;simp only[snapP];exact snapBL_ok cs h
 | .tu cs,h=>by simp only[snapB] at h;simp only[snapP];exact snapBL_ok cs h
 | .mp _ _,h=>by simp [snapB] at h
 | .mi _ _,h=>by simp [snapB] at h
 | .pu _ _ _,h=>by simp [snapB] at h
theorem snapBL_ok:∀ (xs:List AV),snapBL rows xs=true→snapPL rows xs
 | [],_=>trivial
 | x::xs, h=>by
   simp only[snapBL,Bool.and_eq_true] at h
   exact⟨snapB_ok x h.1,snapBL_ok xs h.2⟩
end
end
instance {P:Program}{s:AS}{v:ResultVar}:Decidable (resA P s v).pre:=match v with
 | .tmp _=>.isTrue trivial
 | .cell a t=>inferInstanceAs (Decidable (sLoad P s t (s.tm a)).pre)
def resList (P:Program) (s:AS):List ResultVar→Option (List RV)
 | []=>some []
 | v::vs =>
   if (resA P s v).pre then
    if snapB s.rows (resA P s v).y.av then
     match resList P s vs with
     | some rs=>some (snapV s.rows (resA P s v).y.av::rs)
     | none=>none
    else none
   else none
theorem resList_ok {P:Program}{s:AS}:∀ {vs:List ResultVar}{rs:List RV},resList P s vs=some rs→resOk P s vs rs
 | [],rs,h=>by injection h with h;exact h.symm
 | v::vs, rs, h=>by
   unfold resList at h
   split at h
   ·rename_i hp
    split at h
    ·rename_i hs
     split at h
     ·rename_i rs' hr
      injection h with h;subst h
      exact⟨hp,snapB_ok _ hs,_,rs',rfl,leL_refl.le_refl _,resList_ok hr⟩
     ·cases h
    ·cases h
   ·cases h
abbrev Outs:=List (Exit × CS)
def endRs (P:Program) (res:List ResultVar) (x:Exit × CS):Option (List RV) :=
 match x.1 with
 | .normal=>resList P x.2.as res
 | .ret=>resList P x.2.as res
 | _=>none
theorem endRs_ok {P:Program}{res:List ResultVar}{x:Exit × CS}{rs:List RV}(h:endRs P res x=some rs):fpostL P res rs x.1 x.2.as:=by
 obtain⟨e,t⟩:=x
 unfold endRs at h
 cases e<;>first|exact resList_ok h|cases h
def sameRs:List RV→List RV→Bool
 | [],[]=>true
 | .bo a::l,.bo b::l'=>(a == b)&&sameRs l l'
 | .it .i64 a::l,.it .i64 b::l'=>(a == b)&&sameRs l l'
 | _,_=>false
theorem sameRs_ok:∀ {l l':List RV},sameRs l l'=true→l=l':=fun {l l'} h=>by
 fun_induction sameRs l l' with
 | case1=>rfl
 | case2 a l b l' ih=>simp only[Bool.and_eq_true,beq_iff_eq] at h;rw[h.1,ih h.2]
 | case3 a l b l' ih=>simp only[Bool.and_eq_true,beq_iff_eq] at h;rw[h.1,ih h.2]
 | case4=>cases h
def agree (P:Program) (res:List ResultVar):Outs→Option (List RV)
 | []=>none
 | [x]=>endRs P res x
 | x::l=>match endRs P res x, agree P res l with
   | some r,some r'=>if sameRs r r' then some r else none
   | _,_=>none
theorem agree_ok {P:Program}{res:List ResultVar}:∀ {L:Outs}{rs:List RV},agree P res L=some rs→∀ x∈L,fpostL P res rs x.1 x.2.as
 | [],_,h=>by simp [agree] at h
 | [x], rs, h=>fun y hy=>by
   simp only[List.mem_singleton] at hy
   subst hy
   exact endRs_ok (by simpa only[agree] using h)
 | x::y::l, rs, h=>fun z hz=>by
   simp only[agree] at h
   split at h
   ·rename_i r r' h1 h2
    split at h
    ·rename_i e
     injection h with h;subst h
     have e:=sameRs_ok e
     subst e
     rcases List.mem_cons.1 hz with rfl|hz
     ·exact endRs_ok h1
     ·exact agree_ok (L:=y::l) h2 z hz
    ·cases h
   ·cases h
def isEnd:Exit→Bool
 | .normal=>true
 | .ret=>true
 | _=>false
def callA (P:Program) (ex:Code→CS→Option Outs) (fn:Func) (c:Code) (args:List RV):Option RV :=
 if args.length≤fn.ntmps then
  match ex c ⟨fn.ntmps,args.map .r,[]⟩ with
  | some L=>match agree P fn.results.toList L with
    | some rs=>some (resV rs)
    | none=>none
  | none=>none
 else none
def callO (P:Program) (ex:Code→CS→Option Outs) (fn:Func) (c:Code) (args:List RV):Option (Nat × Nat × List (List RV) × Nat) :=
 if args.length≤fn.ntmps then
  match fn.results.toList,ex c ⟨fn.ntmps,args.map .r,[]⟩ with
  | [rv], some [(e, t)] =>
    if isEnd e then
    if (resA P t.as rv).pre then
     match (resA P t.as rv).y.av with
     | .os j n sz off m =>
       match rowAt t.rows j with
       | ⟨n',.arr ty sz' es⟩=>if n == n'&&sz == sz'&&off == 0&&es.all RV.flatL then some (ty,sz,es,m) else none
       | _=>none
     | _=>none
    else none
    else none
  | _,_=>none
 else none
mutual
def keysA:AV→List Nat
 | .pt k _ _=>[k]
 | .pe k _ _ _ _=>[k]
 | .os k _ _ _ _=>[k]
 | .mp k _=>[k]
 | .fn _ cs=>keysL cs
 | .ag cs=>keysL cs
 | .tu cs=>keysL cs
 | _=>[]
def keysL:List AV→List Nat
 | []=>[]
 | x::xs=>keysA x++keysL xs
end
def keysB (rows:Nat→Row):List Nat→List Nat
 | []=>[]
 | k::ks=>k::((match (rows k).c with | .box cs=>keysL cs|_=>[])++keysB rows ks)
def mkRho:List Nat→Nat→List (Nat × Nat)
 | [],_=>[]
 | k::ks,i=>if (k::ks).length > 1&&ks.contains k then mkRho ks i else (i,k)::mkRho ks (i+1)
def lendRows (ρ:List (Nat × Nat)) (s:AS):List (Nat × Nat)→Option (List (Nat × RowC))
 | []=>some []
 | (pk, ck)::l=>match lendC ρ s.ver (s.rows ck).c, lendRows ρ s l with
   | some c,some L=>some ((pk,c)::L)
   | _,_=>none
theorem lendRows_ok {ρ:List (Nat × Nat)}{s:AS}:∀ {l:List (Nat × Nat)}{L:List (Nat × RowC)},lendRows ρ s l=some L→lendOk ρ s l L
 | [],L,h=>by injection h with h;subst h;trivial
 | (pk, ck)::l, L, h=>by
   unfold lendRows at h
   split at h
   ·rename_i c L' h1 h2
    injection h with h;subst h
    exact⟨rfl,h1,lendRows_ok h2⟩
   ·cases h
def frzB (ks:List (Nat × RowC)) (rows:Nat→Row):AV→Bool
 | .os j n sz off m=>if keyIn ks j then true else (decide (j<1000)&&snapB rows (.os j n sz off m))
 | _=>true
theorem frzB_ok {ks:List (Nat × RowC)}{rows:Nat→Row}{x:AV}(h:frzB ks rows x=true):frzP1 ks rows x:=by
 cases x with
 | os j n sz off m =>
   simp only[frzB] at h
   simp only[frzP1]
   split at h
   ·rename_i e;rw[if_pos e];trivial
   ·rename_i e
    rw[if_neg e]
    simp only[Bool.and_eq_true,decide_eq_true_eq] at h
    refine⟨h.1,?_⟩
    have h2:=h.2
    simp only[snapB] at h2
    have h3:=osB h2
    refine⟨h3.1,?_⟩
    have h4:=h3.2
    generalize (rows j).c=c at h4 ⊢
    cases c<;>exact h4
 | _=>simp only[frzP1]
def frzBL (ks:List (Nat × RowC)) (rows:Nat→Row):List AV→Bool
 | []=>true
 | x::xs=>frzB ks rows x&&frzBL ks rows xs
theorem frzBL_ok {ks:List (Nat × RowC)}{rows:Nat→Row}:∀ {xs:List AV},frzBL ks rows xs=true→frzPL ks rows xs
 | [],_=>trivial
 | x::xs, h=>by
   simp only[frzBL,Bool.and_eq_true] at h
   exact⟨frzB_ok h.1,frzBL_ok h.2⟩
def frzBC (ks:List (Nat × RowC)) (rows:Nat→Row):RowC→Bool
 | .box cs=>frzBL ks rows cs
 | _=>true
theorem frzBC_ok {ks:List (Nat × RowC)}{rows:Nat→Row}{c:RowC}(h:frzBC ks rows c=true):frzPC ks rows c:=by
 cases c<;>first|exact frzBL_ok h|trivial
def finM (ks:List (Nat × RowC)) (rows:Nat→Row):List (Nat × RowC)→Option (List (Nat × RowC))
 | []=>some []
 | (k,_)::L=>if okC (rows k).c&&frzBC ks rows (rows k).c then match finM ks rows L with|some L'=>some ((k,frzC ks rows (rows k).c)::L')|none=>none else none
theorem finM_ok {ks:List (Nat × RowC)}{rows:Nat→Row}:∀ {L L':List (Nat × RowC)},finM ks rows L=some L'→mfin ks rows L L'
 | [],L',h=>by injection h with h;subst h;trivial
 | (k, c)::L, L', h=>by
   unfold finM at h
   split at h
   ·rename_i hc
    simp only[Bool.and_eq_true] at hc
    split at h
    ·rename_i L'' h2
     injection h with h;subst h
     exact⟨rfl,hc.1,frzBC_ok hc.2,rfl,finM_ok h2⟩
    ·cases h
   ·cases h
def resListM (P:Program) (ks:List (Nat × RowC)) (s:AS):List ResultVar→Option (List AV)
 | []=>some []
 | v::vs =>
   if (resA P s v).pre then
    if frzB ks s.rows (resA P s v).y.av then
     match resListM P ks s vs with
     | some rs=>some (frz1 ks s.rows (resA P s v).y.av::rs)
     | none=>none
    else none
   else none
theorem resListM_ok {P:Program}{ks:List (Nat × RowC)}{s:AS}:∀ {vs:List ResultVar}{rs:List AV},resListM P ks s vs=some rs→resM P ks s vs rs
 | [],rs,h=>by injection h with h;exact h.symm
 | v::vs, rs, h=>by
   unfold resListM at h
   split at h
   ·rename_i hp
    split at h
    ·rename_i hs
     split at h
     ·rename_i rs' hr
      injection h with h;subst h
      exact⟨hp,frzB_ok hs,rs',rfl,resListM_ok hr⟩
     ·cases h
    ·cases h
   ·cases h
def rowsOf:List (Nat × RowC)→List (Nat × Row)
 | []=>[]
 | (k,c)::L=>(k,⟨0,c⟩)::rowsOf L
def callM (P:Program) (ex:Code→CS→Option Outs) (fn:Func) (c:Code) (L:List (Nat × RowC)) (args:List AV):Option (List (Nat × RowC) × AV) :=
 if args.length≤fn.ntmps&&pinned L then
  match ex c ⟨fn.ntmps,args,rowsOf L⟩ with
  | some [(e, t)] =>
    if isEnd e then
     match finM L t.as.rows L,resListM P L t.as fn.results.toList with
     | some L',some rs=>some (L',resMV rs)
     | _,_=>none
    else none
  | _=>none
 else none
def putRows (s:CS) (L':List (Nat × RowC)) (ver:Nat→Nat) (ρ:List (Nat × Nat)):List (Nat × Nat)→CS
 | []=>s
 | (pk,ck)::l=>putRows (s.row ck ⟨ver ck,backC ρ ver (lookc L' pk)⟩) L' ver ρ l
def callC (P:Program) (fs:List (FuncId × Nat)) (ex:Code→CS→Option Outs):Caller:=fun D s d f xs =>
 match callee? f with
 | none=>none
 | some (F, cs) =>
   match modeOf fs F,P.funcs[F]? with
   | some m, some fn =>
     match fn.body with
     | none=>none
     | some c =>
       if m == 1 && !D then
        match d with
        | some dd =>
          if snapBL s.as.rows (xs++cs)&&decide (dd<1000) then
           match callO P ex fn c (snapVL s.as.rows (xs++cs)) with
           | some (t,sz,es,m)=>some ((s.row dd ⟨(s.as.rows dd).ver+1,.arr t sz es⟩).put d (.os dd ((s.as.rows dd).ver+1) sz 0 m))
           | none=>none
          else none
        | none=>none
       else if m == 2 && !D then
        let ρ:=mkRho (keysB s.as.rows (keysL (xs++cs))) 1000
        match lendL ρ s.as.ver (xs++cs),lendRows ρ s.as ρ with
        | some args, some L =>
          match callM P ex fn c L args with
          | some (L',r)=>if apart ρ&&sameKeys ρ L' then some ((putRows s L' s.as.ver ρ ρ).put d (backA ρ s.as.ver r)) else none
          | none=>none
        | _,_=>none
       else if snapBL s.as.rows (xs++cs) then
        match callA P ex fn c (snapVL s.as.rows (xs++cs)) with
        | some r=>if r.flatB || AV.pureL (xs++cs) then some (s.put d (.r r)) else none
        | none=>none
       else none
   | _,_=>none
mutual
def RV.dl:RV→RV→Bool
 | .ns,.sl _ []=>true
 | .sl s es,.sl t fs=>s == t&&RV.dlE es fs
 | .ag xs,.ag ys=>RV.dlL xs ys
 | .rp xs,.rp ys=>RV.dlL xs ys
 | .fn f xs,.fn g ys=>f == g&&RV.dlL xs ys
 | .it .i64 n,.it .i64 m=>n == m
 | .bo a,.bo b=>a == b
 | .ns,.ns=>true
 | .np,.np=>true
 | .nf,.nf=>true
 | _,_=>false
def RV.dlL:List RV→List RV→Bool
 | [],[]=>true
 | x::xs,y::ys=>RV.dl x y&&RV.dlL xs ys
 | _,_=>false
def RV.dlE:List (List RV)→List (List RV)→Bool
 | [],[]=>true
 | x::xs,y::ys=>RV.dlL x y&&RV.dlE xs ys
 | _,_=>false
end
theorem dlL_len:∀ {xs ys:List RV},RV.dlL xs ys=true→xs.length=ys.length
 | [],[],_=>rfl
 | x::xs, y::ys, h=>by
   simp only[RV.dlL,Bool.and_eq_true] at h
   simp [dlL_len h.2]
 | [],_::_,h=>by simp [RV.dlL] at h
 | _::_,[],h=>by simp [RV.dlL] at h
theorem dlE_len:∀ {xs ys:List (List RV)},RV.dlE xs ys=true→xs.length=ys.length
 | [],[],_=>rfl
 | x::xs, y::ys, h=>by
   simp only[RV.dlE,Bool.and_eq_true] at h
   simp [dlE_len h.2]
 | [],_::_,h=>by simp [RV.dlE] at h
 | _::_,[],h=>by simp [RV.dlE] at h
section
variable {w:World}{R:Nat→Prop}
mutual
theorem dl_rel:∀ (x y:RV) (v:Value),RV.dl x y=true→x.rel w R v→y.rel w R v
 | .ns, .sl sz [], v, _, h=>by
   simp only[RV.rel] at h ⊢
   obtain⟨A,rfl⟩:=h
   exact⟨A,0,rfl,Nat.le_refl _,Nat.zero_le _,fun h=>absurd rfl h⟩
 | .sl s es, .sl t fs, v, hd, h=>by
   simp only[RV.dl,Bool.and_eq_true,beq_iff_eq] at hd
   obtain⟨rfl,hd⟩:=hd
   have hl:=dlE_len hd
   simp only[RV.rel] at h ⊢
   obtain⟨A,c,hv,h1,h2,h3⟩:=h
   refine⟨A,c,by rw[← hl];exact hv,by rw[← hl];exact h1,h2,fun hne=>?_⟩
   obtain⟨ad,e,hr,hc⟩:=h3 (fun e=>hne (by rw[e] at hl;exact List.eq_nil_of_length_eq_zero hl.symm))
   exact⟨ad,e,hr,dl_relE s es fs ad 0 hd hc⟩
 | .ag xs, .ag ys, v, hd, h=>by
   simp only[RV.dl] at hd
   simp only[RV.rel] at h ⊢
   obtain⟨vs,e,h1,hV⟩:=h
   exact⟨vs,e,h1,dl_relV xs ys _ hd hV⟩
 | .rp xs, .rp ys, v, hd, h=>by
   simp only[RV.dl] at hd
   simp only[RV.rel] at h ⊢
   obtain⟨ad,e,hR,hC⟩:=h
   exact⟨ad,e,hR,dl_relC xs ys _ _ hd hC⟩
 | .fn f xs, .fn g ys, v, hd, h=>by
   simp only[RV.dl,Bool.and_eq_true,beq_iff_eq] at hd
   simp only[RV.rel] at h ⊢
   obtain⟨vs,e,hV⟩:=h
   exact⟨vs,by rw[← hd.1];exact e,dl_relV xs ys _ hd.2 hV⟩
 | .it .i64 n, .it .i64 m, v, hd, h=>by
   simp only[RV.dl,beq_iff_eq] at hd
   subst hd;exact h
 | .bo a, .bo b, v, hd, h=>by
   simp only[RV.dl,beq_iff_eq] at hd
   subst hd;exact h
 | .ns,.ns,_,_,h=>h
 | .np,.np,_,_,h=>h
 | .nf,.nf,_,_,h=>h
theorem dl_relV:∀ (xs ys:List RV) (vs:List Value),RV.dlL xs ys=true→RV.relV w R xs vs→RV.relV w R ys vs
 | [],[],_,_,h=>h
 | x::xs, y::ys, vs, hle, h=>by
   simp only[RV.dlL,Bool.and_eq_true] at hle
   simp only[RV.relV] at h ⊢
   obtain⟨u,us,e,h1,h2⟩:=h
   exact⟨u,us,e,dl_rel x y u hle.1 h1,dl_relV xs ys us hle.2 h2⟩
 | [],_::_,_,hle,_=>by simp [RV.dlL] at hle
 | _::_,[],_,hle,_=>by simp [RV.dlL] at hle
theorem dl_relC:∀ (xs ys:List RV) (ad:Addr) (j:Nat),RV.dlL xs ys=true→RV.relC w R xs ad j→RV.relC w R ys ad j
 | [],[],_,_,_,h=>h
 | x::xs, y::ys, ad, j, hle, h=>by
   simp only[RV.dlL,Bool.and_eq_true] at hle
   simp only[RV.relC] at h ⊢
   obtain⟨⟨u,hu,ho,h1⟩,h2⟩:=h
   exact⟨⟨u,hu,ho,dl_rel x y u hle.1 h1⟩,dl_relC xs ys ad (j+1) hle.2 h2⟩
 | [],_::_,_,_,hle,_=>by simp [RV.dlL] at hle
 | _::_,[],_,_,hle,_=>by simp [RV.dlL] at hle
theorem dl_relE:∀ (sz:Nat) (xs ys:List (List RV)) (ad:Addr) (j:Nat),RV.dlE xs ys=true→RV.relE w R sz xs ad j→RV.relE w R sz ys ad j
 | _,[],[],_,_,_,h=>h
 | sz, x::xs, y::ys, ad, j, hle, h=>by
   simp only[RV.dlE,Bool.and_eq_true] at hle
   simp only[RV.relE] at h ⊢
   exact⟨by rw[← dlL_len hle.1];exact h.1,dl_relC x y ad j hle.1 h.2.1,dl_relE sz xs ys ad (j+sz) hle.2 h.2.2⟩
 | _,[],_::_,_,_,hle,_=>by simp [RV.dlE] at hle
 | _,_::_,[],_,_,hle,_=>by simp [RV.dlE] at hle
end
end
theorem acalls_dl {P:Program}{f:FuncId}{xs ys:List RV}{r:RV}(h:ACalls P f ys r) (hd:RV.dlL xs ys=true):ACalls P f xs r :=
 ⟨h.1,fun w R vs hR hv=>h.2 w R vs hR (dl_relV xs ys _ hd hv)⟩
abbrev Orc:=List (FuncId × List RV × RV)
def orcGet:Orc→FuncId→List RV→Option RV
 | [],_,_=>none
 | (g,ys,r)::l,f,xs=>if f == g&&RV.dlL xs ys then some r else orcGet l f xs
def orcOk (P:Program):Orc→Prop
 | []=>True
 | (g,ys,r)::l=>ACalls P g ys r∧orcOk P l
theorem orcGet_ok {P:Program}:∀ {l:Orc}{f:FuncId}{xs:List RV}{r:RV},orcOk P l→orcGet l f xs=some r→ACalls P f xs r
 | [],_,_,_,_,h=>by simp [orcGet] at h
 | (g, ys, r')::l, f, xs, r, ho, h=>by
   unfold orcGet at h
   split at h
   ·rename_i hc
    simp only[Bool.and_eq_true,beq_iff_eq] at hc
    injection h with h;subst h
    rw[hc.1]
    exact acalls_dl ho.1 hc.2
   ·exact orcGet_ok ho.2 h
def callR (orc:Orc):Caller:=fun _ s d f xs =>
 match callee? f with
 | none=>none
 | some (F, cs) =>
   if snapBL s.as.rows (xs++cs) then
    match orcGet orc F (snapVL s.as.rows (xs++cs)) with
    | some r=>if r.flatB || AV.pureL (xs++cs) then some (s.put d (.r r)) else none
    | none=>none
   else none
def callX (P:Program) (fs:List (FuncId × Nat)) (orc:Orc) (ex:Code→CS→Option Outs):Caller:=fun D s d f xs =>
 match callC P fs ex D s d f xs with
 | some t=>some t
 | none=>callR orc D s d f xs
def norm:List CS→Outs
 | []=>[]
 | t::l=>(.normal,t)::norm l
def leave (id:Nat):Exit→Exit
 | .exit id'=>if id'=id then .normal else .exit id'
 | e=>e
def blk (id:Nat):Outs→Outs
 | []=>[]
 | (e,t)::l=>(leave id e,t)::blk id l
def killOps:List Oper→CS→CS
 | [],s=>s
 | o::l,s=>if cls o == 2&&decide (o.dst.getD 0<1000) then killOps l (s.row (o.dst.getD 0) ⟨(rowAt s.rows (o.dst.getD 0)).ver+1,.dead⟩) else killOps l s
def killD (D:Bool) (l:List Oper) (s:CS):CS:=match D with|true=>killOps l s|false=>s
def slots:List Operand→List Nat
 | []=>[]
 | .tmp t::l=>t::slots l
 | _::l=>slots l
def kappa (ops:Array Oper) (s:CS):List Oper→List (Nat × Option Nat)
 | []=>[]
 | o::l=>(slots o.op.operands.toList).map (fun t=>(t,keyOf (nth s.tm t)))++kappa ops s l
def drawOk (D:Bool) (ops:Array Oper) (s:CS):Bool:=!D || lexOk ops || lexOk2 ops (kappa ops s ops.toList)
def exec (P:Program) (fs:List (FuncId × Nat)) (orc:Orc):Nat→Code→CS→Option Outs
 | 0,_,_=>none
 | k+1,.region _ ops D,s=>if drawOk D ops (killD D ops.toList s) then match runOps P (callX P fs orc (exec P fs orc k)) D ops ops.toList (killD D ops.toList s) with|some L=>some (norm L)|none=>none else none
 | k+1,.seq a b,s=>bindL (exec P fs orc k a s) fun x=>match x.1 with | .normal=>exec P fs orc k b x.2|e=>some [(e,x.2)]
 | k+1,.loop c,s=>bindL (exec P fs orc k c s) fun x=>match x.1 with | .normal=>exec P fs orc k (.loop c) x.2|e=>some [(e,x.2)]
 | k+1,.cond c a b,s=>match s.as.ev c with | .r (.bo t)=>bif t then exec P fs orc k a s else exec P fs orc k b s|_=>none
 | k+1,.block id c,s=>match exec P fs orc k c s with|some L=>some (blk id L)|none=>none
 | _+1,.skip,s=>some [(.normal,s)]
 | _+1,.label _,s=>some [(.normal,s)]
 | _+1,.exit id,s=>some [(.exit id,s)]
 | _+1,.ret,s=>some [(.ret,s)]
 | _+1,_,_=>none
def evalX (P:Program) (fs:List (FuncId × Nat)) (orc:Orc) (k:Nat) (F:FuncId) (args:List RV):Option RV :=
 match P.funcs[F]? with
 | some fn=>match fn.body with
   | some c=>callA P (exec P fs orc k) fn c args
   | none=>none
 | none=>none
end Go.Oc

namespace Go.Oc
open Go Go.RowKit
section
variable {P:Program}
theorem norm_mem:∀ {L:List CS}{t:CS},t∈L→(Exit.normal,t)∈norm L
 | [],_,h=>by simp at h
 | x::l, t, h=>by
   rcases List.mem_cons.1 h with rfl|h
   ·simp [norm]
   ·simp [norm,norm_mem h]
theorem blk_mem {id:Nat}:∀ {L:Outs}{e:Exit}{t:CS},(e,t)∈L→(leave id e,t)∈blk id L
 | [],_,_,h=>by simp at h
 | (e', t')::l, e, t, h=>by
   rcases List.mem_cons.1 h with h|h
   ·injection h with h1 h2;subst h1 h2;simp [blk]
   ·simp [blk,blk_mem h]
theorem nth_look:∀ (xs:List AV) (k t:Nat),look (argA k xs) (k+t)=nth xs t
 | [],_,_=>by simp [argA,look_nil,nth]
 | x::xs,k,0=>by simp [argA,look_cons,nth]
 | x::xs, k, t+1=>by
   have:=nth_look xs (k+1) t
   rw[show k+1+t=k+(t+1) from by omega] at this
   simp only[argA,look_cons,nth,this];rw[if_neg (by omega)]
theorem argL_A:∀ (xs:List RV) (k:Nat),argL k xs=argA k (xs.map .r)
 | [],_=>rfl
 | x::xs,k=>by simp only[argL,argA,List.map_cons,argL_A xs]
theorem rowsOf_at:∀ (L:List (Nat × RowC)) (k:Nat),rowAt (rowsOf L) k=⟨0,lookc L k⟩
 | [],_=>rfl
 | (j, c)::L, k=>by
   simp only[rowsOf,rowAt,zlc,rowsOf_at L k]
   split<;>rfl
theorem start_as {n:Nat}{xs:List AV}{L:List (Nat × RowC)}:(CS.mk n xs (rowsOf L)).as=st n (argA 0 xs) (fun _=>0) L:=by
 simp only[CS.as,st,AS.mk.injEq,true_and]
 refine⟨?_,funext fun k=>rowsOf_at L k⟩
 funext t
 have:=nth_look xs 0 t
 rw[Nat.zero_add] at this
 exact this.symm
theorem start_as0 {n:Nat}{xs:List RV}:(CS.mk n (xs.map .r) []).as=st n (argL 0 xs) (fun _=>0) []:=by
 rw[argL_A]
 exact start_as (L:=[])
theorem as_putRows {L':List (Nat × RowC)}{ver:Nat→Nat}{ρ:List (Nat × Nat)}:∀ (l:List (Nat × Nat)) (s:CS),(putRows s L' ver ρ l).as={ s.as with rows:=backRows ρ ver L' l s.as.rows }
 | [],s=>rfl
 | (pk, ck)::l, s=>by
   simp only[putRows,as_putRows l,as_row,backRows]
   rfl
theorem putRows_num {L':List (Nat × RowC)}{ver:Nat→Nat}{ρ:List (Nat × Nat)}:∀ (l:List (Nat × Nat)) (s:CS),(putRows s L' ver ρ l).n=s.n
 | [],s=>rfl
 | (pk,ck)::l,s=>by simp only[putRows,putRows_num l];rfl
theorem killOps_sub:∀ (l:List Oper) (s:CS),Sub s.as (killOps l s).as∧(killOps l s).n=s.n
 | [],s=>⟨Sub.refl _,rfl⟩
 | o::l, s=>by
   unfold killOps
   split
   ·rename_i h
    simp only[Bool.and_eq_true,decide_eq_true_eq] at h
    obtain⟨h1,h2⟩:=killOps_sub l (s.row (o.dst.getD 0) ⟨(rowAt s.rows (o.dst.getD 0)).ver+1,.dead⟩)
    refine⟨Sub.trans ?_ h1,h2⟩
    rw[as_row]
    exact sub_kill s.as (o.dst.getD 0) h.2
   ·exact killOps_sub l s
theorem killD_sub (D:Bool) (l:List Oper) (s:CS):Sub s.as (killD D l s).as∧(killD D l s).n=s.n:=by
 cases D with
 | true=>exact killOps_sub l s
 | false=>exact⟨Sub.refl _,rfl⟩
def Good (P:Program) (ex:Code→CS→Option Outs):Prop:=∀ c t L,codeOk t.n c=true→ex c t=some L→(∀ x∈L,x.2.n=t.n)∧∀ C Q,(∀ x∈L,Q x.1 x.2.as)→awp P C c Q t.as
theorem callA_ok {ex:Code→CS→Option Outs}(hex:Good P ex) {F:FuncId}{fn:Func}{c:Code}{args:List RV}{r:RV}(hF:P.funcs[F]? = some fn) (hb:fn.body=some c) (hok:fnOkE P F=true) (h:callA P ex fn c args=some r):ACalls P F args r:=by
 unfold fnOkE at hok
 simp only[hF,hb,Bool.and_eq_true] at hok
 unfold callA at h
 split at h
 ·rename_i hlen
  split at h
  ·rename_i L hL
   split at h
   ·rename_i rs hrs
    injection h with h
    have hag:=agree_ok hrs
    refine acalls_of hF hb hok.2 rfl hlen h fun C=>zw (sub_look (argL 0 args) fun p hp=>?_) ?_
    ·obtain⟨i,x,rfl,e⟩:=argL_mem p hp
     simp only[argTm,Nat.zero_add,e]
    ·have:=((hex c _ L hok.1 hL).2 C (fpost P fn rs) fun x hx=>?_)
     ·rw[start_as0] at this
      exact this
     ·have:=hag x hx
      obtain⟨e,t⟩:=x
      cases e<;>exact this
   ·cases h
  ·cases h
 ·cases h
theorem callO_ok {ex:Code→CS→Option Outs}(hex:Good P ex) {F:FuncId}{fn:Func}{c:Code}{args:List RV}{ty sz m:Nat}{es:List (List RV)}(hF:P.funcs[F]? = some fn) (hb:fn.body=some c) (hok:fnOkE P F=true)
 (h:callO P ex fn c args=some (ty,sz,es,m)):OCalls P F args ty sz es m:=by
 unfold fnOkE at hok
 simp only[hF,hb,Bool.and_eq_true] at hok
 unfold callO at h
 split at h
 ·rename_i hlen
  split at h
  ·rename_i rv e t hres hL
   split at h
   ·rename_i he
    split at h
    ·rename_i hp
     split at h
     ·rename_i j n sz1 off m1 hav
      split at h
      ·rename_i n' ty1 sz' es1 hrow
       split at h
       ·rename_i hc
        simp only[Bool.and_eq_true,beq_iff_eq,List.all_eq_true] at hc
        obtain⟨⟨⟨h1,h2⟩,h3⟩,h4⟩:=hc
        subst h1 h2 h3
        injection h with h
        simp only[Prod.mk.injEq] at h
        obtain⟨rfl,rfl,rfl,rfl⟩:=h
        refine ocalls_0 rv hF hb hok.2 rfl hres hlen h4 fun C=>?_
        have:=((hex c _ _ hok.1 hL).2 C (opostL P rv ty1 sz1 es1 m1) fun x hx=>?_)
        ·rw[start_as0] at this
         exact this
        ·simp only[List.mem_singleton] at hx
         subst hx
         have key:resC (resA P t.as rv) fun v=>∃ j n,v = .os j n sz1 0 m1∧t.as.rows j=⟨n,.arr ty1 sz1 es1⟩:=⟨hp,j,n,hav,hrow⟩
         cases e<;>first|exact key|cases he
       ·cases h
      ·cases h
     ·cases h
    ·cases h
   ·cases h
  ·cases h
 ·cases h
theorem callM_ok {ex:Code→CS→Option Outs}(hex:Good P ex) {F:FuncId}{fn:Func}{c:Code}{L L':List (Nat × RowC)}{args:List AV}{r:AV}(hF:P.funcs[F]? = some fn) (hb:fn.body=some c) (hok:fnOkE P F=true)
 (h:callM P ex fn c L args=some (L',r)):MCalls P F L L' args r:=by
 unfold fnOkE at hok
 simp only[hF,hb,Bool.and_eq_true] at hok
 unfold callM at h
 split at h
 ·rename_i hlen
  simp only[Bool.and_eq_true,decide_eq_true_eq] at hlen
  split at h
  ·rename_i e t hL
   split at h
   ·rename_i he
    split at h
    ·rename_i L1 rs hfin hres
     injection h with h
     simp only[Prod.mk.injEq] at h
     obtain⟨rfl,rfl⟩:=h
     refine mcalls_st (rs:=rs) L L1 fn.results.toList hF hb hok.2 rfl rfl hlen.1 rfl hlen.2 fun C=>?_
     have:=((hex c _ _ hok.1 hL).2 C (mpostL P fn.results.toList rs L L1) fun x hx=>?_)
     ·rw[start_as] at this
      exact this
     ·simp only[List.mem_singleton] at hx
      subst hx
      have key:resM P L t.as fn.results.toList rs∧mfin L t.as.rows L L1:=⟨resListM_ok hres,finM_ok hfin⟩
      cases e<;>first|exact key|cases he
    ·cases h
   ·cases h
  ·cases h
 ·cases h
theorem callC_ok {fs:List (FuncId × Nat)}(hfs:allOk P fs=true) {ex:Code→CS→Option Outs}(hex:Good P ex):(callC P fs ex).ok P:=fun D s d f xs t h=>by
 unfold callC at h
 split at h
 ·cases h
 ·rename_i F cs hcal
  split at h
  ·rename_i m fn hm hF
   have hok:=allOk_get hfs hm
   split at h
   ·cases h
   ·rename_i c hb
    split at h
    ·rename_i hmode
     simp only[Bool.and_eq_true,beq_iff_eq,Bool.not_eq_true'] at hmode
     split at h
     ·rename_i dd
      split at h
      ·rename_i hsn
       simp only[Bool.and_eq_true,decide_eq_true_eq] at hsn
       split at h
       ·rename_i ty sz es m' hO
        injection h with h;subst h
        refine⟨put_num _ _ _,fun K hK=>.inr ⟨hmode.2,.inr ⟨F,cs,_,ty,sz,es,m',dd,hcal,snapBL_ok _ hsn.1,leL_refl _,callO_ok hex hF hb hok hO,rfl,hsn.2,?_⟩⟩⟩
        rw[as_put,as_row] at hK
        exact hK
       ·cases h
      ·cases h
     ·cases h
    ·split at h
     ·rename_i hmode
      simp only[Bool.and_eq_true,beq_iff_eq,Bool.not_eq_true'] at hmode
      dsimp only at h
      split at h
      ·rename_i args L hargs hL
       split at h
       ·rename_i L' r hM
        split at h
        ·rename_i hap
         simp only[Bool.and_eq_true] at hap
         injection h with h;subst h
         refine⟨(put_num _ _ _).trans (putRows_num _ _),fun K hK=>.inr ⟨hmode.2,.inl ⟨F,cs,_,L,L',args,r,hcal,hargs,lendRows_ok hL,hap.1,hap.2,callM_ok hex hF hb hok hM,?_⟩⟩⟩
         rw[as_put,as_putRows] at hK
         exact hK
        ·cases h
       ·cases h
      ·cases h
     ·split at h
      ·rename_i hsn
       split at h
       ·rename_i r hA
        split at h
        ·rename_i hfl
         simp only[Bool.or_eq_true] at hfl
         injection h with h;subst h
         refine⟨put_num _ _ _,fun K hK=>.inl ⟨r,.inl ⟨F,cs,_,hcal,snapBL_ok _ hsn,leL_refl _,callA_ok hex hF hb hok hA,hfl⟩,?_⟩⟩
         rw[as_put] at hK
         exact hK
        ·cases h
       ·cases h
      ·cases h
  ·cases h
theorem callR_ok {orc:Orc}(ho:orcOk P orc):(callR orc).ok P:=fun D s d f xs t h=>by
 unfold callR at h
 split at h
 ·cases h
 ·rename_i F cs hcal
  split at h
  ·rename_i hsn
   split at h
   ·rename_i r hA
    split at h
    ·rename_i hfl
     simp only[Bool.or_eq_true] at hfl
     injection h with h;subst h
     refine⟨put_num _ _ _,fun K hK=>.inl ⟨r,.inl ⟨F,cs,_,hcal,snapBL_ok _ hsn,leL_refl _,orcGet_ok ho hA,hfl⟩,?_⟩⟩
     rw[as_put] at hK
     exact hK
    ·cases h
   ·cases h
  ·cases h
theorem callX_ok {fs:List (FuncId × Nat)}(hfs:allOk P fs=true) {orc:Orc}(ho:orcOk P orc) {ex:Code→CS→Option Outs}(hex:Good P ex):(callX P fs orc ex).ok P:=fun D s d f xs t h=>by
 unfold callX at h
 split at h
 ·rename_i t' e
  injection h with h;subst h
  exact callC_ok hfs hex D s d f xs _ e
 ·exact callR_ok ho D s d f xs t h
theorem bindL_mem {α β:Type}{x:Option (List α)}{f:α→Option (List β)}{zs:List β}(h:bindL x f=some zs) {z:β}(hz:z∈zs):∃ l,x=some l∧∃ a∈l,∃ ys,f a=some ys∧z∈ys:=by
 unfold bindL at h
 split at h
 ·cases h
 ·rename_i l
  refine⟨l,rfl,?_⟩
  induction l generalizing zs with
  | nil=>injection h with h;subst h;simp at hz
  | cons b l ih =>
    unfold bindL.go at h
    split at h
    ·cases h
    ·rename_i ys hys
     split at h
     ·cases h
     ·rename_i ws hws
      injection h with h;subst h
      rcases List.mem_append.1 hz with hz|hz
      ·exact⟨b,by simp,ys,hys,hz⟩
      ·obtain⟨a,ha,y2,h1,h2⟩:=ih hz hws
       exact⟨a,by simp [ha],y2,h1,h2⟩
theorem runOps_num {call:Caller}(hcall:call.ok P) {D:Bool}{ops:Array Oper}:∀ (l:List Oper) {s:CS}{L:List CS},runOps P call D ops l s=some L→∀ t∈L,t.n=s.n
 | [], s, L, h=>by
   unfold runOps at h
   injection h with h;subst h
   intro t ht
   simp only[List.mem_singleton] at ht;rw[ht]
 | o::l, s, L, h=>by
   have go:bindL (opC P call D o s) (runOps P call D ops l)=some L→∀ t∈L,t.n=s.n:=fun h t ht=>by
    obtain⟨l1,h1,a,ha,ys,h2,h3⟩:=bindL_mem h ht
    rw[runOps_num hcall l h2 t h3,(opC_ok hcall h1 (K:=fun _=>True) fun _ _=>trivial).2 a ha]
   have sk:runOps P call D ops l (s.put o.dst (.r .ud))=some L→∀ t∈L,t.n=s.n:=fun h t ht=>by
    rw[runOps_num hcall l h t ht,put_num]
   unfold runOps at h
   split at h
   ·exact go h
   ·split at h
    ·exact sk h
    ·split at h
     ·split at h
      ·exact go h
      ·exact sk h
     ·exact sk h
     ·cases h
theorem norm_mem':∀ {L:List CS}{x:Exit × CS},x∈norm L→x.1 = .normal∧x.2∈L
 | [],_,h=>by simp [norm] at h
 | t::l, x, h=>by
   simp only[norm,List.mem_cons] at h
   rcases h with rfl|h
   ·exact⟨rfl,by simp⟩
   ·have:=norm_mem' h
    exact⟨this.1,by simp [this.2]⟩
theorem blk_mem' {id:Nat}:∀ {L:Outs}{x:Exit × CS},x∈blk id L→∃ e,(e,x.2)∈L
 | [],_,h=>by simp [blk] at h
 | (e', t')::l, x, h=>by
   simp only[blk,List.mem_cons] at h
   rcases h with rfl|h
   ·exact⟨e',by simp⟩
   ·obtain⟨e,he⟩:=blk_mem' h
    exact⟨e,by simp [he]⟩
theorem kappa_ok {ops:Array Oper}{s:CS}:∀ l:List Oper,keysOk (kappa ops s l) s.as
 | []=>fun p hp=>by simp [kappa] at hp
 | o::l=>fun p hp=>by
   simp only[kappa,List.mem_append,List.mem_map] at hp
   rcases hp with⟨t,_,rfl⟩|hp
   ·rfl
   ·exact kappa_ok l p hp
theorem exec_ok (hm:P.follows .mixedOrders=true) {fs:List (FuncId × Nat)}(hfs:allOk P fs=true) {orc:Orc}(ho:orcOk P orc):∀ k,Good P (exec P fs orc k):=by
 intro k
 induction k using Nat.strongRecOn with
 | _ k ih =>
   cases k with
   | zero=>intro c t L _ h;cases c<;>simp [exec] at h
   | succ k =>
     intro c t L hok h
     cases c with
     | skip=>simp only[exec,Option.some.injEq] at h;subst h;exact⟨by simp,fun C Q hQ=>zx (hQ _ (List.mem_singleton.2 rfl))⟩
     | label l=>simp only[exec,Option.some.injEq] at h;subst h;exact⟨by simp,fun C Q hQ=>awp_label (hQ _ (List.mem_singleton.2 rfl))⟩
     | exit id=>simp only[exec,Option.some.injEq] at h;subst h;exact⟨by simp,fun C Q hQ=>zf (hQ _ (List.mem_singleton.2 rfl))⟩
     | ret=>simp only[exec,Option.some.injEq] at h;subst h;exact⟨by simp,fun C Q hQ=>ze (hQ _ (List.mem_singleton.2 rfl))⟩
     | region id ops D =>
       simp only[codeOk] at hok
       simp only[exec] at h
       split at h
       ·rename_i hdr
        split at h
        ·rename_i L' hL
         injection h with h;subst h
         have hcall:=callX_ok hfs ho (ih k (Nat.lt_succ_self k))
         have hk:=killD_sub D ops.toList t
         refine⟨fun x hx=>(runOps_num hcall _ hL _ (norm_mem' hx).2).trans hk.2,fun C Q hQ=>zw hk.1 ?_⟩
         have:=runOps_ok hcall (K:=Q .normal) _ hL fun t ht _=>hQ _ (norm_mem ht)
         have hd:dstOk ops.toList.toArray (killD D ops.toList t).as.n=true:=by rw[show (killD D ops.toList t).as.n=t.n from hk.2];exact hok
         cases D with
         | false=>exact awp_region (l:=ops.toList) hd this
         | true =>
           simp only[drawOk,Bool.not_true,Bool.false_or,Bool.or_eq_true] at hdr
           rcases hdr with hlex|hlex
           ·exact awp_draw (l:=ops.toList) hm hlex hd this
           ·exact awp_draw2 (l:=ops.toList) hm hlex hd (kappa_ok _) this
        ·cases h
       ·cases h
     | seq a b =>
       simp only[codeOk,Bool.and_eq_true] at hok
       simp only[exec] at h
       obtain⟨l1,h1,h2⟩:=bindL_spec h
       have ga:=ih k (Nat.lt_succ_self k) a t l1 hok.1 h1
       refine⟨fun x hx=>?_,fun C Q hQ=>?_⟩
       ·obtain⟨l1',h1',y,hy,ys,h3,h4⟩:=bindL_mem h hx
        rw[h1] at h1';injection h1' with h1';subst h1'
        have hn:=ga.1 y hy
        obtain⟨e,u⟩:=y
        cases e<;>first
         | (have:=(ih k (Nat.lt_succ_self k) b u ys (by rw[hn];exact hok.2) h3).1 x h4;rw[this];exact hn)
         | (simp only[Option.some.injEq] at h3;subst h3;simp only[List.mem_singleton] at h4;rw[h4];exact hn)
       ·refine zq (ga.2 C _ fun x hx=>?_)
        obtain⟨ys,h3,h4⟩:=h2 x hx
        have hn:=ga.1 x hx
        obtain⟨e,u⟩:=x
        cases e<;>first
         | exact (ih k (Nat.lt_succ_self k) b u ys (by rw[hn];exact hok.2) h3).2 C Q fun x hx=>hQ x (h4 x hx)
         | (simp only[Option.some.injEq] at h3;subst h3;exact hQ _ (h4 _ (by simp)))
     | cond c a b =>
       simp only[codeOk,Bool.and_eq_true] at hok
       simp only[exec] at h
       split at h
       ·rename_i tt hc
        cases tt with
        | true =>
          have g:=ih k (Nat.lt_succ_self k) a t L hok.1 h
          exact⟨g.1,fun C Q hQ=>zc hc (fun _=>g.2 C Q hQ) (fun e=>by cases e)⟩
        | false =>
          have g:=ih k (Nat.lt_succ_self k) b t L hok.2 h
          exact⟨g.1,fun C Q hQ=>zc hc (fun e=>by cases e) (fun _=>g.2 C Q hQ)⟩
       ·cases h
     | block id c =>
       simp only[codeOk] at hok
       simp only[exec] at h
       split at h
       ·rename_i L' hL
        injection h with h;subst h
        have g:=ih k (Nat.lt_succ_self k) c t L' hok hL
        refine⟨fun x hx=>?_,fun C Q hQ=>?_⟩
        ·obtain⟨e,he⟩:=blk_mem' hx
         exact g.1 (e,x.2) he
        ·refine zd (g.2 C _ fun x hx=>?_)
         obtain⟨e,u⟩:=x
         have:=hQ _ (blk_mem hx)
         cases e with
         | exit id' =>
           simp only[leave] at this
           simp only[inBlk]
           split<;>rename_i e<;>simp only[e,if_true,if_false] at this<;>exact this
         | _=>exact this
       ·cases h
     | loop c =>
       simp only[codeOk] at hok
       have num:∀ j,j≤k+1→∀ (u:CS) (L':Outs),u.n=t.n→exec P fs orc j (.loop c) u=some L'→∀ x∈L',x.2.n=t.n:=by
        intro j
        induction j with
        | zero=>intro _ u L' _ hL;simp [exec] at hL
        | succ j ihj =>
          intro hj u L' hu hL x hx
          simp only[exec] at hL
          obtain⟨l1,h1,y,hy,ys,h3,h4⟩:=bindL_mem hL hx
          have hn:=(ih j (by omega) c u l1 (by rw[hu];exact hok) h1).1 y hy
          obtain⟨e,v⟩:=y
          cases e<;>first
           | exact ihj (by omega) v ys (by rw[← hu];exact hn) h3 x h4
           | (simp only[Option.some.injEq] at h3;subst h3;simp only[List.mem_singleton] at h4;rw[h4,← hu];exact hn)
       refine⟨num (k+1) (Nat.le_refl _) t L rfl h,fun C Q hQ=>?_⟩
       refine awp_loop (fun j s=>j≤k+1∧∃ u L',s=u.as∧u.n=t.n∧exec P fs orc j (.loop c) u=some L'∧∀ x∈L',Q x.1 x.2.as) (k+1) ⟨Nat.le_refl _,t,L,rfl,rfl,h,hQ⟩ ?_
       rintro j s ⟨hj,u,L',rfl,hu,hL,hQ'⟩
       cases j with
       | zero=>simp [exec] at hL
       | succ j =>
         simp only[exec] at hL
         obtain⟨l1,h1,h2⟩:=bindL_spec hL
         have g:=ih j (by omega) c u l1 (by rw[hu];exact hok) h1
         refine g.2 C _ fun x hx=>?_
         obtain⟨ys,h3,h4⟩:=h2 x hx
         have hn:=g.1 x hx
         obtain⟨e,v⟩:=x
         cases e<;>first
          | exact⟨j,Nat.lt_succ_self j,by omega,v,ys,rfl,by rw[← hu];exact hn,h3,fun x hx=>hQ' x (h4 x hx)⟩
          | (simp only[Option.some.injEq] at h3;subst h3;exact hQ' _ (h4 _ (by simp)))
     | _=>simp [exec] at h
theorem evalX_ok (hm:P.follows .mixedOrders=true) {fs:List (FuncId × Nat)}(hfs:allOk P fs=true) {orc:Orc}(ho:orcOk P orc) {k:Nat}{F:FuncId}{args:List RV}{r:RV}(hF:fnOkE P F=true) (h:evalX P fs orc k F args=some r):ACalls P F args r:=by
 unfold evalX at h
 split at h
 ·rename_i fn hf
  split at h
  ·rename_i c hb
   exact callA_ok (exec_ok hm hfs ho k) hf hb hF h
  ·cases h
 ·cases h
end
end Go.Oc

namespace Go.Proofs.YtgfbenanljjgaaaGreat.Bo
open Go Go.Oc
set_option maxRecDepth 8000
set_option maxHeartbeats 4000000
def fourC:List RV:=[i64 60,i64 160,.sl 2 [[i64 990,i64 1]],.sl 2 [[i64 (-1),i64 1],[i64 1,i64 1],[i64 1,i64 (-1)],[i64 (-1),i64 (-1)]],ints [20,6,3,11],i64 0]
def fsW:List (FuncId × Nat):=[(147,0),(116,0),(159,0),(175,0),(190,0),(150,0),(191,0),(177,0),(178,0),(195,0),(192,0),(173,0),(108,0),(193,0),(181,0),(180,0),(176,0),(148,0)]
theorem fsW_ok:allOk Tryz.prog fsW=true:=by kernel_rfl
def wOrc:Orc:=[]
theorem wOrc_ok:orcOk Tryz.prog wOrc:=trivial
theorem win0:ACalls Tryz.prog 147 [i64 0,i64 20,ints [0]] (.bo true):=evalX_ok follows fsW_ok wOrc_ok (k:=200) (by kernel_rfl) (by kernel_rfl)
theorem win1:ACalls Tryz.prog 147 [i64 1,i64 5000,ints [60]] (.bo true):=evalX_ok follows fsW_ok wOrc_ok (k:=200) (by kernel_rfl) (by kernel_rfl)
theorem win2:ACalls Tryz.prog 147 [i64 61,i64 5000,ints [160]] (.bo true):=evalX_ok follows fsW_ok wOrc_ok (k:=200) (by kernel_rfl) (by kernel_rfl)
theorem win3:ACalls Tryz.prog 147 [i64 161,i64 5000,ints [990]] (.bo true):=evalX_ok follows fsW_ok wOrc_ok (k:=200) (by kernel_rfl) (by kernel_rfl)
theorem fac0:ACalls Tryz.prog 190 [.sl 2 [[i64 990,i64 1]],.fn 191 []] (.bo false):=evalX_ok follows fsW_ok wOrc_ok (k:=200) (by kernel_rfl) (by kernel_rfl)
theorem radii_ok:ACalls Tryz.prog 177 [.ag fourC] (.fn 194 [.rp fourC]):=by
 refine zas (rs:=[.fn 194 [.rp fourC]]) [.tmp 2] Tryz.func177 rfl (by kernel_rfl) Tryz.ntmps177 rfl (by simp) rfl fun C vs=>?_
 apply zq
 refine zb fun K hK=>?_;simp only[go_sem,fourC];apply hK;clear hK K;refine zw (zfP 1 1 fourC (by omega) rfl rfl) ?_;apply zw (zk [1]);simp only[go_sem]
 apply zq
 refine zb fun K hK=>?_;simp only[go_sem];apply hK;clear hK K;apply zw (zk [2]);simp only[go_sem];apply ze;simp only[go_sem]
 try exact Du.rv_le _
theorem xcall_yield {n:Nat}{l:List (Nat × AV)}{vs:Nat→Nat}{cs:List (Nat × RowC)}{P:Program}{d:Option Nat}{ll:Nat}{z:Bool}{e:List RV}{rest:List (List RV)}{xs:List AV}{K:AS→Prop}(hrow:lookc cs 999 = .gh P ll z (some (e::rest)))
 (hp:AV.pureL xs=true) (he:snapVL (st n l vs cs).rows xs=e) (hfl:RV.flatL e=true∨z=false) (hK1:K ((st n l vs (insc cs 999 (.gh P ll z (some rest)))).put d (.r (.bo true)))) (hK2:K ((st n l vs (insc cs 999 (.gh P ll z none))).put d (.r (.bo false)))) :
 xcall P false (st n l vs cs) d (.r (.yl ll)) xs K:=by
 have hr:∀ c,(st n l vs cs).row 999 ⟨((st n l vs cs).rows 999).ver,c⟩=st n l vs (insc cs 999 c):=fun c=>by
  rw[row_st]
  congr 1
  exact upd_self vs 999
 exact .inr (.inl ⟨rfl,.inr (.inr (.inl ⟨ll,z,e,rest,rfl,hrow,hp,he▸leL_refl _,hfl,by rw[hr];exact hK1,by rw[hr];exact hK2⟩))⟩)
theorem radii1:ICalls Tryz.prog true 194 [.rp fourC] [[i64 60],[i64 160],[i64 990]]:=by
 refine icalls_st Tryz.func194 rfl (by kernel_rfl) Tryz.ntmps194 rfl (by simp) fun C ll=>?_
 repeat apply zq
 refine zb fun K hK=>?_;simp only[go_sem,argL,fourC]
 refine xcall_yield (z:=true) (e:=[i64 60]) (rest:=[[i64 160],[i64 990]]) (by simp only[go_sem]) rfl (by simp only[go_sem]) (.inl rfl) ?_ ?_
 ·simp only[go_sem]
  refine xcall_yield (z:=true) (e:=[i64 160]) (rest:=[[i64 990]]) (by simp only[go_sem]) rfl (by simp only[go_sem]) (.inl rfl) ?_ ?_
  ·simp only[go_sem];apply hK;clear hK K;apply zw (zk [0,1,16]);simp only[go_sem]
   apply zc rfl<;>intro hc<;>(try simp only[go_sem] at hc)
   apply zx
   try simp only[go_sem]
   apply zq
   refine zb fun K hK=>?_;simp only[go_sem];apply hK;clear hK K;apply zw (zk [0,18,19,20]);simp only[go_sem];apply zd
   refine zuv (n:=30) 1 (fun i vs=>[(0,.r (.yl ll)),(18,.r (.sl 2 [[i64 990,i64 1]])),(19,.r (i64 1)),(20,.r (i64 (i:Int)))])
    (fun i vs=>[(999,.gh Tryz.prog ll true (some (if i=0 then [[i64 990]] else [])))]) (fun _=>True) 0 (zj [] ?_ ?_) (Nat.zero_le _) trivial ?_
   ·try simp only[go_sem]
   ·try simp only[go_sem]
    try rfl
   intro i vs hi _
   have:i=0∨i=1:=by omega
   rcases this with rfl|rfl
   ·apply zq
    refine zb fun K hK=>?_;simp only[go_sem];apply hK;clear hK K;apply zw (zk [0,18,19,20,21]);simp only[go_sem]
    apply zq
    apply zc rfl<;>intro hc<;>(try simp only[go_sem] at hc)
    apply zx
    try simp only[go_sem]
    apply zq
    apply zd
    apply zq
    refine zb fun K hK=>?_;simp only[go_sem];apply hK;clear hK K;refine zw (zfP 4 4 [i64 990,i64 1] (by omega) rfl rfl) ?_;apply zw (zk [0,4,18,19,20]);simp only[go_sem]
    apply zq
    refine zb fun K hK=>?_;simp only[go_sem,if_true]
    refine xcall_yield (z:=true) (e:=[i64 990]) (rest:=[]) (by simp only[go_sem,if_true]) rfl (by simp only[go_sem]) (.inl rfl) ?_ ?_
    ·simp only[go_sem];apply hK;clear hK K;apply zw (zk [0,18,19,20,28]);simp only[go_sem]
     apply zc rfl<;>intro hc<;>(try simp only[go_sem] at hc)
     apply zx
     try simp only[go_sem]
     refine zb fun K hK=>?_;simp only[go_sem];(try simp (disch:=omega) only[zI]);apply hK;clear hK K
     try simp only[go_sem]
     refine zj [] ?_ ?_
     ·try simp only[go_sem]
      try rfl
     ·try simp only[go_sem]
      try rfl
    ·simp only[go_sem];apply hK;clear hK K;apply zw (zk [28]);simp only[go_sem]
     apply zc rfl<;>intro hc<;>(try simp only[go_sem] at hc)
     apply ze;simp only[go_sem];exact⟨_,_,.inr rfl⟩
   ·apply zq
    refine zb fun K hK=>?_;simp only[go_sem];apply hK;clear hK K;apply zw (zk [21]);simp only[go_sem]
    apply zq
    apply zc rfl<;>intro hc<;>(try simp only[go_sem] at hc)
    apply zf;simp only[go_sem];exact⟨ll,true,.inl rfl⟩
  ·simp only[go_sem];apply hK;clear hK K;apply zw (zk [16]);simp only[go_sem]
   apply zc rfl<;>intro hc<;>(try simp only[go_sem] at hc)
   apply ze;simp only[go_sem];exact⟨_,_,.inr rfl⟩
 ·simp only[go_sem];apply hK;clear hK K;apply zw (zk [16]);simp only[go_sem]
  apply zc rfl<;>intro hc<;>(try simp only[go_sem] at hc)
  apply ze;simp only[go_sem];exact⟨_,_,.inr rfl⟩
def lastN:Nat→Int
 | 0=>0
 | 1=>60
 | 2=>160
 | _=>990
theorem rings_ok:ACalls Tryz.prog 172 [.ag fourC] (.bo true):=by
 have h0:=win0
 have h1:=win1
 have h2:=win2
 have h3:=win3
 have hf:=fac0
 have hra:=radii_ok
 have z1:((1:Int) == 0)=false:=rfl
 refine acalls_stR (rs:=[.bo true]) [.cell 2 4] Tryz.func172 rfl (by kernel_rfl) Tryz.ntmps172 rfl (by simp) rfl fun C hC vs=>?_
 apply zq
 refine zb fun K hK=>?_;simp only[go_sem,fourC];apply hK;clear hK K;refine zw (zfP 1 1 fourC (by omega) rfl rfl) ?_;apply zw (zk [1,2]);simp only[go_sem]
 repeat apply zq
 refine zb fun K hK=>?_;simp only[go_sem,fourC,z1]
 refine zh (h0) rfl (by simp only[go_sem,i64,ints,fourC,z1]) (by simp only[go_sem,i64,ints,fourC,z1]) ?_
 (try simp only[go_sem,fourC,z1])
 refine zh (hf) rfl (by simp only[go_sem,i64,ints,fourC,z1]) (by simp only[go_sem,i64,ints,fourC,z1]) ?_
 (try simp only[go_sem,fourC,z1]);apply hK;clear hK K;apply zw (zk [1,2,20]);simp only[go_sem]
 apply zc rfl<;>intro hc<;>(try simp only[go_sem] at hc)
 apply zx
 try simp only[go_sem]
 apply zq
 refine zb fun K hK=>?_;simp only[go_sem,fourC];(try simp (disch:=omega) only[zI]);apply hK;clear hK K;apply zw (zk [1,2,3]);simp only[go_sem]
 repeat apply zq
 refine zb fun K hK=>?_;simp only[go_sem]
 refine zh (hra) rfl (by simp only[go_sem,i64,ints,fourC]) (by simp only[go_sem,i64,ints,fourC]) ?_
 (try simp only[go_sem,fourC]);apply hK;clear hK K;apply zw (zk [1,2,3,25]);simp only[go_sem];apply zd
 refine awp_rangeF hC [[i64 60],[i64 160],[i64 990]] radii1 [1,2,3,25] (by decide) (fun vs=>[(1,.r (.rp fourC)),(2,.pt 2 (vs 2) 0),(3,.pt 3 (vs 3) 0),(25,.r (.fn 194 [.rp fourC]))])
  (fun i vs=>[(2,.box [.r (.bo false)]),(3,.box [.r (i64 (lastN i))])]) (fun _=>True) (zj [] ?_ ?_) trivial (fun _=>rfl) (fun _=>rfl) (fun _ _=>rfl) (by simp) (fun e he=>by simp only[List.mem_cons,List.not_mem_nil,or_false] at he;rcases he with rfl|rfl|rfl<;>rfl) ?_ ?_
 ·try simp only[go_sem]
  first|exact⟨rfl,rfl⟩|rfl
 ·try simp only[go_sem]
  try rfl
 ·intro i e vs us C' he _
  have hi:i=0∨i=1∨i=2:=by
   have:=(List.getElem?_eq_some_iff.1 he).1
   simp at this
   omega
  rcases hi with rfl|rfl|rfl
  ·simp only[List.getElem?_cons_zero,Option.some.injEq] at he
   subst he
   refine zb fun K hK=>?_;simp only[go_sem];apply hK;clear hK K
   refine⟨rfl,fun C'=>?_⟩
   apply zw (zk [1,2,3,4]);simp only[go_sem];apply zd
   repeat apply zq
   refine zb fun K hK=>?_;simp only[go_sem,lastN,fourC];(try simp (disch:=omega) only[zI])
   refine zh (h1) rfl (by simp only[go_sem,i64,ints,lastN]) (by simp only[go_sem,i64,ints,lastN]) ?_
   (try simp only[go_sem,lastN]);apply hK;clear hK K;apply zw (zk [1,2,3,4,36]);simp only[go_sem]
   apply zc rfl<;>intro hc<;>(try simp only[go_sem] at hc)
   apply zx
   try simp only[go_sem]
   refine zb fun K hK=>?_;simp only[go_sem];apply hK;clear hK K
   try simp only[go_sem]
   refine zj (F:=fun _=>[]) [] ?_ ?_
   ·try simp only[go_sem]
   ·try simp only[go_sem]
    try rfl
  ·simp only[List.getElem?_cons_succ,List.getElem?_cons_zero,Option.some.injEq] at he
   subst he
   refine zb fun K hK=>?_;simp only[go_sem];apply hK;clear hK K
   refine⟨rfl,fun C'=>?_⟩
   apply zw (zk [1,2,3,4]);simp only[go_sem];apply zd
   repeat apply zq
   refine zb fun K hK=>?_;simp only[go_sem,lastN,fourC];(try simp (disch:=omega) only[zI])
   refine zh (h2) rfl (by simp only[go_sem,i64,ints,lastN]) (by simp only[go_sem,i64,ints,lastN]) ?_
   (try simp only[go_sem,lastN]);apply hK;clear hK K;apply zw (zk [1,2,3,4,36]);simp only[go_sem]
   apply zc rfl<;>intro hc<;>(try simp only[go_sem] at hc)
   apply zx
   try simp only[go_sem]
   refine zb fun K hK=>?_;simp only[go_sem];apply hK;clear hK K
   try simp only[go_sem]
   refine zj (F:=fun _=>[]) [] ?_ ?_
   ·try simp only[go_sem]
   ·try simp only[go_sem]
    try rfl
  ·simp only[List.getElem?_cons_succ,List.getElem?_cons_zero,Option.some.injEq] at he
   subst he
   refine zb fun K hK=>?_;simp only[go_sem];apply hK;clear hK K
   refine⟨rfl,fun C'=>?_⟩
   apply zw (zk [1,2,3,4]);simp only[go_sem];apply zd
   repeat apply zq
   refine zb fun K hK=>?_;simp only[go_sem,lastN,fourC];(try simp (disch:=omega) only[zI])
   refine zh (h3) rfl (by simp only[go_sem,i64,ints,lastN]) (by simp only[go_sem,i64,ints,lastN]) ?_
   (try simp only[go_sem,lastN]);apply hK;clear hK K;apply zw (zk [1,2,3,4,36]);simp only[go_sem]
   apply zc rfl<;>intro hc<;>(try simp only[go_sem] at hc)
   apply zx
   try simp only[go_sem]
   refine zb fun K hK=>?_;simp only[go_sem];apply hK;clear hK K
   try simp only[go_sem]
   refine zj (F:=fun _=>[]) [] ?_ ?_
   ·try simp only[go_sem]
   ·try simp only[go_sem]
    try rfl
 ·intro vs us _
  try simp only[go_sem]
  refine zw (sub_wake rfl) ?_
  apply zq
  refine zb fun K hK=>?_;simp only[go_sem];apply hK;clear hK K;apply zw (zk [2]);simp only[go_sem];apply ze;simp only[go_sem]
theorem wire_ok:ACalls Tryz.prog 149 [.ag fourC,.ag [i64 500,i64 500]] (.bo false):=by
 have z0:((0:Int) == 0)=true:=rfl
 refine acalls_stR (rs:=[.bo false]) [.cell 4 4] Tryz.func149 rfl (by kernel_rfl) Tryz.ntmps149 rfl (by simp) rfl fun C hC vs=>?_
 apply zq
 refine zb fun K hK=>?_;simp only[go_sem,fourC];apply hK;clear hK K;refine zw (zfP 2 2 fourC (by omega) rfl rfl) ?_;apply zw (zk [2,4]);simp only[go_sem]
 repeat apply zq
 refine zb fun K hK=>?_;simp only[go_sem,fourC,z0];apply hK;clear hK K;apply zw (zk [4,11]);simp only[go_sem]
 apply zc rfl<;>intro hc<;>(try simp only[go_sem] at hc)
 apply zq
 refine zb fun K hK=>?_;simp only[go_sem];apply hK;clear hK K;apply zw (zk [4]);simp only[go_sem];apply ze;simp only[go_sem]
theorem num0:ACalls Tryz.prog 147 [i64 1,i64 20,ints [20]] (.bo true):=evalX_ok follows fsW_ok wOrc_ok (k:=200) (by kernel_rfl) (by kernel_rfl)
theorem num1:ACalls Tryz.prog 147 [i64 1,i64 20,ints [6]] (.bo true):=evalX_ok follows fsW_ok wOrc_ok (k:=200) (by kernel_rfl) (by kernel_rfl)
theorem num2:ACalls Tryz.prog 147 [i64 1,i64 20,ints [3]] (.bo true):=evalX_ok follows fsW_ok wOrc_ok (k:=200) (by kernel_rfl) (by kernel_rfl)
theorem num3:ACalls Tryz.prog 147 [i64 1,i64 20,ints [11]] (.bo true):=evalX_ok follows fsW_ok wOrc_ok (k:=200) (by kernel_rfl) (by kernel_rfl)
def numN:Nat→Int
 | 0=>20
 | 1=>6
 | 2=>3
 | _=>11
def mapN:Nat→List (RV × RV)
 | 0=>[]
 | 1=>[(i64 20,.bo true)]
 | 2=>[(i64 20,.bo true),(i64 6,.bo true)]
 | 3=>[(i64 20,.bo true),(i64 6,.bo true),(i64 3,.bo true)]
 | _=>[(i64 20,.bo true),(i64 6,.bo true),(i64 3,.bo true),(i64 11,.bo true)]
theorem numN_ok:∀ i,i<4→ACalls Tryz.prog 147 [i64 1,i64 20,ints [numN i]] (.bo true)
 | 0,_=>num0
 | 1,_=>num1
 | 2,_=>num2
 | 3,_=>num3
 | n+4,h=>by omega
theorem numN_at:∀ i,i<4→([20,6,3,11]:List Int)[i]? = some (numN i)
 | 0,_=>rfl
 | 1,_=>rfl
 | 2,_=>rfl
 | 3,_=>rfl
 | n+4,h=>by omega
theorem numN_new:∀ i,i<4→findK (i64 (numN i)) (mapN i) 0=some none
 | 0,_=>rfl
 | 1,_=>rfl
 | 2,_=>rfl
 | 3,_=>rfl
 | n+4,h=>by omega
theorem mapN_succ:∀ i,i<4→mapN (i+1)=mapN i++[(i64 (numN i),.bo true)]
 | 0,_=>rfl
 | 1,_=>rfl
 | 2,_=>rfl
 | 3,_=>rfl
 | n+4,h=>by omega
theorem numbers_ok:ACalls Tryz.prog 174 [.ag fourC] (.bo true):=by
 refine zas (rs:=[.bo true]) [.tmp 2] Tryz.func174 rfl (by kernel_rfl) Tryz.ntmps174 rfl (by simp) rfl fun C vs=>?_
 apply zq
 refine zb fun K hK=>?_;simp only[go_sem,fourC];apply hK;clear hK K;refine zw (zfP 1 1 fourC (by omega) rfl rfl) ?_;apply zw (zk [1]);simp only[go_sem]
 apply zq
 refine zb fun K hK=>?_;simp only[go_sem];apply hK;clear hK K;apply zw (zk [1,3]);simp only[go_sem]
 repeat apply zq
 refine zb fun K hK=>?_;simp only[go_sem,fourC];apply hK;clear hK K;apply zw (zk [1,3,8,9,10]);simp only[go_sem];apply zd
 refine zuv (n:=33) 4 (fun i vs=>[(1,.r (.rp fourC)),(3,.mp 6 (vs 6)),(8,.r (ints [20,6,3,11])),(9,.r (i64 4)),(10,.r (i64 (i:Int)))])
  (fun i vs=>[(6,.mp (mapN i))]) (fun _=>True) 0 (zj [] ?_ ?_) (Nat.zero_le _) trivial ?_
 ·try simp only[go_sem]
  try rfl
 ·try simp only[go_sem]
  try rfl
 intro i vs hi _
 by_cases hin:i<4
 ·have h1:=numN_ok i hin
  have h2:=numN_at i hin
  have h3:=numN_new i hin
  have h4:=mapN_succ i hin
  rw[h4]
  have c1:decide ((i:Int)<4)=true:=decide_eq_true (by omega)
  have hl:i<([20,6,3,11]:List Int).length:=hin
  have w1:IntKind.i64.wrap ((i:Int)+1)=(i:Int)+1:=by rw[zI]<;>omega
  generalize hL:([20,6,3,11]:List Int)=L at *
  generalize numN i=q at *
  generalize mapN i=M at *
  have hL4:L.length=4:=by rw[← hL];rfl
  apply zq
  refine zb fun K hK=>?_;simp only[go_sem,c1,hin];apply hK;clear hK K;apply zw (zk [1,3,8,9,10,11]);simp only[go_sem]
  apply zq
  apply zc rfl<;>intro hc<;>(try simp only[go_sem] at hc)
  apply zx
  try simp only[go_sem]
  apply zq
  apply zd
  apply zq
  refine zb fun K hK=>?_;simp only[go_sem,h2,hl,hL4,List.length_map]
  refine⟨by omega,?_⟩
  apply hK;clear hK K;apply zw (zk [1,3,5,8,9,10]);simp only[go_sem]
  repeat apply zq
  refine zb fun K hK=>?_;simp only[go_sem,h3]
  refine zh (h1) rfl (by simp only[go_sem,i64,ints,h3]) (by simp only[go_sem,i64,ints,h3]) ?_
  (try simp only[go_sem,h3]);apply hK;clear hK K;apply zw (zk [1,3,5,8,9,10,22]);simp only[go_sem]
  apply zc rfl<;>intro hc<;>(try simp only[go_sem] at hc)
  apply zx
  try simp only[go_sem]
  refine zb fun K hK=>?_;simp only[go_sem,h3];apply hK;clear hK K;apply zw (zk [1,3,8,9,10]);simp only[go_sem];refine zb fun K hK=>?_;simp only[go_sem,w1];apply hK;clear hK K
  try simp only[go_sem]
  refine⟨by omega,zj [] ?_ ?_⟩
  ·try simp only[go_sem]
  ·try simp only[go_sem]
 ·have hie:i=4:=by omega
  subst hie
  apply zq
  refine zb fun K hK=>?_;simp only[go_sem];apply hK;clear hK K;apply zw (zk [1,11]);simp only[go_sem]
  apply zq
  apply zc rfl<;>intro hc<;>(try simp only[go_sem] at hc)
  apply zf;simp only[go_sem]
  apply zq
  refine zb fun K hK=>?_;simp only[go_sem,fourC];apply hK;clear hK K;apply zw (zk [2]);simp only[go_sem];apply ze;simp only[go_sem]
def fsB:List (FuncId × Nat):=[(147,0),(116,0),(159,0),(175,0),(190,0),(150,0),(191,0),(177,0),(178,0),(195,0),(192,0),(173,0),(108,0),(193,0),(181,0),(180,0),(176,0),(148,0),(73,0),(107,0),(109,0),(146,0),(151,0),(152,0)]
theorem fsB_ok:allOk Tryz.prog fsB=true:=by kernel_rfl
def bOrc:Orc:=[(172,[.ag fourC],.bo true),(174,[.ag fourC],.bo true),(149,[.ag fourC,.ag [i64 500,i64 500]],.bo false)]
theorem bOrc_ok:orcOk Tryz.prog bOrc:=⟨rings_ok,numbers_ok,wire_ok,trivial⟩
theorem bed_ok:ACalls Tryz.prog 73 [.ag fourC,.ag [i64 500,i64 500]] (.tu [i64 106,.bo false,i64 0]):=evalX_ok follows fsB_ok bOrc_ok (k:=400) (by kernel_rfl) (by kernel_rfl)
end Go.Proofs.YtgfbenanljjgaaaGreat.Bo

namespace Go.Proofs.YtgfbenanljjgaaaGreat.Du.Th
open Go Go.Oc
set_option maxRecDepth 8000
theorem aimOk_facts {d:Int}{a:Am}(h:aimOk d a=true):bedOk a.at_=true∧a.beds≠[]∧seqOk none a.beds=true∧chOk d a.beds=true∧loS a.beds≤d∧d≤hiS a.beds:=by
 simp only[aimOk,Bool.and_eq_true,decide_eq_true_eq,Bool.not_eq_true'] at h
 obtain⟨⟨⟨⟨⟨h1,h2⟩,h3⟩,h4⟩,h5⟩,h6⟩:=h
 exact⟨h1,fun e=>(by rw[e] at h2;cases h2),h3,h4,h5,h6⟩
theorem checkV_zero {d:Int}{l:List Am}(h:checkV d l=0):l.length≤20∧(∀ a∈l,a.beds.length≤10)∧l≠[]∧(1≤d∧d≤3000)∧∀ a∈l,aimOk d a=true:=by
 unfold checkV at h
 split at h
 ·cases h
 rename_i h1
 split at h
 ·cases h
 rename_i h2
 split at h
 ·rename_i h3
  simp only[Bool.or_eq_true,decide_eq_true_eq,List.any_eq_true,not_or,not_exists,not_and,Nat.not_lt,Bool.not_eq_true,Bool.not_eq_false',Bool.and_eq_true] at h1 h2
  refine⟨h1.1,h1.2,fun e=>?_,by simpa using h2.2,List.all_eq_true.1 h3⟩
  rw[e] at h2
  simp at h2
 ·cases h
def cmpI (x y:Int):Int:=if x<y then -1 else if y<x then 1 else 0
theorem nan_ok (n:Int):ACalls Tryz.prog 79 [i64 n] (.bo false):=by
 refine zas (rs:=[.bo false]) [.tmp 2] Tryz.func79 rfl (by kernel_rfl) Tryz.ntmps79 rfl (by simp) rfl fun C vs=>?_
 apply zq
 refine zb fun K hK=>?_;simp only[go_sem];apply hK;clear hK K
 apply zq
 refine zb fun K hK=>?_;simp only[go_sem];apply hK;clear hK K;apply ze;simp only[go_sem]
 simp
theorem compare_ok (x y:Int):ACalls Tryz.prog 52 [i64 x,i64 y] (i64 (cmpI x y)):=by
 refine zas (rs:=[i64 (cmpI x y)]) [.tmp 4] Tryz.func52 rfl (by kernel_rfl) Tryz.ntmps52 rfl (by simp) rfl fun C vs=>?_
 apply zq
 refine zb fun K hK=>?_;simp only[go_sem];apply hK;clear hK K
 apply zq
 refine zb fun K hK=>?_;simp only[go_sem]
 refine zh (nan_ok x) rfl (by simp only[go_sem,i64,ints]) (by simp only[go_sem,i64,ints]) ?_
 (try simp only[go_sem]);apply hK;clear hK K
 apply zq
 refine zb fun K hK=>?_;simp only[go_sem]
 refine zh (nan_ok y) rfl (by simp only[go_sem,i64,ints]) (by simp only[go_sem,i64,ints]) ?_
 (try simp only[go_sem]);apply hK;clear hK K
 repeat apply zq
 refine zb fun K hK=>?_;simp only[go_sem];apply hK;clear hK K
 apply zc rfl<;>intro hc<;>(try simp only[go_sem] at hc)
 apply zx
 try simp only[go_sem]
 repeat apply zq
 refine zb fun K hK=>?_;simp only[go_sem];apply hK;clear hK K
 apply zc rfl<;>intro hc<;>(try simp only[go_sem] at hc)
 apply zx
 try simp only[go_sem]
 repeat apply zq
 refine zb fun K hK=>?_;simp only[go_sem];apply hK;clear hK K
 apply zc rfl<;>intro hc<;>(try simp only[go_sem] at hc)
 ·apply zq
  refine zb fun K hK=>?_;simp only[go_sem];apply hK;clear hK K;apply ze;simp only[go_sem]
  simp [cmpI,hc]
 apply zx
 try simp only[go_sem]
 repeat apply zq
 refine zb fun K hK=>?_;simp only[go_sem];apply hK;clear hK K
 have h1:=hc
 apply zc rfl<;>intro hc<;>(try simp only[go_sem] at hc)
 ·apply zq
  refine zb fun K hK=>?_;simp only[go_sem];apply hK;clear hK K;apply ze;simp only[go_sem]
  have:¬ x<y:=by omega
  simp [cmpI,hc,this]
 apply zx
 try simp only[go_sem]
 apply zq
 refine zb fun K hK=>?_;simp only[go_sem];apply hK;clear hK K;apply ze;simp only[go_sem]
 have h2:¬ x<y:=by omega
 have h3:¬ y<x:=by omega
 simp [cmpI,h2,h3]
def insB (lt:Nat→Nat→Bool) (x:Nat):List Nat→List Nat
 | []=>[x]
 | y::ys=>if lt x y then y::insB lt x ys else x::y::ys
def sortB (lt:Nat→Nat→Bool):List Nat→List Nat→List Nat
 | [],R=>R
 | x::xs,R=>sortB lt xs (insB lt x R)
def sortN (lt:Nat→Nat→Bool) (l:List Nat):List Nat:=(sortB lt l []).reverse
theorem insB_len (lt:Nat→Nat→Bool) (x:Nat):∀ R,(insB lt x R).length=R.length+1
 | []=>rfl
 | y::R=>by
   unfold insB
   split
   ·simp [insB_len lt x R]
   ·rfl
theorem insB_skip (lt:Nat→Nat→Bool) (x:Nat):∀ (R:List Nat) (k:Nat),(∀ y∈R.take k,lt x y=true)→insB lt x R=R.take k++insB lt x (R.drop k)
 | R,0,_=>by simp
 | [],k+1,_=>by simp
 | y::R, k+1, h=>by
   have hy:lt x y=true:=h y (by simp)
   have ih:=insB_skip lt x R k fun z hz=>h z (by simp [hz])
   simp only[List.take_succ_cons,List.drop_succ_cons,List.cons_append];rw[← ih]
   simp [insB,hy]
theorem sortB_snoc (lt:Nat→Nat→Bool):∀ (l:List Nat) (x:Nat) (R:List Nat),sortB lt (l++[x]) R=insB lt x (sortB lt l R)
 | [],_,_=>rfl
 | y::l,x,R=>by simp only[List.cons_append,sortB];exact sortB_snoc lt l x _
theorem sortB_len (lt:Nat→Nat→Bool):∀ (l R:List Nat),(sortB lt l R).length=l.length+R.length
 | [],R=>by simp [sortB]
 | x::l,R=>by simp only[sortB];rw[sortB_len lt l,insB_len];simp;omega
theorem mem_insB (lt:Nat→Nat→Bool) (x z:Nat):∀ R,z∈insB lt x R↔z=x∨z∈R
 | []=>by simp [insB]
 | y::R=>by
   unfold insB
   split
   ·simp only[List.mem_cons,mem_insB lt x z R]
    constructor
    ·rintro (h|h|h)<;>simp [h]
    ·rintro (h|h|h)<;>simp [h]
   ·simp
theorem mem_sortB (lt:Nat→Nat→Bool) (z:Nat):∀ l R,z∈sortB lt l R↔z∈l∨z∈R
 | [],R=>by simp [sortB]
 | x::l, R=>by
   simp only[sortB];rw[mem_sortB lt z l,mem_insB]
   simp only[List.mem_cons]
   constructor
   ·rintro (h|h|h)<;>simp [h]
   ·rintro ((h|h)|h)<;>simp [h]
def holeL (R:List Nat) (x k:Nat) (rest:List Nat):List Nat:=(R.drop k).reverse++x::((R.take k).reverse++rest)
theorem hole_len (R:List Nat) (x k:Nat) (rest:List Nat) (hk:k≤R.length):(holeL R x k rest).length=R.length+1+rest.length:=by
 simp [holeL];omega
theorem hole_at (R:List Nat) (x k:Nat) (rest:List Nat) (hk:k≤R.length):(holeL R x k rest)[R.length-k]? = some x:=by
 unfold holeL
 rw[List.getElem?_append_right (by simp)]
 simp
theorem hole_next {R:List Nat}{x k y:Nat}{rest:List Nat}(hy:R[k]? = some y):(holeL R x k rest)[R.length-k-1]? = some y∧(holeL R x k rest)=(R.drop (k+1)).reverse++y::x::((R.take k).reverse++rest)∧holeL R x (k+1) rest=(R.drop (k+1)).reverse++x::y::((R.take k).reverse++rest):=by
 have hk:=(List.getElem?_eq_some_iff.1 hy).1
 have hd:=drop_of_opt hy
 have ht:=zto hy
 have e1:(holeL R x k rest)=(R.drop (k+1)).reverse++y::x::((R.take k).reverse++rest):=by
  unfold holeL;rw[hd];simp
 refine⟨?_,e1,by unfold holeL;rw[ht];simp⟩
 rw[e1,List.getElem?_append_right (by simp;omega)]
 have:R.length-k-1-(R.drop (k+1)).reverse.length=0:=by simp;omega
 rw[this];rfl
theorem hole_swap {α:Type}(g:Nat→α) {R:List Nat}{x k y:Nat}{rest:List Nat}(hy:R[k]? = some y) :
 (((holeL R x k rest).map g).set (R.length-k) (g y)).set (R.length-k-1) (g x)=(holeL R x (k+1) rest).map g:=by
 obtain⟨_,e1,e2⟩:=hole_next (x:=x) (rest:=rest) hy
 have hk:=(List.getElem?_eq_some_iff.1 hy).1
 rw[e1,e2,← List.map_set,← List.map_set]
 congr 1
 have hl:(R.drop (k+1)).reverse.length=R.length-k-1:=by simp;omega
 generalize (R.drop (k+1)).reverse=A at hl
 generalize (R.take k).reverse++rest=B
 have e3:R.length-k=A.length+1:=by omega
 rw[e3,Nat.add_sub_cancel]
 rw[List.set_append_right _ _ (by omega)]
 simp only[Nat.add_sub_cancel_left,List.set_cons_succ,List.set_cons_zero];rw[List.set_append_right _ _ (by omega)]
 simp
theorem lent_put {vs:Nat→Nat}{k:Nat}(h:Lent vs):Lent (upd vs k 0):=fun j hj=>by
 unfold upd;split
 ·rfl
 ·exact h j hj
abbrev idx (l:List Nat):List (List RV):=l.map fun (x:Nat)=>[i64 (x:Int)]
end Go.Proofs.YtgfbenanljjgaaaGreat.Du.Th

namespace Go.Proofs.YtgfbenanljjgaaaGreat.Du.Th.Ai
open Go Go.Oc
set_option maxRecDepth 8000
abbrev arrV (l:List Int):List (List RV):=l.map fun n=>[i64 n]
abbrev fnS (s:Bool):AV:=.fn 186 [.r (.rp [.bo s]),.pt 1001 0 0]
abbrev rowsV (l:List Nat) (vals:List Int):List (Nat × RowC):=[(1000,.arr 3 1 (idx l)),(1001,.box [.os 1002 0 1 0 vals.length]),(1002,.arr 3 1 (arrV vals))]
theorem insertionV_ok (lt:Nat→Nat→Bool) (c:Nat→Nat→Int) (s:Bool) (vals:List Int) (l:List Nat) (hl:l.length≤1000) (hlt:∀ x y,lt x y=decide (c x y<0))
 (hcc:∀ x∈l,∀ y∈l,ACalls Tryz.prog 186 [i64 (x:Int),i64 (y:Int),.rp [.bo s],.rp [ints vals]] (i64 (c x y))) :
 MCalls Tryz.prog 200 (rowsV l vals) (rowsV (sortN lt l) vals) [.os 1000 0 1 0 l.length,.r (i64 0),.r (i64 l.length),fnS s] (.tu []):=by
 refine mcalls_st (n:=53) (rs:=[]) _ _ [] Tryz.func200 rfl (by kernel_rfl) Tryz.ntmps200 rfl (by simp) rfl rfl fun C=>?_
 have hmem:∀ i z,z∈sortB lt (l.take i) []→z∈l:=fun i z hz=>by
  rw[mem_sortB] at hz
  rcases hz with hz|hz
  ·exact List.mem_of_mem_take hz
  ·cases hz
 apply zq
 refine zb fun K hK=>?_;simp only[go_sem];(try simp (disch:=omega) only[zI]);apply hK;clear hK K;apply zw (zk [0,1,2,3,8]);simp only[go_sem];apply zd
 refine awp_upto0 (n:=53) (max l.length 1) (fun i vs=>[(0,.os 1000 0 1 0 l.length),(1,.r (i64 0)),(2,.r (i64 l.length)),(3,fnS s),(8,.r (i64 i))])
  (fun i=>[(1000,.arr 3 1 (idx ((sortB lt (l.take i) []).reverse++l.drop i))),(1001,.box [.os 1002 0 1 0 vals.length]),(1002,.arr 3 1 (arrV vals))]) (fun i=>1≤i) 1 (fit0_of [] lent_zero ?_ ?_) (by omega) (Nat.le_refl _) ?_
 ·try simp only[go_sem]
 ·simp only[go_sem]
  cases l with
  | nil=>rfl
  | cons x l=>simp [sortB,insB]
 ·intro i vs hv hi hi1
  have hv0:=hv 1000 (by omega)
  have hv1:=hv 1001 (by omega)
  have hv2:=hv 1002 (by omega)
  repeat apply zq
  refine zb fun K hK=>?_;simp only[go_sem];apply hK;clear hK K;apply zw (zk [0,1,2,3,8,14]);simp only[go_sem]
  apply zc rfl<;>intro hc<;>(try simp only[go_sem] at hc)
  ·have hci:i<l.length:=by omega
   obtain⟨x,hx⟩:=zol hci
   obtain⟨R,hR⟩:∃ R,R=sortB lt (l.take i) []:=⟨_,rfl⟩
   have hRl:R.length=i:=by rw[hR,sortB_len];simp;omega
   have hRm:∀ z∈R,z∈l:=fun z hz=>hmem i z (hR▸hz)
   have hnx:sortB lt (l.take (i+1)) []=insB lt x R:=by rw[zto hx,sortB_snoc,hR]
   have hst:(sortB lt (l.take i) []).reverse++l.drop i=holeL R x 0 (l.drop (i+1)):=by rw[← hR,drop_of_opt hx];simp [holeL]
   rw[hst]
   apply zx
   apply zq
   apply zd
   apply zq
   refine zb fun K hK=>?_;simp only[go_sem];apply hK;clear hK K;apply zw (zk [0,1,2,3,8,9]);simp only[go_sem];apply zd
   refine awp_upto0 (n:=53) i (fun k vs=>[(0,.os 1000 0 1 0 l.length),(1,.r (i64 0)),(2,.r (i64 l.length)),(3,fnS s),(8,.r (i64 i)),(9,.r (i64 (i-k:Nat)))])
    (fun k=>[(1000,.arr 3 1 (idx (holeL R x k (l.drop (i+1))))),(1001,.box [.os 1002 0 1 0 vals.length]),(1002,.arr 3 1 (arrV vals))]) (fun k=>∀ y∈R.take k,lt x y=true) 0 (fit0_of [] hv ?_ ?_) (Nat.zero_le _) (by simp) ?_
   ·try simp only[go_sem]
   ·try simp only[go_sem]
   ·intro k vs hv hk hI
    have hv0:=hv 1000 (by omega)
    have hv1:=hv 1001 (by omega)
    have hv2:=hv 1002 (by omega)
    have hins:=insB_skip lt x R k hI
    have done:insB lt x (R.drop k)=x::R.drop k→sortB lt (l.take (i+1)) []=R.take k++x::R.drop k:=fun h=>by rw[hnx,hins,h]
    by_cases hk0:k=i
    ·have e0:i-k=0:=by omega
     repeat apply zq
     refine awp_dreg2 [(0,some 1000)] follows (by decide +kernel) (by kernel_rfl) (by simp only[keysOk,List.mem_cons,List.not_mem_nil,forall_eq_or_imp,Oc.keyOf,go_sem];simp) fun K hK=>?_
     simp only[go_sem,hv0,hv1,hv2,e0];apply hK;clear hK K;apply zw (zk [0,1,2,3,8,9,34]);simp only[go_sem]
     apply zc rfl<;>intro hc<;>(try simp only[go_sem] at hc)
     apply zf;simp only[go_sem];refine zb fun K hK=>?_;simp only[go_sem];(try simp (disch:=omega) only[zI]);apply hK;clear hK K
     try simp only[go_sem]
     refine⟨by omega,fit0_of [] hv ?_ ?_⟩
     ·try simp only[go_sem]
     ·have hd0:R.drop k=[]:=List.drop_eq_nil_of_le (by omega)
      have:=done (by rw[hd0];rfl)
      simp only[go_sem,this]
      simp [holeL]
    ·obtain⟨y,hy⟩:=zol (l:=R) (i:=k) (by omega)
     obtain⟨j,hj⟩:∃ j,i-k=j+1:=⟨i-k-1,by omega⟩
     have hjs:IntKind.i64.wrap ((j:Int)+1-1)=j:=by rw[zI]<;>omega
     have hlen:(holeL R x k (l.drop (i+1))).length=l.length:=by rw[hole_len _ _ _ _ (by omega),List.length_drop];omega
     have hxa:(holeL R x k (l.drop (i+1)))[j+1]? = some x:=by rw[← hj,← hRl];exact hole_at R x k _ (by omega)
     have hya:(holeL R x k (l.drop (i+1)))[j]? = some y:=by
      have:=(hole_next (x:=x) (rest:=l.drop (i+1)) hy).1
      rw[hRl,hj] at this
      exact this
     have hcall:=hcc x (zmo hx) y (hRm y (zmo hy))
     have hpos:(0<(j:Int)+1)=True:=by simp
     have hlxy:=hlt x y
     repeat apply zq
     refine awp_dreg2 [(0,some 1000)] follows (by decide +kernel) (by kernel_rfl) (by simp only[keysOk,List.mem_cons,List.not_mem_nil,forall_eq_or_imp,Oc.keyOf,go_sem];simp) fun K hK=>?_
     simp only[go_sem,hv0,hv1,hv2,hj,hjs,hxa,hya,hlen,hpos]
     refine⟨by omega,by omega,?_⟩
     refine zh (hcall) rfl (by simp only[go_sem,i64,ints,hv0,hv1,hv2,fnS]) (by simp only[go_sem,i64,ints,hv0,hv1,hv2,fnS]) ?_
     (try simp only[go_sem,hv0,hv1,hv2,fnS]);apply hK;clear hK K;apply zw (zk [0,1,2,3,8,9,34]);simp only[go_sem]
     cases hcx:decide (c x y<0)
     ·skip
      apply zc rfl<;>intro hc<;>(try simp only[go_sem] at hc)
      apply zf;simp only[go_sem];refine zb fun K hK=>?_;simp only[go_sem];(try simp (disch:=omega) only[zI]);apply hK;clear hK K
      try simp only[go_sem]
      refine⟨by omega,fit0_of [] hv ?_ ?_⟩
      ·try simp only[go_sem]
      ·have:=done (by rw[drop_of_opt hy];simp [insB,hlxy,hcx])
       simp only[go_sem,this]
       simp [holeL]
     ·skip
      apply zc rfl<;>intro hc<;>(try simp only[go_sem] at hc)
      apply zx
      try simp only[go_sem]
      apply zq
      apply zd
      have hset:((idx (holeL R x k (l.drop (i+1)))).set (j+1) [i64 (y:Int)]).getD j []=[i64 (y:Int)]:=by
       rw[List.getD_eq_getElem?_getD,List.getElem?_set_ne (by omega),List.getElem?_map,hya];rfl
      have hsw:=hole_swap (fun (x:Nat)=>[i64 (x:Int)]) (x:=x) (rest:=l.drop (i+1)) hy
      rw[hRl,hj] at hsw
      simp only[Nat.add_sub_cancel] at hsw
      refine awp_dreg2 [(0,some 1000)] follows (by decide +kernel) (by kernel_rfl) (by simp only[keysOk,List.mem_cons,List.not_mem_nil,forall_eq_or_imp,Oc.keyOf,go_sem];simp) fun K hK=>?_
      simp only[go_sem,hv0,hv1,hv2,hj,hjs,hxa,hya,hlen,hset,List.length_set]
      repeat' first|intro _|refine And.intro ?_ ?_
      all_goals first|omega|skip
      all_goals (refine hK _ ?_;clear hK K)
      apply zw (zk [0,1,2,3,8,9]);simp only[go_sem];refine zb fun K hK=>?_;simp only[go_sem,hjs];apply hK;clear hK K
      try simp only[go_sem]
      have hj2:i-(k+1)=j:=by omega
      refine⟨by omega,?_,fit0_of [] (lent_put (lent_put hv)) ?_ ?_⟩
      ·rw[zto hy]
       intro z hz
       rcases List.mem_append.1 hz with hz|hz
       ·exact hI z hz
       ·simp only[List.mem_singleton] at hz
        subst hz
        rw[hlxy,hcx]
      ·simp only[go_sem,hj2]
      ·simp only[go_sem];exact congrArg (fun z=>[(1000,RowC.arr 3 1 z),(1001,RowC.box [.os 1002 0 1 0 vals.length]),(1002,RowC.arr 3 1 (arrV vals))]) hsw
  ·apply zf;simp only[go_sem]
   have h1:l.take i=l:=List.take_of_length_le (by omega)
   have h2:l.drop i=[]:=List.drop_eq_nil_of_le (by omega)
   rw[h1,h2,List.append_nil]
   rfl
set_option maxHeartbeats 4000000
theorem ascore_ok (b:Int) (hb:0≤b∧b≤499):ACalls Tryz.prog 182 [i64 b] (i64 (scoreOf b)):=by
 have e1:Int.tdiv b 100=b / 100:=Int.tdiv_eq_ediv_of_nonneg hb.1
 have e2:Int.tmod b 100=b % 100:=Int.tmod_eq_emod_of_nonneg hb.1
 have h1:0≤b / 100∧b / 100≤4:=by omega
 have h2:0≤b % 100∧b % 100≤99:=by omega
 have h3:=Int.mul_nonneg h1.1 h2.1
 have h4:=Int.mul_le_mul h1.2 h2.2 h2.1 (show (0:Int)≤4 by omega)
 have w1:IntKind.i64.wrap (b / 100)=b / 100:=by rw[zI]<;>omega
 have w2:IntKind.i64.wrap (b % 100)=b % 100:=by rw[zI]<;>omega
 have w3:IntKind.i64.wrap (b / 100*(b % 100))=b / 100*(b % 100):=by rw[zI]<;>omega
 have hs:scoreOf b=b / 100*(b % 100):=rfl
 rw[hs]
 refine zas (rs:=[i64 (b / 100*(b % 100))]) [.tmp 2] Tryz.func182 rfl (by kernel_rfl) Tryz.ntmps182 rfl (by simp) rfl fun C vs=>?_
 apply zq
 refine zb fun K hK=>?_;simp only[go_sem];apply hK;apply zw (zk [0]);simp only[go_sem]
 apply zq
 refine zb fun K hK=>?_;simp only[go_sem,e1,e2,w1,w2,w3];apply hK;apply zw (zk [2]);simp only[go_sem];apply ze;simp only[go_sem]
def opA (g b:Int):Bool:=if g=1 then decide (b / 100=2) else if g=2 then decide (2≤b / 100) else decide (b≠0)
theorem aopens_ok (b g:Int) (hb:0≤b∧b≤499):ACalls Tryz.prog 183 [i64 b,i64 g] (.bo (opA g b)):=by
 have e1:Int.tdiv b 100=b / 100:=Int.tdiv_eq_ediv_of_nonneg hb.1
 have w1:IntKind.i64.wrap (b / 100)=b / 100:=by rw[zI]<;>omega
 refine zas (rs:=[.bo (opA g b)]) [.tmp 4] Tryz.func183 rfl (by kernel_rfl) Tryz.ntmps183 rfl (by simp) rfl fun C vs=>?_
 apply zq
 refine zb fun K hK=>?_;simp only[go_sem];apply hK;apply zw (zk [0,1]);simp only[go_sem]
 apply zq
 refine zb fun K hK=>?_;simp only[go_sem,e1,w1];apply hK;apply zw (zk [0,1,5]);simp only[go_sem]
 repeat apply zq
 refine zb fun K hK=>?_;simp only[go_sem];apply hK;apply zw (zk [0,5,8]);simp only[go_sem];apply zd
 apply zq
 refine zb fun K hK=>?_;simp only[go_sem];apply hK;apply zw (zk [0,5,8,9]);simp only[go_sem]
 by_cases h1:g=1
 ·subst h1
  apply zc rfl<;>intro hc<;>(try simp only[go_sem] at hc)
  apply zq
  refine zb fun K hK=>?_;simp only[go_sem];apply hK;apply zw (zk [4]);simp only[go_sem];apply ze;simp only[go_sem];rw[Bool.eq_iff_iff]
  simp [opA]
 ·have e1:(g == 1)=false:=by simpa using h1
  rw[e1]
  apply zc rfl<;>intro hc<;>(try simp only[go_sem] at hc)
  apply zq
  refine zb fun K hK=>?_;simp only[go_sem];apply hK;apply zw (zk [0,5,13]);simp only[go_sem]
  by_cases h2:g=2
  ·subst h2
   apply zc rfl<;>intro hc<;>(try simp only[go_sem] at hc)
   apply zq
   refine zb fun K hK=>?_;simp only[go_sem];apply hK;apply zw (zk [4]);simp only[go_sem];apply ze;simp only[go_sem]
   simp [opA]
  ·have e2:(g == 2)=false:=by simpa using h2
   rw[e2]
   apply zc rfl<;>intro hc<;>(try simp only[go_sem] at hc)
   apply zx
   try simp only[go_sem]
   apply zq
   refine zb fun K hK=>?_;simp only[go_sem];apply hK;apply zw (zk [4]);simp only[go_sem];apply ze;simp only[go_sem];rw[Bool.eq_iff_iff]
   simp [opA,h1,h2]
def lowG (g:Int):Int:=if g=0 then 1 else 2
theorem alow_ok (g:Int):ACalls Tryz.prog 110 [i64 g] (i64 (lowG g)):=by
 refine zas (rs:=[i64 (lowG g)]) [.tmp 2] Tryz.func110 rfl (by kernel_rfl) Tryz.ntmps110 rfl (by simp) rfl fun C vs=>?_
 apply zq
 refine zb fun K hK=>?_;simp only[go_sem];apply hK;apply zw (zk [0]);simp only[go_sem]
 repeat apply zq
 refine zb fun K hK=>?_;simp only[go_sem];apply hK;apply zw (zk [4]);simp only[go_sem]
 by_cases h:g=0
 ·subst h
  apply zc rfl<;>intro hc<;>(try simp only[go_sem] at hc)
  apply zq
  refine zb fun K hK=>?_;simp only[go_sem];apply hK;apply ze;simp only[go_sem]
  rfl
 ·have e:(g == 0)=false:=by simpa using h
  rw[e]
  apply zc rfl<;>intro hc<;>(try simp only[go_sem] at hc)
  apply zx
  try simp only[go_sem]
  apply zq
  refine zb fun K hK=>?_;simp only[go_sem];apply hK;apply ze;simp only[go_sem]
  simp [lowG,h]
theorem awithin1_ok (n a b:Int):ACalls Tryz.prog 117 [i64 n,.rp [i64 a],.rp [i64 b]] (.bo (decide (n<a) || decide (b<n))):=by
 refine zas (rs:=[.bo (decide (n<a) || decide (b<n))]) [.tmp 4] Tryz.func117 rfl (by kernel_rfl) Tryz.ntmps117 rfl (by simp) rfl fun C vs=>?_
 apply zq
 refine zb fun K hK=>?_;simp only[go_sem];apply hK
 apply zq
 refine zb fun K hK=>?_;simp only[go_sem]
 refine⟨fun h=>?_,fun h=>?_⟩ <;>
 ·skip
  apply hK;apply ze;simp only[go_sem]
  try simp [h]
theorem awithin_ok (a b:Int) (l:List Int):ACalls Tryz.prog 84 [i64 a,i64 b,ints l] (.bo (withinL a b l)):=by
 refine zas (rs:=[.bo (withinL a b l)]) [.tmp 6] Tryz.func84 rfl (by kernel_rfl) Tryz.ntmps84 rfl (by simp) rfl fun C vs=>?_
 apply zq
 refine zb fun K hK=>?_;simp only[go_sem];apply hK
 apply zq
 refine zb fun K hK=>?_;simp only[go_sem]
 refine zh (contains_ok (fun n=>decide (n<a) || decide (b<n)) 117 [.rp [i64 a],.rp [i64 b]] l fun x _=>awithin1_ok x a b) rfl (by simp only[go_sem,i64,ints]) (by simp only[go_sem,i64,ints]) ?_
 (try simp only[go_sem]);apply hK;apply ze;simp only[go_sem];rw[← withinL_not]
def canA (beds:List Bd) (i:Nat) (d:Int):Int:=min (d-(loS beds-(beds.getD i ⟨0,0,0⟩).lo)) (beds.getD i ⟨0,0,0⟩).hi
def denA (beds:List Bd) (i:Nat) (d:Int) (k:Nat):Int:=d-(loS (beds.take k)-if i<k then (beds.getD i ⟨0,0,0⟩).lo else 0)
theorem can_ok (beds:List Bd) (i:Nat) (d:Int) (hi:i<beds.length) (hl:beds.length≤1000) (hs:Small beds) (hd:0≤d∧d≤6000):ACalls Tryz.prog 184 [bedsR beds,i64 (i:Int),i64 d] (i64 (canA beds i d)):=by
 obtain⟨bi,hbi⟩:=zol hi
 have hgi:beds.getD i ⟨0,0,0⟩=bi:=by rw[List.getD_eq_getElem?_getD,hbi];rfl
 have hbis:=hs bi (zmo hbi)
 have hbnd:∀ k,k≤beds.length → -6000000≤denA beds i d k∧denA beds i d k≤12000:=fun k hk=>by
  have h1:=(sums_le (hs.take k)).1
  have h2:(beds.take k).length≤1000:=by rw[List.length_take];omega
  unfold denA
  rw[hgi]
  have h3:(6000:Int)*((beds.take k).length:Int)≤6000*1000:=Int.mul_le_mul_of_nonneg_left (by omega) (by omega)
  split<;>omega
 refine zas (rs:=[i64 (canA beds i d)]) [.tmp 6] Tryz.func184 rfl (by kernel_rfl) Tryz.ntmps184 rfl (by simp) rfl fun C vs=>?_
 apply zq
 refine zb fun K hK=>?_;simp only[go_sem];apply hK;apply zw (zk [0,1,2]);simp only[go_sem]
 repeat apply zq
 refine zb fun K hK=>?_;simp only[go_sem,List.length_map]
 intro _
 apply hK;apply zw (zk [0,1,2,9,10,11]);simp only[go_sem];apply zd
 refine zup (n:=33) beds.length (fun k vs=>[(0,.r (bedsR beds)),(1,.r (i64 (i:Int))),(2,.r (i64 (denA beds i d k))),(9,.r (bedsR beds)),(10,.r (i64 (beds.length:Int))),(11,.r (i64 (k:Int)))])
  (fun k=>[]) (fun _=>True) 0 (zfo [] ?_ ?_) (Nat.zero_le _) trivial ?_
 ·try simp only[go_sem]
  try simp [denA,loS]
 ·try simp only[go_sem]
 ·intro k vs hk _
  by_cases hkn:k<beds.length
  ·obtain⟨c,hcb⟩:=zol hkn
   have hcs:=hs c (zmo hcb)
   have hb0:=hbnd k (by omega)
   have hb1:=hbnd (k+1) (by omega)
   have hlo:loS (beds.take (k+1))=loS (beds.take k)+c.lo:=by rw[zto hcb,loS_snoc]
   apply zq
   refine zb fun K hK=>?_;simp only[go_sem,hkn];apply hK;apply zw (zk [0,1,2,9,10,11,12]);simp only[go_sem]
   apply zq
   apply zc rfl<;>intro hc<;>(try simp only[go_sem] at hc)
   apply zx
   try simp only[go_sem]
   apply zq
   apply zd
   apply zq
   refine zb fun K hK=>?_;simp only[go_sem,hcb,hkn,bedR,List.length_map];apply hK;refine zw (zfP 8 8 [i64 c.b,i64 c.lo,i64 c.hi] (by omega) rfl rfl) ?_;apply zw (zk [0,1,2,7,8,9,10,11]);simp only[go_sem]
   by_cases hki:k=i
   ·subst hki
    have hcbi:c=bi:=by rw[hcb] at hbi;injection hbi
    have hnx:denA beds k d (k+1)=denA beds k d k:=by
     unfold denA
     rw[hlo,hgi,if_pos (by omega),if_neg (by omega),hcbi];omega
    rw[hnx]
    apply zq
    refine zb fun K hK=>?_;simp only[go_sem,bne_self_eq_false];apply hK;apply zw (zk [0,1,2,9,10,11,18]);simp only[go_sem]
    apply zc rfl<;>intro hc<;>(try simp only[go_sem] at hc)
    apply zx
    try simp only[go_sem]
    refine zb fun K hK=>?_;simp only[go_sem];(try simp (disch:=omega) only[zI]);apply hK
    try simp only[go_sem]
    refine⟨by omega,zfo [] ?_ ?_⟩
    ·try simp only[go_sem]
    ·try simp only[go_sem]
   ·have hne:((k:Int) != (i:Int))=true:=by rw[bne_iff_ne];omega
    have hne':(k != i)=true:=by simpa using hki
    have hnx:denA beds i d (k+1)=denA beds i d k-c.lo:=by
     unfold denA
     rw[hlo]
     by_cases h:i<k
     ·rw[if_pos (by omega),if_pos h];omega
     ·rw[if_neg (by omega),if_neg h];omega
    rw[hnx] at hb1 ⊢
    generalize denA beds i d k=Z at *
    have wz:IntKind.i64.wrap (Z-c.lo)=Z-c.lo:=by rw[zI]<;>omega
    apply zq
    refine zb fun K hK=>?_;simp only[go_sem,hne,hne'];apply hK;apply zw (zk [0,1,2,8,9,10,11,18]);simp only[go_sem]
    apply zc rfl<;>intro hc<;>(try simp only[go_sem] at hc)
    refine zb fun K hK=>?_;simp only[go_sem,wz];apply hK;apply zw (zk [0,1,2,9,10,11]);simp only[go_sem];refine zb fun K hK=>?_;simp only[go_sem];(try simp (disch:=omega) only[zI]);apply hK
    try simp only[go_sem]
    refine⟨by omega,zfo [] ?_ ?_⟩
    ·try simp only[go_sem]
    ·try simp only[go_sem]
  ·have hke:k=beds.length:=by omega
   subst hke
   have hfin:denA beds i d beds.length=d-(loS beds-bi.lo):=by unfold denA;rw[List.take_length,if_pos hi,hgi]
   rw[hfin]
   have hcan:canA beds i d=min (d-(loS beds-bi.lo)) bi.hi:=by unfold canA;rw[hgi]
   rw[hcan]
   apply zq
   refine zb fun K hK=>?_;simp only[go_sem,Nat.lt_irrefl];apply hK;apply zw (zk [0,1,2,12]);simp only[go_sem]
   apply zq
   apply zc rfl<;>intro hc<;>(try simp only[go_sem] at hc)
   apply zf;simp only[go_sem]
   apply zq
   refine zb fun K hK=>?_;simp only[go_sem,hbi,hi,bedR,List.length_map];apply hK;apply zw (zk [6]);simp only[go_sem];apply ze;simp only[go_sem]
def cmpS (s:Bool) (vals:List Int) (x y:Nat):Int:=if s then cmpI (vals.getD x 0) (vals.getD y 0) else cmpI (vals.getD y 0) (vals.getD x 0)
theorem cmpS_ok (s:Bool) (vals:List Int) (x y:Nat) (hx:x<vals.length) (hy:y<vals.length):ACalls Tryz.prog 186 [i64 (x:Int),i64 (y:Int),.rp [.bo s],.rp [ints vals]] (i64 (cmpS s vals x y)):=by
 obtain⟨a,ha⟩:=zol hx
 obtain⟨b,hb⟩:=zol hy
 have ga:vals.getD x 0=a:=by rw[List.getD_eq_getElem?_getD,ha];rfl
 have gb:vals.getD y 0=b:=by rw[List.getD_eq_getElem?_getD,hb];rfl
 have h1:=compare_ok a b
 have h2:=compare_ok b a
 unfold cmpS
 rw[ga,gb]
 refine zas (rs:=[i64 (if s=true then cmpI a b else cmpI b a)]) [.tmp 6] Tryz.func186 rfl (by kernel_rfl) Tryz.ntmps186 rfl (by simp) rfl fun C vs=>?_
 apply zq
 refine zb fun K hK=>?_;simp only[go_sem];apply hK;apply zw (zk [0,1,2,3]);simp only[go_sem]
 repeat apply zq
 refine zb fun K hK=>?_;simp only[go_sem];apply hK;apply zw (zk [0,1,3,8]);simp only[go_sem]
 cases s
 ·skip
  apply zc rfl<;>intro hc<;>(try simp only[go_sem] at hc)
  apply zx
  try simp only[go_sem]
  apply zq
  refine zg follows (by decide +kernel) (by kernel_rfl) fun K hK=>?_;simp only[go_sem,ha,hb,hx,hy,List.length_map]
  refine zh (h2) rfl (by simp only[go_sem,i64,ints,ha,hb,hx,hy,List.length_map]) (by simp only[go_sem,i64,ints,ha,hb,hx,hy,List.length_map]) ?_
  (try simp only[go_sem,ha,hb,hx,hy,List.length_map]);apply hK;apply zw (zk [6]);simp only[go_sem];apply ze;simp only[go_sem]
  try rfl
 ·have hss:=(rfl:true=true)
  apply zc rfl<;>intro hc<;>(try simp only[go_sem] at hc)
  rotate_left
  ·exact absurd rfl hc
  apply zq
  refine zg follows (by decide +kernel) (by kernel_rfl) fun K hK=>?_;simp only[go_sem,ha,hb,hx,hy,List.length_map]
  refine zh (h1) rfl (by simp only[go_sem,i64,ints,ha,hb,hx,hy,List.length_map]) (by simp only[go_sem,i64,ints,ha,hb,hx,hy,List.length_map]) ?_
  (try simp only[go_sem,ha,hb,hx,hy,List.length_map]);apply hK;apply zw (zk [6]);simp only[go_sem];apply ze;simp only[go_sem]
  try rfl
set_option maxHeartbeats 2000000
def lensL:List (Nat × Nat):=[(1,1),(2,2),(3,2),(4,3),(5,3),(6,3),(7,3),(8,4),(9,4),(10,4)]
theorem len64_ok (n c:Nat) (h:(n,c)∈lensL):ACalls Tryz.prog 210 [.it .u64 (n:Int)] (i64 (c:Int)):=by
 simp only[lensL,List.mem_cons,List.not_mem_nil,or_false,Prod.mk.injEq] at h
 rcases h with⟨rfl,rfl⟩|⟨rfl,rfl⟩|⟨rfl,rfl⟩|⟨rfl,rfl⟩|⟨rfl,rfl⟩|⟨rfl,rfl⟩|⟨rfl,rfl⟩|⟨rfl,rfl⟩|⟨rfl,rfl⟩|⟨rfl,rfl⟩ <;>
 ·refine zas (rs:=[i64 _]) [.tmp 2] Tryz.func210 rfl (by kernel_rfl) Tryz.ntmps210 rfl (by simp) rfl fun C vs=>?_
  repeat apply zq
  refine zb fun K hK=>?_;simp only[go_sem];apply hK;clear hK K;apply zw (zk [0,2]);simp only[go_sem]
  repeat apply zq
  refine zb fun K hK=>?_;simp only[go_sem];apply hK;clear hK K;apply zw (zk [0,2,4]);simp only[go_sem]
  apply zc rfl<;>intro hc<;>(try simp only[go_sem] at hc)
  apply zx
  try simp only[go_sem]
  repeat apply zq
  refine zb fun K hK=>?_;simp only[go_sem];apply hK;clear hK K;apply zw (zk [0,2,8]);simp only[go_sem]
  apply zc rfl<;>intro hc<;>(try simp only[go_sem] at hc)
  apply zx
  try simp only[go_sem]
  repeat apply zq
  refine zb fun K hK=>?_;simp only[go_sem];apply hK;clear hK K;apply zw (zk [0,2,14]);simp only[go_sem]
  apply zc rfl<;>intro hc<;>(try simp only[go_sem] at hc)
  apply zx
  try simp only[go_sem]
  repeat apply zq
  refine awp_long ?_
  refine sops_take 3 (by kernel_rfl) fun K hK=>?_
  simp only[go_sem,List.take_succ_cons,List.take_zero,List.drop_succ_cons,List.drop_zero,List.append_eq,List.cons_append,List.nil_append]
  refine hK _ rfl ?_
  clear hK K
  refine sops_gop rfl (by intro t h;injection h with h;subst h;show 22<25;decide) (by intro c h;cases h) (gop_strIndex rfl (s:=_) rfl rfl (by kernel_rfl) (by decide) rfl ?_)
  try simp only[go_sem]
  refine sops_end (by kernel_rfl) fun K hK=>?_
  simp only[go_sem,List.drop_succ_cons,List.drop_zero,List.append_eq,List.cons_append,List.nil_append];apply hK;clear hK K;apply zw (zk [2]);simp only[go_sem];apply ze;simp only[go_sem]
  kernel_rfl
theorem len_ok (n c:Nat) (h:(n,c)∈lensL):ACalls Tryz.prog 197 [.it .u64 (n:Int)] (i64 (c:Int)):=by
 refine zas (rs:=[i64 (c:Int)]) [.tmp 2] Tryz.func197 rfl (by kernel_rfl) Tryz.ntmps197 rfl (by simp) rfl fun C vs=>?_
 apply zq
 refine zb fun K hK=>?_;simp only[go_sem];apply hK;clear hK K
 apply zq
 apply zc rfl<;>intro hc<;>(try simp only[go_sem] at hc)
 apply zx
 try simp only[go_sem]
 apply zq
 refine zb fun K hK=>?_;simp only[go_sem]
 refine zh (len64_ok n c h) rfl (by simp only[go_sem,i64,ints]) (by simp only[go_sem,i64,ints]) ?_
 (try simp only[go_sem]);apply hK;clear hK K;apply zw (zk [2]);simp only[go_sem];apply ze;simp only[go_sem]
theorem pdqV_ok (lt:Nat→Nat→Bool) (c:Nat→Nat→Int) (s:Bool) (vals:List Int) (l:List Nat) (hl:l.length≤12) (hlt:∀ x y,lt x y=decide (c x y<0))
 (hcc:∀ x∈l,∀ y∈l,ACalls Tryz.prog 186 [i64 (x:Int),i64 (y:Int),.rp [.bo s],.rp [ints vals]] (i64 (c x y))) (b:Int) :
 MCalls Tryz.prog 196 (rowsV l vals) (rowsV (sortN lt l) vals) [.os 1000 0 1 0 l.length,.r (i64 0),.r (i64 l.length),.r (i64 b),fnS s] (.tu []):=by
 refine mcalls_st (n:=148) (rs:=[]) _ _ [] Tryz.func196 rfl (by kernel_rfl) Tryz.ntmps196 rfl (by simp) rfl rfl fun C=>?_
 have hw:IntKind.i64.wrap ((l.length:Int)-0)=l.length:=by rw[zI]<;>omega
 have hle:decide ((l.length:Int)≤12)=true:=by simp;omega
 have hle':decide (l.length≤12)=true:=by simp;omega
 apply zq
 refine zb fun K hK=>?_;simp only[go_sem];apply hK;clear hK K
 apply zq
 refine zb fun K hK=>?_;simp only[go_sem];apply hK;clear hK K;apply zw (zk [0,1,2,3,4]);simp only[go_sem];apply zd
 refine awp_upto0 (n:=148) 0 (fun i vs=>[(0,.os 1000 0 1 0 l.length),(1,.r (i64 0)),(2,.r (i64 l.length)),(3,.r (i64 b)),(4,fnS s)])
  (fun i=>rowsV l vals) (fun i=>True) 0 (fit0_of [] lent_zero ?_ ?_) (Nat.zero_le _) trivial ?_
 ·try simp only[go_sem]
 ·try simp only[go_sem]
 intro i vs hv _ _
 have hv0:=hv 1000 (by omega)
 have hv1:=hv 1001 (by omega)
 have hv2:=hv 1002 (by omega)
 apply zd
 apply zq
 refine zb fun K hK=>?_;simp only[go_sem,hw];(try simp (disch:=omega) only[zI]);apply hK;clear hK K;apply zw (zk [0,1,2,3,4,12]);simp only[go_sem]
 repeat apply zq
 refine zb fun K hK=>?_;simp only[go_sem,hle,hle'];apply hK;clear hK K;apply zw (zk [0,1,2,3,4,25]);simp only[go_sem]
 apply zc rfl<;>intro hc<;>(try simp only[go_sem] at hc)
 apply zq
 refine zb fun K hK=>?_;simp only[go_sem]
 refine xcall_mut (insertionV_ok lt c s vals l (by omega) hlt hcc) [(1000,1000),(1001,1001),(1002,1002)] rfl (by simp only[go_sem,i64,ints,hv0,hv1,hv2]) (by simp only[go_sem,i64,ints,hv0,hv1,hv2]) (by rfl) (by rfl) ?_
 (try simp only[go_sem,hv0,hv1,hv2]);apply hK;clear hK K;apply ze
 try simp only[go_sem]
theorem sortV_ok (lt:Nat→Nat→Bool) (c:Nat→Nat→Int) (s:Bool) (vals:List Int) (l:List Nat) (hl:1≤l.length∧l.length≤10) (hlt:∀ x y,lt x y=decide (c x y<0))
 (hcc:∀ x∈l,∀ y∈l,ACalls Tryz.prog 186 [i64 (x:Int),i64 (y:Int),.rp [.bo s],.rp [ints vals]] (i64 (c x y))) :
 MCalls Tryz.prog 185 (rowsV l vals) (rowsV (sortN lt l) vals) [.os 1000 0 1 0 l.length,fnS s] (.tu []):=by
 obtain⟨k,hk⟩:∃ k,(l.length,k)∈lensL:=by
  have:l.length=1∨l.length=2∨l.length=3∨l.length=4∨l.length=5∨l.length=6∨l.length=7∨l.length=8∨l.length=9∨l.length=10:=by omega
  rcases this with h|h|h|h|h|h|h|h|h|h<;>rw[h]
  ·exact⟨1,by decide⟩
  ·exact⟨2,by decide⟩
  ·exact⟨2,by decide⟩
  ·exact⟨3,by decide⟩
  ·exact⟨3,by decide⟩
  ·exact⟨3,by decide⟩
  ·exact⟨3,by decide⟩
  ·exact⟨4,by decide⟩
  ·exact⟨4,by decide⟩
  ·exact⟨4,by decide⟩
 have hlen:=len_ok _ k hk
 have hw:IntKind.u64.wrap (l.length:Int)=l.length:=by
  have:l.length=1∨l.length=2∨l.length=3∨l.length=4∨l.length=5∨l.length=6∨l.length=7∨l.length=8∨l.length=9∨l.length=10:=by omega
  rcases this with h|h|h|h|h|h|h|h|h|h<;>rw[h]<;>rfl
 refine mcalls_st (n:=14) (rs:=[]) _ _ [] Tryz.func185 rfl (by kernel_rfl) Tryz.ntmps185 rfl (by simp) rfl rfl fun C=>?_
 apply zq
 refine zb fun K hK=>?_;simp only[go_sem]
 intro _
 apply hK;clear hK K;apply zw (zk [0,1,4]);simp only[go_sem];refine zb fun K hK=>?_;simp only[go_sem,hw]
 refine zh (hlen) rfl (by simp only[go_sem,i64,ints,hw]) (by simp only[go_sem,i64,ints,hw]) ?_
 (try simp only[go_sem,hw])
 refine xcall_mut (pdqV_ok lt c s vals l (by omega) hlt hcc k) [(1000,1000),(1001,1001),(1002,1002)] rfl (by simp only[go_sem,i64,ints]) (by simp only[go_sem,i64,ints]) (by rfl) (by rfl) ?_
 (try simp only[go_sem]);apply hK;clear hK K
 try simp only[go_sem]
end Go.Proofs.YtgfbenanljjgaaaGreat.Du.Th.Ai

namespace Go.Proofs.YtgfbenanljjgaaaGreat.Du.Th
open Go Go.Oc
set_option maxRecDepth 8000
def byteL (l:List Int) (i:Nat):Int:=if l=[] then 0 else l.getD (i % l.length) 0
def beds13:List Int:=[0,101,105,112,120,125,205,220,225,301,305,312,320]
def bedT (k:Nat):Int:=beds13.getD k 0
structure Lw where
 which:List Int
 low:List Int
 more:List Int
 rest:Int
structure WfLw (x:Lw):Prop where
 which:∀ n∈x.which,0≤n∧n≤65535
 low:∀ n∈x.low,0≤n∧n≤255
 more:∀ n∈x.more,0≤n∧n≤255
 rest:0≤x.rest∧x.rest≤255
theorem byteL_le {l:List Int}(h:∀ n∈l,0≤n∧n≤255) (i:Nat):0≤byteL l i∧byteL l i≤255:=by
 unfold byteL
 split
 ·omega
 ·rename_i hne
  have hlt:i % l.length<l.length:=Nat.mod_lt _ (List.length_pos_iff.2 hne)
  rw[List.getD_eq_getElem?_getD,List.getElem?_eq_getElem hlt]
  exact h _ (List.getElem_mem _)
def hasB (w:Int) (k:Nat):Bool:=bitAnd IntKind.u16 (shrI IntKind.u16 w (IntKind.u64.wrap (k:Int))) 1 == 1
def addM (x:Lw) (most w:Int) (k:Nat) (p:List Bd × Nat):List Bd × Nat :=
 if p.1.length<10∧(hasB w k=true∨(k=12∧p.1.length=0)) then
  (p.1++[⟨bedT k,byteL x.low p.2 % (most+1),byteL x.low p.2 % (most+1)+byteL x.more p.2 % (most+1)⟩],p.2+1) else p
def iterM (x:Lw) (most w:Int) (n:Nat):Nat→List Bd × Nat
 | 0=>([],n)
 | k+1=>addM x most w k (iterM x most w n k)
def nM (x:Lw) (most:Int):Nat→Nat
 | 0=>0
 | i+1=>(iterM x most (x.which.getD i 0) (nM x most i) 13).2
def bedsM (x:Lw) (most:Int) (i:Nat):List Bd:=(iterM x most (x.which.getD i 0) (nM x most i) 13).1
def atM (i:Nat):Int:=bedT (1+i % 12)
def cntM (x:Lw):Nat:=min 6 x.which.length
structure IterI (most:Int) (k:Nat) (l:List Bd):Prop where
 len:l.length≤10
 each:∀ c∈l,(∃ j,j<k∧c.b=bedT j)∧0≤c.lo∧c.lo≤most∧c.lo≤c.hi∧c.hi≤2*most
 up:l.Pairwise fun a b=>a.b<b.b
def rawM (x:Lw) (most:Int):List Am:=if cntM x=0 then [⟨320,[⟨320,x.rest,x.rest⟩]⟩] else (List.range (cntM x)).map fun i=>⟨atM i,bedsM x most i⟩
def sumsM (l:List Am):Int:=l.foldl (fun d a=>max d (loS a.beds)) 0
def denM (x:Lw) (most:Int):Int:=max 1 (sumsM (rawM x most)+x.rest % 20)
def capB (den:Int) (l:List Bd):List Bd:=l.map fun c=>⟨c.b,c.lo,min c.hi den⟩
def raiseB (den:Int) (l:List Bd) (k:Nat):List Bd :=
 if hiS l<den then l.set k ⟨(l.getD k ⟨0,0,0⟩).b,(l.getD k ⟨0,0,0⟩).lo,min den ((l.getD k ⟨0,0,0⟩).hi+den-hiS l)⟩ else l
def raiseN (den:Int) (l:List Bd):Nat→List Bd
 | 0=>l
 | k+1=>raiseB den (raiseN den l k) k
def restK (x:Lw) (l:List Bd):Nat:=x.rest.toNat % l.length
def fixM (x:Lw) (den:Int) (l:List Bd):List Bd:=raiseN den (raiseB den (capB den l) (restK x l)) l.length
def aimsM (x:Lw) (most:Int):List Am:=(rawM x most).map fun a=>⟨a.at_,fixM x (denM x most) a.beds⟩
set_option maxHeartbeats 2000000
def mkG (x:Lw) (most:Int) (j:Nat):RowC:=.arr 95 3 ((bedsM x most j).map bedR)
def araC (x:Lw) (most:Int) (vs:Nat→Nat):Nat→List AV
 | 0=>[]
 | n+1=>araC x most vs n++[.r (i64 (atM n)),.os (n+600) (vs (n+600)) 3 0 (bedsM x most n).length]
def mkX (i:Nat) (vs:Nat→Nat):AV:=if i=0 then .r .ns else .os 110 (vs 110) 2 0 i
def mkA (x:Lw) (most:Int) (i:Nat) (vs:Nat→Nat):List (Nat × RowC):=if i=0 then [] else [(110,.ara 93 2 (araC x most vs i))]
def mkR (x:Lw) (most:Int) (i:Nat) (vs:Nat→Nat):List (Nat × RowC):=(4,.box [.r (i64 0),.r .ns])::(5,.box [.r (i64 0),mkX i vs])::(mkA x most i vs++fam (mkG x most) i)
theorem upd_self {α:Type}(f:Nat→α) (k:Nat):upd f k (f k)=f:=by
 funext j;unfold upd;split
 ·rename_i e;rw[e]
 ·rfl
structure RawI (a:Am):Prop where
 at_:bedOk a.at_=true
 len:1≤a.beds.length∧a.beds.length≤10
 each:∀ c∈a.beds,(c.b=0∨bedOk c.b=true)∧0≤c.lo∧c.lo≤255∧c.lo≤c.hi∧c.hi≤510
 up:a.beds.Pairwise fun a b=>a.b<b.b
theorem loS_le {B:Int}:∀ {l:List Bd},(∀ c∈l,0≤c.lo∧c.lo≤B)→0≤loS l∧loS l≤B*l.length
 | [],_=>by simp [loS]
 | c::l, h=>by
   have ih:=loS_le (B:=B) (l:=l) fun x hx=>h x (by simp [hx])
   have h1:=h c (by simp)
   have e:loS (c::l)=c.lo+loS l:=by simp [loS]
   rw[e,List.length_cons,Int.natCast_add,Int.mul_add]
   omega
theorem hiS_le {B:Int}:∀ {l:List Bd},(∀ c∈l,0≤c.hi∧c.hi≤B)→0≤hiS l∧hiS l≤B*l.length
 | [],_=>by simp [hiS]
 | c::l, h=>by
   have ih:=hiS_le (B:=B) (l:=l) fun x hx=>h x (by simp [hx])
   have h1:=h c (by simp)
   have e:hiS (c::l)=c.hi+hiS l:=by simp [hiS]
   rw[e,List.length_cons,Int.natCast_add,Int.mul_add]
   omega
theorem RawI.lo {a:Am}(h:RawI a):0≤loS a.beds∧loS a.beds≤2550:=by
 have h1:=loS_le (B:=255) (l:=a.beds) fun c hc=>by have:=h.each c hc;omega
 have h2:=h.len
 omega
structure CapI (D:Int) (l X:List Bd):Prop where
 len:X.length=l.length
 each:∀ c∈X,(0≤c.lo∧c.lo≤255)∧0≤c.hi∧c.hi≤3000
theorem CapI.cap {D:Int}{a:Am}(h:RawI a) (hD:1≤D∧D≤3000):CapI D a.beds (capB D a.beds):=by
 refine⟨by simp [capB],fun c hc=>?_⟩
 obtain⟨d,hd,rfl⟩:=List.mem_map.1 hc
 have:=h.each d hd
 simp only;omega
theorem CapI.raise {D:Int}{l X:List Bd}(h:CapI D l X) (hD:1≤D∧D≤3000) (k:Nat) (hk:k<l.length):CapI D l (raiseB D X k):=by
 unfold raiseB
 split
 ·rename_i hh
  have hm:X.getD k ⟨0,0,0⟩∈X:=by
   rw[List.getD_eq_getElem?_getD,List.getElem?_eq_getElem (by rw[h.len];exact hk)];exact List.getElem_mem _
  have hc:=h.each _ hm
  refine⟨by simp [h.len],fun c hc'=>?_⟩
  rcases List.mem_or_eq_of_mem_set hc' with hx|hx
  ·exact h.each c hx
  ·subst hx
   simp only;omega
 ·exact h
theorem CapI.raiseN {D:Int}{l X:List Bd}(h:CapI D l X) (hD:1≤D∧D≤3000):∀ k,k≤l.length→CapI D l (Go.Proofs.YtgfbenanljjgaaaGreat.Du.Th.raiseN D X k)
 | 0,_=>h
 | k+1,hk=>(CapI.raiseN h hD k (by omega)).raise hD k (by omega)
theorem CapI.hi {D:Int}{l X:List Bd}(h:CapI D l X) (hl:l.length≤10):0≤hiS X∧hiS X≤30000:=by
 have h1:=hiS_le (B:=3000) (l:=X) fun c hc=>(h.each c hc).2
 have h2:=h.len
 omega
set_option maxHeartbeats 1000000
abbrev bAt (l:List Bd) (i:Nat):Bd:=l.getD i ⟨0,0,0⟩
theorem bAt_mem {l:List Bd}{i:Nat}(h:i<l.length):bAt l i∈l:=by
 unfold bAt
 rw[List.getD_eq_getElem?_getD,List.getElem?_eq_getElem h];exact List.getElem_mem h
structure TI (l:List Bd) (den:Int) (x:List Int × Int):Prop where
 len:x.1.length=l.length
 each:∀ i,i<l.length→(bAt l i).lo≤x.1.getD i 0∧x.1.getD i 0≤(bAt l i).hi
 sum:x.1.sum+x.2=den
 left:0≤x.2
theorem sum_setT:∀ {M:List Int}{a:Nat}{y:Int},a<M.length→(M.set a y).sum=M.sum-M.getD a 0+y
 | x::M,0,y,_=>by simp;omega
 | x::M, a+1, y, h=>by
   have:=sum_setT (M:=M) (a:=a) (y:=y) (by simpa using h)
   simp only[List.set_cons_succ,List.sum_cons,this,List.getD_cons_succ]
   omega
theorem getD_set (M:List Int) (a i:Nat) (y:Int) (h:a<M.length):(M.set a y).getD i 0=if i=a then y else M.getD i 0:=by
 rw[List.getD_eq_getElem?_getD,List.getElem?_set,List.getD_eq_getElem?_getD]
 by_cases e:a=i
 ·subst e;simp [h]
 ·rw[if_neg e,if_neg (fun h=>e h.symm)]
def giveU (i:Nat) (m:Int) (x:List Int × Int):List Int × Int:=(x.1.set i (x.1.getD i 0+m),x.2-m)
theorem TI.give {l:List Bd}{den:Int}{x:List Int × Int}(h:TI l den x) {i:Nat}(hi:i<l.length) {m:Int}(hm:0≤m∧m≤min x.2 ((bAt l i).hi-x.1.getD i 0)):TI l den (giveU i m x):=by
 have hl:=h.len
 refine⟨by simp [giveU,hl],fun j hj=>?_,?_,?_⟩
 ·simp only[giveU];rw[getD_set _ _ _ _ (by omega)]
  have:=h.each j hj
  split
  ·rename_i e;subst e;omega
  ·exact this
 ·simp only[giveU];rw[sum_setT (by omega)]
  have:=h.sum
  omega
 ·simp only[giveU];omega
def takeU (l:List Bd) (j:Nat) (x:List Int × Int):Int:=min x.2 ((bAt l j).hi-x.1.getD j 0)
def fillU (l:List Bd) (x:List Int × Int):Nat→List Int × Int
 | 0=>x
 | j+1=>giveU j (takeU l j (fillU l x j)) (fillU l x j)
def idxU (l:List Bd) (bs:List Int) (k:Nat):Nat:=((byteL bs k).toNat+k) % l.length
def moreU (l:List Bd) (bs:List Int) (k:Nat) (x:List Int × Int):Int :=
 if k<30 then min (takeU l (idxU l bs k) x) (1+byteL bs (k+1) % 40) else takeU l (idxU l bs k) x
def stepU (l:List Bd) (bs:List Int) (k:Nat) (x:List Int × Int):List Int × Int :=
 if k<30 then giveU (idxU l bs k) (moreU l bs k x) x else fillU l (giveU (idxU l bs k) (moreU l bs k x) x) l.length
def itU (l:List Bd) (bs:List Int) (den:Int):Nat→List Int × Int
 | 0=>(l.map (·.lo),den-loS l)
 | k+1=>stepU l bs k (itU l bs den k)
theorem TI.take {l:List Bd}{den:Int}{x:List Int × Int}(h:TI l den x) {j:Nat}(hj:j<l.length):0≤takeU l j x:=by
 have:=h.each j hj
 have:=h.left
 unfold takeU;omega
theorem TI.fill {l:List Bd}{den:Int}{x:List Int × Int}(h:TI l den x):∀ j,j≤l.length→TI l den (fillU l x j)
 | 0,_=>h
 | j+1,hj=>(TI.fill h j (by omega)).give (by omega) ⟨(TI.fill h j (by omega)).take (by omega),Int.le_refl _⟩
theorem idxU_lt {l:List Bd}{bs:List Int}{k:Nat}(h:1≤l.length):idxU l bs k<l.length:=Nat.mod_lt _ (by omega)
theorem moreU_le {l:List Bd}{bs:List Int}(hb:∀ n∈bs,0≤n∧n≤255) (hl:1≤l.length) {den:Int}{x:List Int × Int}(h:TI l den x) (k:Nat):0≤moreU l bs k x∧moreU l bs k x≤takeU l (idxU l bs k) x:=by
 have h1:=h.take (idxU_lt (bs:=bs) (k:=k) hl)
 have h2:=byteL_le hb (k+1)
 unfold moreU
 split<;>omega
theorem TI.step {l:List Bd}{bs:List Int}(hb:∀ n∈bs,0≤n∧n≤255) (hl:1≤l.length) {den:Int}{x:List Int × Int}(h:TI l den x) (k:Nat):TI l den (stepU l bs k x):=by
 have h1:=h.give (idxU_lt (bs:=bs) (k:=k) hl) (moreU_le hb hl h k)
 unfold stepU
 split
 ·exact h1
 ·exact h1.fill _ (Nat.le_refl _)
theorem TI.it {l:List Bd}{bs:List Int}(hb:∀ n∈bs,0≤n∧n≤255) (hl:1≤l.length) {den:Int}(h:loS l≤den) (h1:∀ c∈l,c.lo≤c.hi):∀ k,TI l den (itU l bs den k)
 | 0=>by
   refine⟨by simp [itU],fun i hi=>?_,?_,?_⟩
   ·have:=h1 _ (bAt_mem hi)
    have e:(itU l bs den 0).1.getD i 0=(bAt l i).lo:=by simp [itU,bAt,List.getD,List.getElem?_eq_getElem hi]
    rw[e];omega
   ·simp only[itU,loS];omega
   ·simp only[itU];omega
 | k+1=>(TI.it hb hl h h1 k).step hb hl k
theorem sum_getD (M:List Int):((List.range M.length).map fun i=>M.getD i 0).sum=M.sum:=by
 congr 1
 refine List.ext_getElem (by simp) fun i h1 h2=>?_
 simp [List.getD,List.getElem?_eq_getElem h2]
theorem range_bAt (l:List Bd):(List.range l.length).map (bAt l)=l:=by
 refine List.ext_getElem (by simp) fun i h1 h2=>?_
 simp [bAt,List.getD,List.getElem?_eq_getElem h2]
def moreS (l:List Bd) (o:List Int) (m:Int) (i:Nat):Int:=min m ((l[i]?.map (·.hi)).getD 0-(o[i]?).getD 0)
def fillS (l:List Bd):List Nat→List Int × Int→List Int × Int
 | [],x=>x
 | i::is,x=>fillS l is (x.1.set i ((x.1[i]?).getD 0+moreS l x.1 x.2 i),x.2-moreS l x.1 x.2 i)
def startF (d:Int) (l:List Bd):List Int × Int:=(l.map (·.lo),d-loS l)
def keyLt (cm:Int→Int→Int) (vals:List Int) (i k:Nat):Bool:=decide (cm ((vals[i]?).getD 0) ((vals[k]?).getD 0)<0)
def filledV (cm:Int→Int→Int) (d:Int) (l:List Bd) (vals:List Int):List Int:=(fillS l (sortN (keyLt cm vals) (List.range l.length)) (startF d l)).1
theorem mem_sortN {lt:Nat→Nat→Bool}{l:List Nat}{z:Nat}:z∈sortN lt l↔z∈l:=by
 unfold sortN
 rw[List.mem_reverse,mem_sortB]
 simp
theorem sortN_len (lt:Nat→Nat→Bool) (l:List Nat):(sortN lt l).length=l.length:=by
 unfold sortN
 rw[List.length_reverse,sortB_len]
 simp
theorem rep_at {g:List (List RV)}{z:List RV}{n i:Nat}(hg:g.length=i) (hi:i<n):(g++List.replicate (n-i) z).getD i []=z:=by
 rw[List.getD_eq_getElem?_getD,List.getElem?_append_right (by omega),hg,Nat.sub_self,List.getElem?_replicate,if_pos (by omega)]
 rfl
theorem rep_len {g:List (List RV)}{z:List RV}{n i:Nat}(hg:g.length=i) (hi:i<n):(g++List.replicate (n-i) z).length=n:=by simp;omega
theorem rep_set {g:List (List RV)}{z v:List RV}{n i:Nat}(hg:g.length=i) (hi:i<n):(g++List.replicate (n-i) z).set i v=(g++[v])++List.replicate (n-(i+1)) z:=by
 rw[List.set_append_right _ _ (by omega),hg,Nat.sub_self]
 have:n-i=(n-(i+1))+1:=by omega
 rw[this,List.replicate_succ,List.set_cons_zero]
 simp
def dotV:List Int→List Int→Int
 | x::xs,y::ys=>x*y+dotV xs ys
 | _,_=>0
theorem dotV_snoc:∀ {xs ys:List Int}{x y:Int},xs.length=ys.length→dotV (xs++[x]) (ys++[y])=dotV xs ys+x*y
 | [],[],x,y,_=>by simp [dotV]
 | _::xs,_::ys,x,y,h=>by simp only[List.cons_append,dotV];rw[dotV_snoc (by simpa using h)];omega
 | [],_::_,_,_,h=>by simp at h
 | _::_,[],_,_,h=>by simp at h
def meanLo (d:Int) (l:List Bd) (vals:List Int):Int:=dotV (filledV cmpI d l vals) vals
def meanHi (d:Int) (l:List Bd) (vals:List Int):Int:=dotV (filledV (fun x y=>cmpI y x) d l vals) vals
end Go.Proofs.YtgfbenanljjgaaaGreat.Du.Th
