/- Part 7 of the texts of this claim. -/
import Derived.Test.YtonpmcdkncbjoaaGreatVA6
import Derived.Test.YtonpmcdkncbjoaaGreatVA4
import Derived.Test.YtonpmcdkncbjoaaGreatVA5
set_option linter.unusedSimpArgs false
set_option linter.unusedVariables false
namespace Go.Oc
open Go Go.RowKit
instance {c:Prop}[h:Decidable c] {v:AV}:Decidable (Res.when c v).pre:=h
instance {v:AV}:Decidable (Res.val v).pre:=.isTrue trivial
instance:Decidable Res.bad.pre:=.isFalse id
instance {c a:Prop}[h:Decidable c] {y:Yi}:Decidable (Res.mk c a y).pre:=h
def nilB {α:Type}(l:List α):Decidable (l=[]):=match l with
 | []=>.isTrue rfl
 | _::_=>.isFalse (by simp)
instance {α:Type}{l:List α}:Decidable (l=[]):=nilB l
def RowC.isDead:RowC→Bool
 | .dead=>true
 | _=>false
theorem isDead_iff {c:RowC}:c = .dead↔c.isDead=true:=by cases c<;>simp [RowC.isDead]
instance {c:RowC}:Decidable (c = .dead):=decidable_of_iff _ isDead_iff.symm
def decNews {s:AS}{y:AV}{c:Prop}{sz:Nat}{es:List (List RV)}(h:news? s y=some (c,sz,es)):Decidable c:=by
 unfold news? at h
 split at h
 ·exact .isTrue (by injection h with h;injection h with h1 _;rw[← h1];trivial)
 ·exact .isTrue (by injection h with h;injection h with h1 _;rw[← h1];trivial)
 ·split at h
  ·rename_i k n sz off m _ n' t sz' es' _
   exact decidable_of_iff (n=n'∧sz=sz'∧off+m≤es'.length) (by injection h with h;injection h with h1 _;rw[← h1])
  ·cases h
 ·cases h
def decLen {s:AS}{y:AV}{c:Prop}{m:Nat}(h:lenA s y=some (c,m)):Decidable c:=by
 unfold lenA at h
 split at h
 ·exact .isTrue (by injection h with h;injection h with h1 _;rw[← h1];trivial)
 ·exact .isTrue (by injection h with h;injection h with h1 _;rw[← h1];trivial)
 ·rename_i k n sz off m
  exact decidable_of_iff (n=s.ver k) (by injection h with h;injection h with h1 _;rw[← h1])
 ·cases h
section
variable {P:Program}{s:AS}
instance {c a b:AV}:Decidable (sPick c a b).pre:=by delta sPick;split<;>infer_instance
instance {op:BinOp}{t:TypeId}{x y:AV}:Decidable (sEq P op t x y).pre:=by delta sEq;split<;>(try split)<;>(try split)<;>infer_instance
instance {op:BinOp}{t:TypeId}{x y:AV}:Decidable (sBin P op t x y).pre:=by delta sBin;split<;>(try split)<;>infer_instance
instance {op:UnOp}{x:AV}:Decidable (sUn op x).pre:=by delta sUn;split<;>infer_instance
instance {a b:TypeId}{x:AV}:Decidable (sConv P a b x).pre:=by delta sConv;split<;>infer_instance
instance {t:TypeId}{a:AV}:Decidable (sLoad P s t a).pre:=by delta sLoad;split<;>(try split)<;>infer_instance
instance {t:TypeId}{a x:AV}:Decidable (sStore P s t a x).pre:=by delta sStore;split<;>(try split)<;>infer_instance
instance {d:Nat}{x:AV}:Decidable (sBox s d x).pre:=by delta sBox;split<;>infer_instance
instance {d:Nat}{t:TypeId}:Decidable (sAlloc P s d t).pre:=by delta sAlloc;split<;>infer_instance
instance {t:TypeId}{a:AV}{f:Nat}:Decidable (sField P s t a f).pre:=by delta sField;split<;>(try split)<;>(try split)<;>infer_instance
instance {cs:AV}{o sz:Nat}{agg:Bool}{c:Prop} [Decidable c]:Decidable (sPart cs o sz agg c).pre:=by delta sPart;split<;>infer_instance
instance {t:TypeId}{x:AV}{f:Nat}:Decidable (sFieldV P t x f).pre:=by delta sFieldV;split<;>(try split)<;>infer_instance
instance {t:TypeId}{x i:AV}:Decidable (sIndexV P t x i).pre:=by delta sIndexV;split<;>infer_instance
instance {t:TypeId}{x i:AV}:Decidable (sIndex P s t x i).pre:=by delta sIndex;split<;>(try split)<;>infer_instance
instance {x mx:AV}{lo hi:Option AV}:Decidable (sSlice3 s x lo hi mx).pre:=by
 delta sSlice3
 split
 ·have:=decLen ‹lenA _ _=some (_,_)›
  infer_instance
 ·infer_instance
instance {n esz:Nat}{x:AV}{lo hi mx:Option AV}:Decidable (sSliceA n esz x lo hi mx).pre:=by delta sSliceA;split<;>infer_instance
instance {t:TypeId}{x:AV}{lo hi mx:Option AV}:Decidable (sSlice P s t x lo hi mx).pre:=by delta sSlice;split<;>(try split)<;>(try split)<;>infer_instance
instance {t:TypeId}{ps:List (Nat × AV)}:Decidable (sBuild P s t ps).pre:=by delta sBuild;split<;>(try split)<;>infer_instance
instance {t:TypeId}{n:Nat}{ps:List (Nat × AV)}:Decidable (sBuildSlice P s t n ps).pre:=by delta sBuildSlice;split<;>(try split)<;>(try split)<;>infer_instance
instance {d:Nat}{t:TypeId}{l c:AV}:Decidable (sMakeSlice P s d t l c).pre:=by delta sMakeSlice;split<;>infer_instance
instance {d:Nat}{t t':TypeId}{x y:AV}:Decidable (sAppend P s d t t' x y).pre:=by
 delta sAppend
 split
 ·rename_i h
  have:=decNews h
  infer_instance
 ·rename_i h
  have:=decNews h
  infer_instance
 ·rename_i h
  have:=decNews h
  split
  ·infer_instance
  ·split<;>infer_instance
  ·infer_instance
 ·infer_instance
instance {d:Nat}{t t':TypeId}{x y:AV}:Decidable (sAppendZ P s d t t' x y).pre:=by delta sAppendZ;split<;>infer_instance
instance {t:TypeId}{x:AV}:Decidable (sCap P t x).pre:=by delta sCap;split<;>infer_instance
instance {t:TypeId}{x:AV}:Decidable (sClear P s t x).pre:=by delta sClear;split<;>(try split)<;>infer_instance
instance {t:TypeId}{x:AV}:Decidable (sLen P s t x).pre:=by delta sLen;split<;>(try split)<;>infer_instance
instance {r:Option RV}:Decidable (sMinMax r).pre:=by delta sMinMax;split<;>infer_instance
instance {x:AV}{i:Nat}:Decidable (sExtract x i).pre:=by delta sExtract;split<;>(try split)<;>infer_instance
instance {x:AV}:Decidable (sNil s x).pre:=by delta sNil;split<;>infer_instance
instance {d:Nat}{t:TypeId}:Decidable (sMakeMap P s d t).pre:=by delta sMakeMap;split<;>infer_instance
instance {t:TypeId}{x key:AV}{ok:Bool}:Decidable (sLookup P s t x key ok).pre:=by delta sLookup;split<;>(try split)<;>(try split)<;>infer_instance
instance {t:TypeId}{x key:AV}:Decidable (sMapEntry P s t x key).pre:=by delta sMapEntry;split<;>(try split)<;>(try split)<;>infer_instance
instance {x st v:AV}:Decidable (sEntryStore s x st v).pre:=by delta sEntryStore;split<;>(try split)<;>(try split)<;>infer_instance
instance {t:TypeId}{x key v:AV}:Decidable (sMapUpdate P s t x key v).pre:=by delta sMapUpdate;split<;>(try split)<;>(try split)<;>infer_instance
instance {d:Nat}{t:TypeId}{x:AV}:Decidable (sRange P s d t x).pre:=by delta sRange;split<;>(try split)<;>infer_instance
instance {x:AV}:Decidable (sEntry s x).pre:=by delta sEntry;split<;>(try split)<;>infer_instance
instance {d:Nat}{b:Builtin}{ts:List TypeId}{xs:List AV}:Decidable (sBuiltin P s d b ts xs).pre:=by delta sBuiltin;split<;>(try split)<;>infer_instance
instance decStep {o:Oper}:Decidable (step P o s).pre:=by delta step;split<;>(try split)<;>infer_instance
end
def nth:List AV→Nat→AV
 | [],_=>.r .un
 | x::_,0=>x
 | _::l,t+1=>nth l t
def setAt:List AV→Nat→AV→List AV
 | [],0,v=>[v]
 | [],d+1,v=>.r .un::setAt [] d v
 | _::l,0,v=>v::l
 | x::l,d+1,v=>x::setAt l d v
theorem nth_setAt:∀ (l:List AV) (d:Nat) (v:AV) (t:Nat),nth (setAt l d v) t=if t=d then v else nth l t
 | [],0,v,0=>by simp [setAt,nth]
 | [],0,v,t+1=>by simp [setAt,nth]
 | [],d+1,v,0=>by simp [setAt,nth]
 | [],d+1,v,t+1=>by simp only[setAt,nth,nth_setAt [] d v t,Nat.add_right_cancel_iff]
 | x::l,0,v,0=>by simp [setAt,nth]
 | x::l,0,v,t+1=>by simp [setAt,nth]
 | x::l,d+1,v,0=>by simp [setAt,nth]
 | x::l,d+1,v,t+1=>by simp only[setAt,nth,nth_setAt l d v t,Nat.add_right_cancel_iff]
def rowAt:List (Nat × Row)→Nat→Row
 | [],_=>⟨0,.dead⟩
 | (j,r)::l,k=>if k=j then r else rowAt l k
def setRow:List (Nat × Row)→Nat→Row→List (Nat × Row)
 | [],k,r=>[(k,r)]
 | (j,q)::l,k,r=>if k=j then (j,r)::l else (j,q)::setRow l k r
theorem rowAt_setRow:∀ (l:List (Nat × Row)) (k:Nat) (r:Row) (j:Nat),rowAt (setRow l k r) j=if j=k then r else rowAt l j
 | [],k,r,j=>rfl
 | (i, q)::l, k, r, j=>by
   unfold setRow
   split
   ·rename_i e;subst e
    simp only[rowAt]
    split<;>rfl
   ·rename_i e
    simp only[rowAt,rowAt_setRow l k r j]
    by_cases e1:j=i
    ·have:¬ j=k:=by omega
     simp [e1];omega
    ·simp [e1]
structure CS where
 n:Nat
 tm:List AV
 rows:List (Nat × Row)
def CS.as (s:CS):AS:=⟨s.n,nth s.tm,rowAt s.rows⟩
def CS.put (s:CS) (d:Option Nat) (v:AV):CS:=match d with|some d=>⟨s.n,setAt s.tm d v,s.rows⟩|none=>s
def CS.row (s:CS) (k:Nat) (r:Row):CS:=⟨s.n,s.tm,setRow s.rows k r⟩
def CS.effs (s:CS):List (Nat × Row)→CS
 | []=>s
 | (k,r)::l=>(s.row k r).effs l
def CS.app (s:CS) (d:Option Nat) (y:Yi):CS:=(s.effs y.eff).put d y.av
theorem as_put (s:CS) (d:Option Nat) (v:AV):(s.put d v).as=s.as.put d v:=by
 cases d with
 | none=>rfl
 | some d =>
   simp only[CS.put,CS.as,AS.put,AS.mk.injEq,true_and,and_true]
   funext t
   rw[nth_setAt];rfl
theorem as_row (s:CS) (k:Nat) (r:Row):(s.row k r).as=s.as.row k r:=by
 simp only[CS.row,CS.as,AS.row,AS.mk.injEq,true_and]
 funext j
 rw[rowAt_setRow];rfl
theorem as_effs:∀ (l:List (Nat × Row)) (s:CS),(s.effs l).as={ s.as with rows:=l.foldl (fun f p=>upd f p.1 p.2) s.as.rows }
 | [],s=>rfl
 | (k, r)::l, s=>by
   simp only[CS.effs,as_effs l,as_row,List.foldl_cons]
   rfl
theorem as_app (s:CS) (d:Option Nat) (y:Yi):(s.app d y).as=s.as.app d y:=by
 unfold CS.app AS.app
 rw[as_put,as_effs]
 rfl
theorem put_num (s:CS) (d:Option Nat) (v:AV):(s.put d v).n=s.n:=by cases d<;>rfl
theorem effs_num:∀ (l:List (Nat × Row)) (s:CS),(s.effs l).n=s.n
 | [],s=>rfl
 | (k,r)::l,s=>by simp only[CS.effs,effs_num l];rfl
theorem app_num (s:CS) (d:Option Nat) (y:Yi):(s.app d y).n=s.n:=by simp only[CS.app,put_num,effs_num]
def bindL {α β:Type}(x:Option (List α)) (f:α→Option (List β)):Option (List β) :=
 match x with
 | none=>none
 | some l=>go l
 where go:List α→Option (List β)
 | []=>some []
 | a::l=>match f a with
   | none=>none
   | some ys=>match go l with
     | none=>none
     | some zs=>some (ys++zs)
theorem bindL_go {α β:Type}{f:α→Option (List β)}:∀ {l:List α}{zs:List β},bindL.go f l=some zs→∀ a∈l,∃ ys,f a=some ys∧∀ y∈ys,y∈zs
 | [],_,_,a,ha=>by simp at ha
 | b::l, zs, h, a, ha=>by
   unfold bindL.go at h
   split at h
   ·cases h
   ·rename_i ys hys
    split at h
    ·cases h
    ·rename_i ws hws
     injection h with h;subst h
     rcases List.mem_cons.1 ha with rfl|ha
     ·exact⟨ys,hys,fun y hy=>by simp [hy]⟩
     ·obtain⟨y2,h1,h2⟩:=bindL_go hws a ha
      exact⟨y2,h1,fun y hy=>by simp [h2 y hy]⟩
theorem bindL_spec {α β:Type}{x:Option (List α)}{f:α→Option (List β)}{zs:List β}(h:bindL x f=some zs):∃ l,x=some l∧∀ a∈l,∃ ys,f a=some ys∧∀ y∈ys,y∈zs:=by
 unfold bindL at h
 split at h
 ·cases h
 ·exact⟨_,rfl,bindL_go h⟩
abbrev Caller:=Bool→CS→Option Nat→AV→List AV→Option CS
def Caller.ok (P:Program) (call:Caller):Prop :=
 ∀ D s d f xs t,call D s d f xs=some t→t.n=s.n∧∀ K:AS→Prop,K t.as→acall P s.as f xs (fun r=>K (s.as.put d (.r r)))∨(D=false∧(mcall P s.as d f xs K∨ocall P s.as d f xs K))
def each {α:Type}(f:Nat→α→CS):List α→Nat→List CS
 | [],_=>[]
 | e::l,i=>f i e::each f l (i+1)
theorem each_mem {α:Type}{f:Nat→α→CS}:∀ {l:List α}{i j:Nat}{e:α},l[j]? = some e→f (i+j) e∈each f l i
 | [],_,_,_,h=>by simp at h
 | x::l,i,0,e,h=>by simp at h;subst h;simp [each]
 | x::l, i, j+1, e, h=>by
   simp at h
   have:=each_mem (f:=f) (i:=i+1) h
   rw[show i+1+j=i+(j+1) from by omega] at this
   simp [each,this]
theorem each_num {α:Type}{f:Nat→α→CS}{n:Nat}(h:∀ i e,(f i e).n=n):∀ {l:List α}{i:Nat},∀ t∈each f l i,t.n=n
 | [],_,t,ht=>by simp [each] at ht
 | x::l, i, t, ht=>by
   simp only[each,List.mem_cons] at ht
   rcases ht with rfl|ht
   ·exact h _ _
   ·exact each_num h t ht
def nextC (s:CS) (d:Option Nat) (x:AV):Option (List CS) :=
 match x with
 | .mi k n =>
   match rowAt s.rows k with
   | ⟨n', .mi km nm left _⟩ =>
     if n=n'∧nm=(rowAt s.rows km).ver∧k≠km then
      match left with
      | []=>some [s.put d (.r (.tu [.bo false]))]
      | e::l=>some (each (fun i e'=>CS.put (s.row k ⟨n',.mi km nm ((e::l).eraseIdx i) (some e')⟩) d (.r (.tu [.bo true,e'.1,e'.2]))) (e::l) 0)
     else none
   | _=>none
 | _=>none
theorem nextC_ok {s:CS}{d:Option Nat}{x:AV}{L:List CS}(h:nextC s d x=some L) {K:AS→Prop}(hK:∀ t∈L,K t.as):sNext s.as d x K∧∀ t∈L,t.n=s.n:=by
 unfold nextC at h
 split at h
 ·rename_i k n
  split at h
  ·rename_i n' km nm left cur hr
   split at h
   ·rename_i hc
    have hr':s.as.rows k=⟨n',.mi km nm left cur⟩:=hr
    unfold sNext
    simp only[hr']
    split at h
    ·injection h with h;subst h
     refine⟨⟨hc.1,hc.2.1,hc.2.2,fun _=>?_,fun i e he=>by simp at he⟩,fun t ht=>?_⟩
     ·rw[← as_put];exact hK _ (by simp)
     ·simp only[List.mem_singleton] at ht;rw[ht,put_num]
    ·rename_i e l
     injection h with h;subst h
     refine⟨⟨hc.1,hc.2.1,hc.2.2,fun h=>by simp at h,fun i e' he=>?_⟩,fun t ht=>?_⟩
     ·rw[← as_row,← as_put]
      have:=each_mem (f:=fun i e'=>CS.put (s.row k ⟨n',.mi km nm ((e::l).eraseIdx i) (some e')⟩) d (.r (.tu [.bo true,e'.1,e'.2]))) (i:=0) he
      rw[Nat.zero_add] at this
      exact hK _ this
     ·exact each_num (fun i e=>by rw[put_num];rfl) t ht
   ·cases h
  ·cases h
 ·cases h
def opC (P:Program) (call:Caller) (D:Bool) (o:Oper) (s:CS):Option (List CS) :=
 match o.op with
 | .call ⟨.value f, args, _⟩ =>
   match call D s o.dst (s.as.ev f) (args.toList.map s.as.ev) with
   | some t=>some [t]
   | none=>none
 | .next x false=>if D then none else nextC s o.dst (s.as.ev x)
 | _ =>
   if (step P o s.as).pre then
    if D&&cls o == 2 && !((rowAt s.rows (o.dst.getD 0)).c.isDead&&o.dst.isSome) then none
    else some [s.app o.dst (step P o s.as).y]
   else none
theorem opC_ok {P:Program}{call:Caller}(hcall:call.ok P) {D:Bool}{o:Oper}{s:CS}{L:List CS}(h:opC P call D o s=some L) {K:AS→Prop}(hK:∀ t∈L,K t.as):xop P D o K s.as∧∀ t∈L,t.n=s.n:=by
 unfold opC at h
 split at h
 ·rename_i f args ts ho
  split at h
  ·rename_i t ht
   injection h with h;subst h
   obtain⟨hn,hc⟩:=hcall _ _ _ _ _ _ ht
   have hc:=hc K (hK t (by simp))
   refine⟨?_,fun t' ht'=>by simp only[List.mem_singleton] at ht';rw[ht'];exact hn⟩
   unfold xop
   split
   ·rename_i hD
    unfold aop
    rw[ho]
    rcases hc with hc|⟨hc,_⟩
    ·exact .inl hc
    ·rw[hD] at hc;cases hc
   ·rw[ho]
    rcases hc with hc|⟨_,hc⟩
    ·exact .inl hc
    ·exact .inr (hc.imp id .inl)
  ·cases h
 ·rename_i x ho
  split at h
  ·cases h
  ·rename_i hD
   have:=nextC_ok h hK
   refine⟨?_,this.2⟩
   unfold xop
   rw[if_neg hD,ho]
   exact this.1
 ·rename_i h1 h2
  split at h
  ·rename_i hp
   split at h
   ·cases h
   ·rename_i hdead
    injection h with h;subst h
    refine⟨?_,fun t ht=>by simp only[List.mem_singleton] at ht;rw[ht,app_num]⟩
    have key:∀ D',(D'=true→D=true)→aop P D' o K s.as:=fun D' hD'=>by
     unfold aop
     split
     ·rename_i f args ts ho;exact (h1 f args ts ho).elim
     ·rename_i x ho;exact (h2 x ho).elim
     ·refine⟨hp,fun hD hc=>?_,fun _=>?_⟩
      ·have hD:=hD' hD
       cases e:((rowAt s.rows (o.dst.getD 0)).c.isDead&&o.dst.isSome) with
       | false=>exact (hdead (by simp only[hD,hc,e];rfl)).elim
       | true =>
         simp only[Bool.and_eq_true] at e
         exact⟨isDead_iff.2 e.1,e.2⟩
      ·rw[← as_app];exact hK _ (by simp)
    unfold xop
    split
    ·rename_i hD;exact key true fun _=>hD
    ·split
     ·rename_i f args ts ho;exact (h1 f args ts ho).elim
     ·rename_i x ho;exact (h2 x ho).elim
     ·exact key false fun h=>by cases h
  ·cases h
def runOps (P:Program) (call:Caller) (D:Bool) (ops:Array Oper):List Oper→CS→Option (List CS)
 | [],s=>some [s]
 | o::rest, s =>
   match o.guard with
   | none=>bindL (opC P call D o s) (runOps P call D ops rest)
   | some (g, want) =>
     match ((ops[g]?).bind (·.dst):Option Nat) with
     | none=>runOps P call D ops rest (s.put o.dst (.r .ud))
     | some t =>
       match nth s.tm t with
       | .r (.bo b)=>if b == want then bindL (opC P call D o s) (runOps P call D ops rest) else runOps P call D ops rest (s.put o.dst (.r .ud))
       | .r .ud=>runOps P call D ops rest (s.put o.dst (.r .ud))
       | _=>none
theorem runOps_ok {P:Program}{call:Caller}(hcall:call.ok P) {D:Bool}{ops:Array Oper}{K:AS→Prop}:∀ (l:List Oper) {s:CS}{L:List CS},runOps P call D ops l s=some L→(∀ t∈L,t.n=s.n→K t.as)→aops P D ops l K s.as
 | [], s, L, h, hK=>by
   unfold runOps at h
   injection h with h;subst h
   exact hK s (by simp) rfl
 | o::l, s, L, h, hK=>by
   have go:∀ {s1:CS},s1.n=s.n→bindL (opC P call D o s1) (runOps P call D ops l)=some L→xop P D o (aops P D ops l K) s1.as:=fun hn h=>by
    obtain⟨l1,h1,h2⟩:=bindL_spec h
    have hnum:=(opC_ok hcall h1 (K:=fun _=>True) fun _ _=>trivial).2
    refine (opC_ok hcall h1 fun t ht=>?_).1
    obtain⟨ys,hys,hsub⟩:=h2 t ht
    exact runOps_ok hcall l hys fun t' ht' hn'=>hK t' (hsub t' ht') (by rw[hn',hnum t ht,hn])
   have sk:runOps P call D ops l (s.put o.dst (.r .ud))=some L→aops P D ops l K (s.as.put o.dst (.r .ud)):=fun h=>by
    rw[← as_put]
    exact runOps_ok hcall l h fun t ht hn=>hK t ht (by rw[hn,put_num])
   unfold runOps at h
   unfold aops
   split at h
   ·rename_i hg
    rw[hg]
    exact go rfl h
   ·rename_i g want hg
    rw[hg]
    dsimp only
    split at h
    ·rename_i ht;rw[ht];exact sk h
    ·rename_i t ht
     rw[ht]
     dsimp only
     split at h
     ·rename_i b hb
      have hb':s.as.tm t = .r (.bo b):=hb
      rw[hb']
      dsimp only
      split at h
      ·rename_i e
       have e:b=want:=by simpa using e
       subst e
       refine⟨fun _=>?_,fun e=>(by cases b<;>cases e)⟩
       rw[put_self hb']
       exact go rfl h
      ·rename_i e
       have e:b = !want:=by cases b<;>cases want<;>simp_all
       subst e
       refine⟨fun e=>(by cases want<;>cases e),fun _=>?_⟩
       rw[put_self hb']
       exact sk h
     ·rename_i hb
      have hb':s.as.tm t = .r .ud:=hb
      rw[hb']
      exact sk h
     ·cases h
def codeOk (n:Nat):Code→Bool
 | .region _ ops _=>dstOk ops n
 | .seq a b=>codeOk n a&&codeOk n b
 | .cond _ a b=>codeOk n a&&codeOk n b
 | .block _ c=>codeOk n c
 | .loop c=>codeOk n c
 | _=>true
structure Modes where
 fs:List (FuncId × Nat)
def modeOf:List (FuncId × Nat)→FuncId→Option Nat
 | [],_=>none
 | (g,m)::l,f=>if f=g then some m else modeOf l f
def fnOkE (P:Program) (f:FuncId):Bool :=
 match P.funcs[f]? with
 | some fn=>match fn.body with
   | some c=>codeOk fn.ntmps c&&callable P f
   | none=>false
 | none=>false
def allOk (P:Program):List (FuncId × Nat)→Bool
 | []=>true
 | (f,_)::l=>fnOkE P f&&allOk P l
theorem allOk_get {P:Program}:∀ {l:List (FuncId × Nat)}{f:FuncId}{m:Nat},allOk P l=true→modeOf l f=some m→fnOkE P f=true
 | [],_,_,_,h=>by simp [modeOf] at h
 | (g, k)::l, f, m, ha, h=>by
   simp only[allOk,Bool.and_eq_true] at ha
   unfold modeOf at h
   split at h
   ·rename_i e;subst e;exact ha.1
   ·exact allOk_get ha.2 h
mutual
def snapB (rows:Nat→Row):AV→Bool
 | .r _=>true
 | .os k n sz off m=>n == (rows k).ver&&match (rows k).c with | .arr _ sz' es=>sz == sz'&&decide (off+m≤es.length)|_=>false
 | .pt k n off=>n == (rows k).ver&&match (rows k).c with | .box cs=>snap1B rows (cs.drop off)|_=>false
 | .pe k n sz idx _=>n == (rows k).ver&&match (rows k).c with | .arr _ sz' es=>sz == sz'&&decide (idx<es.length)|_=>false
 | .fn _ cs=>snapBL rows cs
 | .ag cs=>snapBL rows cs
 | .tu cs=>snapBL rows cs
 | .mp _ _=>false
 | .mi _ _=>false
 | .pu _ _ _=>false
def snapBL (rows:Nat→Row):List AV→Bool
 | []=>true
 | x::xs=>snapB rows x&&snapBL rows xs
def snap1B (rows:Nat→Row):List AV→Bool
 | []=>true
 | .os k n sz off m::xs=>(n == (rows k).ver&&match (rows k).c with | .arr _ sz' es=>sz == sz'&&decide (off+m≤es.length)|_=>false)&&snap1B rows xs
 | _::xs=>snap1B rows xs
end
end Go.Oc

namespace Go.Oc
open Go Go.RowKit
section
variable {rows:Nat→Row}
theorem osB {k n sz off m:Nat}(h:(n == (rows k).ver&&match (rows k).c with | .arr _ sz' es=>sz == sz'&&decide (off+m≤es.length)|_=>false)=true) :
 n=(rows k).ver∧match (rows k).c with | .arr _ sz' es=>sz=sz'∧off+m≤es.length | .arc _ sz' es _=>sz=sz'∧off+m≤es.length|_=>False:=by
 simp only[Bool.and_eq_true,beq_iff_eq] at h
 refine⟨h.1,?_⟩
 have h:=h.2
 split at h
 ·rename_i e;simp only[e];simpa using h
 ·cases h
theorem snap1B_ok:∀ (xs:List AV),snap1B rows xs=true→snap1PL rows xs
 | [],_=>trivial
 | x::xs, h=>by
   cases x with
   | os k n sz off m =>
     simp only[snap1B,Bool.and_eq_true (_&&_)] at h
     exact⟨osB h.1,snap1B_ok xs h.2⟩
   | _=>simp only[snap1B] at h;exact⟨trivial,snap1B_ok xs h⟩
mutual
theorem snapB_ok:∀ (x:AV),snapB rows x=true→snapP rows x
 | .r _,_=>by simp only[snapP]
 | .os k n sz off m,h=>by simp only[snapB] at h;simp only[snapP];exact⟨(osB h).1,osP (osB h).2⟩
 | .pt k n off, h=>by
   simp only[snapB,Bool.and_eq_true,beq_iff_eq] at h
   simp only[snapP]
   refine⟨h.1,?_⟩
   have h:=h.2
   generalize (rows k).c=c at h ⊢
   cases c<;>first|exact snap1B_ok _ h|cases h
 | .pe k n sz idx _, h=>by
   simp only[snapB,Bool.and_eq_true,beq_iff_eq] at h
   simp only[snapP]
   refine⟨h.1,?_⟩
   have h:=h.2
   generalize (rows k).c=c at h ⊢
   cases c<;>first|(simp only[Bool.and_eq_true,beq_iff_eq,decide_eq_true_eq] at h;exact h)|cases h
 | .fn _ cs,h=>by simp only[snapB] at h;simp only[snapP];exact snapBL_ok cs h
 | .ag cs,h=>by simp only[snapB] at h;simp only[snapP];exact snapBL_ok cs h
 | .tu cs,h=>by simp only[snapB] at h;simp only[snapP];exact snapBL_ok cs h
 | .mp _ _,h=>by simp [snapB] at h
 | .mi _ _,h=>by simp [snapB] at h
 | .pu _ _ _,h=>by simp [snapB] at h
theorem snapBL_ok:∀ (xs:List AV),snapBL rows xs=true→snapPL rows xs
 | [],_=>trivial
 | x::xs, h=>by
   simp only[snapBL,Bool.and_eq_true] at h
   exact⟨snapB_ok x h.1,snapBL_ok xs h.2⟩
end
end
instance {P:Program}{s:AS}{v:ResultVar}:Decidable (resA P s v).pre:=match v with
 | .tmp _=>.isTrue trivial
 | .cell a t=>inferInstanceAs (Decidable (sLoad P s t (s.tm a)).pre)
def resList (P:Program) (s:AS):List ResultVar→Option (List RV)
 | []=>some []
 | v::vs =>
   if (resA P s v).pre then
    if snapB s.rows (resA P s v).y.av then
     match resList P s vs with
     | some rs=>some (snapV s.rows (resA P s v).y.av::rs)
     | none=>none
    else none
   else none
theorem resList_ok {P:Program}{s:AS}:∀ {vs:List ResultVar}{rs:List RV},resList P s vs=some rs→resOk P s vs rs
 | [],rs,h=>by injection h with h;exact h.symm
 | v::vs, rs, h=>by
   unfold resList at h
   split at h
   ·rename_i hp
    split at h
    ·rename_i hs
     split at h
     ·rename_i rs' hr
      injection h with h;subst h
      exact⟨hp,snapB_ok _ hs,_,rs',rfl,leL_refl.le_refl _,resList_ok hr⟩
     ·cases h
    ·cases h
   ·cases h
abbrev Outs:=List (Exit × CS)
def endRs (P:Program) (res:List ResultVar) (x:Exit × CS):Option (List RV) :=
 match x.1 with
 | .normal=>resList P x.2.as res
 | .ret=>resList P x.2.as res
 | _=>none
theorem endRs_ok {P:Program}{res:List ResultVar}{x:Exit × CS}{rs:List RV}(h:endRs P res x=some rs):fpostL P res rs x.1 x.2.as:=by
 obtain⟨e,t⟩:=x
 unfold endRs at h
 cases e<;>first|exact resList_ok h|cases h
def sameRs:List RV→List RV→Bool
 | [],[]=>true
 | .bo a::l,.bo b::l'=>(a == b)&&sameRs l l'
 | .it .i64 a::l,.it .i64 b::l'=>(a == b)&&sameRs l l'
 | _,_=>false
theorem sameRs_ok:∀ {l l':List RV},sameRs l l'=true→l=l':=fun {l l'} h=>by
 fun_induction sameRs l l' with
 | case1=>rfl
 | case2 a l b l' ih=>simp only[Bool.and_eq_true,beq_iff_eq] at h;rw[h.1,ih h.2]
 | case3 a l b l' ih=>simp only[Bool.and_eq_true,beq_iff_eq] at h;rw[h.1,ih h.2]
 | case4=>cases h
def agree (P:Program) (res:List ResultVar):Outs→Option (List RV)
 | []=>none
 | [x]=>endRs P res x
 | x::l=>match endRs P res x, agree P res l with
   | some r,some r'=>if sameRs r r' then some r else none
   | _,_=>none
theorem agree_ok {P:Program}{res:List ResultVar}:∀ {L:Outs}{rs:List RV},agree P res L=some rs→∀ x∈L,fpostL P res rs x.1 x.2.as
 | [],_,h=>by simp [agree] at h
 | [x], rs, h=>fun y hy=>by
   simp only[List.mem_singleton] at hy
   subst hy
   exact endRs_ok (by simpa only[agree] using h)
 | x::y::l, rs, h=>fun z hz=>by
   simp only[agree] at h
   split at h
   ·rename_i r r' h1 h2
    split at h
    ·rename_i e
     injection h with h;subst h
     have e:=sameRs_ok e
     subst e
     rcases List.mem_cons.1 hz with rfl|hz
     ·exact endRs_ok h1
     ·exact agree_ok (L:=y::l) h2 z hz
    ·cases h
   ·cases h
def isEnd:Exit→Bool
 | .normal=>true
 | .ret=>true
 | _=>false
def callA (P:Program) (ex:Code→CS→Option Outs) (fn:Func) (c:Code) (args:List RV):Option RV :=
 if args.length≤fn.ntmps then
  match ex c ⟨fn.ntmps,args.map .r,[]⟩ with
  | some L=>match agree P fn.results.toList L with
    | some rs=>some (resV rs)
    | none=>none
  | none=>none
 else none
def callO (P:Program) (ex:Code→CS→Option Outs) (fn:Func) (c:Code) (args:List RV):Option (Nat × Nat × List (List RV) × Nat) :=
 if args.length≤fn.ntmps then
  match fn.results.toList,ex c ⟨fn.ntmps,args.map .r,[]⟩ with
  | [rv], some [(e, t)] =>
    if isEnd e then
    if (resA P t.as rv).pre then
     match (resA P t.as rv).y.av with
     | .os j n sz off m =>
       match rowAt t.rows j with
       | ⟨n',.arr ty sz' es⟩=>if n == n'&&sz == sz'&&off == 0&&es.all RV.flatL then some (ty,sz,es,m) else none
       | _=>none
     | _=>none
    else none
    else none
  | _,_=>none
 else none
mutual
def keysA:AV→List Nat
 | .pt k _ _=>[k]
 | .pe k _ _ _ _=>[k]
 | .os k _ _ _ _=>[k]
 | .mp k _=>[k]
 | .fn _ cs=>keysL cs
 | .ag cs=>keysL cs
 | .tu cs=>keysL cs
 | _=>[]
def keysL:List AV→List Nat
 | []=>[]
 | x::xs=>keysA x++keysL xs
end
def keysB (rows:Nat→Row):List Nat→List Nat
 | []=>[]
 | k::ks=>k::((match (rows k).c with | .box cs=>keysL cs|_=>[])++keysB rows ks)
def mkRho:List Nat→Nat→List (Nat × Nat)
 | [],_=>[]
 | k::ks,i=>if (k::ks).length > 1&&ks.contains k then mkRho ks i else (i,k)::mkRho ks (i+1)
def lendRows (ρ:List (Nat × Nat)) (s:AS):List (Nat × Nat)→Option (List (Nat × RowC))
 | []=>some []
 | (pk, ck)::l=>match lendC ρ s.ver (s.rows ck).c, lendRows ρ s l with
   | some c,some L=>some ((pk,c)::L)
   | _,_=>none
theorem lendRows_ok {ρ:List (Nat × Nat)}{s:AS}:∀ {l:List (Nat × Nat)}{L:List (Nat × RowC)},lendRows ρ s l=some L→lendOk ρ s l L
 | [],L,h=>by injection h with h;subst h;trivial
 | (pk, ck)::l, L, h=>by
   unfold lendRows at h
   split at h
   ·rename_i c L' h1 h2
    injection h with h;subst h
    exact⟨rfl,h1,lendRows_ok h2⟩
   ·cases h
def frzB (ks:List (Nat × RowC)) (rows:Nat→Row):AV→Bool
 | .os j n sz off m=>if keyIn ks j then true else (decide (j<1000)&&snapB rows (.os j n sz off m))
 | _=>true
theorem frzB_ok {ks:List (Nat × RowC)}{rows:Nat→Row}{x:AV}(h:frzB ks rows x=true):frzP1 ks rows x:=by
 cases x with
 | os j n sz off m =>
   simp only[frzB] at h
   simp only[frzP1]
   split at h
   ·rename_i e;rw[if_pos e];trivial
   ·rename_i e
    rw[if_neg e]
    simp only[Bool.and_eq_true,decide_eq_true_eq] at h
    refine⟨h.1,?_⟩
    have h2:=h.2
    simp only[snapB] at h2
    have h3:=osB h2
    refine⟨h3.1,?_⟩
    have h4:=h3.2
    generalize (rows j).c=c at h4 ⊢
    cases c<;>exact h4
 | _=>simp only[frzP1]
def frzBL (ks:List (Nat × RowC)) (rows:Nat→Row):List AV→Bool
 | []=>true
 | x::xs=>frzB ks rows x&&frzBL ks rows xs
theorem frzBL_ok {ks:List (Nat × RowC)}{rows:Nat→Row}:∀ {xs:List AV},frzBL ks rows xs=true→frzPL ks rows xs
 | [],_=>trivial
 | x::xs, h=>by
   simp only[frzBL,Bool.and_eq_true] at h
   exact⟨frzB_ok h.1,frzBL_ok h.2⟩
def frzBC (ks:List (Nat × RowC)) (rows:Nat→Row):RowC→Bool
 | .box cs=>frzBL ks rows cs
 | _=>true
theorem frzBC_ok {ks:List (Nat × RowC)}{rows:Nat→Row}{c:RowC}(h:frzBC ks rows c=true):frzPC ks rows c:=by
 cases c<;>first|exact frzBL_ok h|trivial
def finM (ks:List (Nat × RowC)) (rows:Nat→Row):List (Nat × RowC)→Option (List (Nat × RowC))
 | []=>some []
 | (k,_)::L=>if okC (rows k).c&&frzBC ks rows (rows k).c then match finM ks rows L with|some L'=>some ((k,frzC ks rows (rows k).c)::L')|none=>none else none
theorem finM_ok {ks:List (Nat × RowC)}{rows:Nat→Row}:∀ {L L':List (Nat × RowC)},finM ks rows L=some L'→mfin ks rows L L'
 | [],L',h=>by injection h with h;subst h;trivial
 | (k, c)::L, L', h=>by
   unfold finM at h
   split at h
   ·rename_i hc
    simp only[Bool.and_eq_true] at hc
    split at h
    ·rename_i L'' h2
     injection h with h;subst h
     exact⟨rfl,hc.1,frzBC_ok hc.2,rfl,finM_ok h2⟩
    ·cases h
   ·cases h
def resListM (P:Program) (ks:List (Nat × RowC)) (s:AS):List ResultVar→Option (List AV)
 | []=>some []
 | v::vs =>
   if (resA P s v).pre then
    if frzB ks s.rows (resA P s v).y.av then
     match resListM P ks s vs with
     | some rs=>some (frz1 ks s.rows (resA P s v).y.av::rs)
     | none=>none
    else none
   else none
theorem resListM_ok {P:Program}{ks:List (Nat × RowC)}{s:AS}:∀ {vs:List ResultVar}{rs:List AV},resListM P ks s vs=some rs→resM P ks s vs rs
 | [],rs,h=>by injection h with h;exact h.symm
 | v::vs, rs, h=>by
   unfold resListM at h
   split at h
   ·rename_i hp
    split at h
    ·rename_i hs
     split at h
     ·rename_i rs' hr
      injection h with h;subst h
      exact⟨hp,frzB_ok hs,rs',rfl,resListM_ok hr⟩
     ·cases h
    ·cases h
   ·cases h
def rowsOf:List (Nat × RowC)→List (Nat × Row)
 | []=>[]
 | (k,c)::L=>(k,⟨0,c⟩)::rowsOf L
def callM (P:Program) (ex:Code→CS→Option Outs) (fn:Func) (c:Code) (L:List (Nat × RowC)) (args:List AV):Option (List (Nat × RowC) × AV) :=
 if args.length≤fn.ntmps&&pinned L then
  match ex c ⟨fn.ntmps,args,rowsOf L⟩ with
  | some [(e, t)] =>
    if isEnd e then
     match finM L t.as.rows L,resListM P L t.as fn.results.toList with
     | some L',some rs=>some (L',resMV rs)
     | _,_=>none
    else none
  | _=>none
 else none
def putRows (s:CS) (L':List (Nat × RowC)) (ver:Nat→Nat) (ρ:List (Nat × Nat)):List (Nat × Nat)→CS
 | []=>s
 | (pk,ck)::l=>putRows (s.row ck ⟨ver ck,backC ρ ver (lookc L' pk)⟩) L' ver ρ l
def callC (P:Program) (fs:List (FuncId × Nat)) (ex:Code→CS→Option Outs):Caller:=fun D s d f xs =>
 match callee? f with
 | none=>none
 | some (F, cs) =>
   match modeOf fs F,P.funcs[F]? with
   | some m, some fn =>
     match fn.body with
     | none=>none
     | some c =>
       if m == 1 && !D then
        match d with
        | some dd =>
          if snapBL s.as.rows (xs++cs)&&decide (dd<1000) then
           match callO P ex fn c (snapVL s.as.rows (xs++cs)) with
           | some (t,sz,es,m)=>some ((s.row dd ⟨(s.as.rows dd).ver+1,.arr t sz es⟩).put d (.os dd ((s.as.rows dd).ver+1) sz 0 m))
           | none=>none
          else none
        | none=>none
       else if m == 2 && !D then
        let ρ:=mkRho (keysB s.as.rows (keysL (xs++cs))) 1000
        match lendL ρ s.as.ver (xs++cs),lendRows ρ s.as ρ with
        | some args, some L =>
          match callM P ex fn c L args with
          | some (L',r)=>if apart ρ&&sameKeys ρ L' then some ((putRows s L' s.as.ver ρ ρ).put d (backA ρ s.as.ver r)) else none
          | none=>none
        | _,_=>none
       else if snapBL s.as.rows (xs++cs) then
        match callA P ex fn c (snapVL s.as.rows (xs++cs)) with
        | some r=>if r.flatB || AV.pureL (xs++cs) then some (s.put d (.r r)) else none
        | none=>none
       else none
   | _,_=>none
mutual
def RV.dl:RV→RV→Bool
 | .ns,.sl _ []=>true
 | .sl s es,.sl t fs=>s == t&&RV.dlE es fs
 | .ag xs,.ag ys=>RV.dlL xs ys
 | .rp xs,.rp ys=>RV.dlL xs ys
 | .fn f xs,.fn g ys=>f == g&&RV.dlL xs ys
 | .it .i64 n,.it .i64 m=>n == m
 | .bo a,.bo b=>a == b
 | .ns,.ns=>true
 | .np,.np=>true
 | .nf,.nf=>true
 | _,_=>false
def RV.dlL:List RV→List RV→Bool
 | [],[]=>true
 | x::xs,y::ys=>RV.dl x y&&RV.dlL xs ys
 | _,_=>false
def RV.dlE:List (List RV)→List (List RV)→Bool
 | [],[]=>true
 | x::xs,y::ys=>RV.dlL x y&&RV.dlE xs ys
 | _,_=>false
end
theorem dlL_len:∀ {xs ys:List RV},RV.dlL xs ys=true→xs.length=ys.length
 | [],[],_=>rfl
 | x::xs, y::ys, h=>by
   simp only[RV.dlL,Bool.and_eq_true] at h
   simp [dlL_len h.2]
 | [],_::_,h=>by simp [RV.dlL] at h
 | _::_,[],h=>by simp [RV.dlL] at h
theorem dlE_len:∀ {xs ys:List (List RV)},RV.dlE xs ys=true→xs.length=ys.length
 | [],[],_=>rfl
 | x::xs, y::ys, h=>by
   simp only[RV.dlE,Bool.and_eq_true] at h
   simp [dlE_len h.2]
 | [],_::_,h=>by simp [RV.dlE] at h
 | _::_,[],h=>by simp [RV.dlE] at h
section
variable {w:World}{R:Nat→Prop}
mutual
theorem dl_rel:∀ (x y:RV) (v:Value),RV.dl x y=true→x.rel w R v→y.rel w R v
 | .ns, .sl sz [], v, _, h=>by
   simp only[RV.rel] at h ⊢
   obtain⟨A,rfl⟩:=h
   exact⟨A,0,rfl,Nat.le_refl _,Nat.zero_le _,fun h=>absurd rfl h⟩
 | .sl s es, .sl t fs, v, hd, h=>by
   simp only[RV.dl,Bool.and_eq_true,beq_iff_eq] at hd
   obtain⟨rfl,hd⟩:=hd
   have hl:=dlE_len hd
   simp only[RV.rel] at h ⊢
   obtain⟨A,c,hv,h1,h2,h3⟩:=h
   refine⟨A,c,by rw[← hl];exact hv,by rw[← hl];exact h1,h2,fun hne=>?_⟩
   obtain⟨ad,e,hr,hc⟩:=h3 (fun e=>hne (by rw[e] at hl;exact List.eq_nil_of_length_eq_zero hl.symm))
   exact⟨ad,e,hr,dl_relE s es fs ad 0 hd hc⟩
 | .ag xs, .ag ys, v, hd, h=>by
   simp only[RV.dl] at hd
   simp only[RV.rel] at h ⊢
   obtain⟨vs,e,h1,hV⟩:=h
   exact⟨vs,e,h1,dl_relV xs ys _ hd hV⟩
 | .rp xs, .rp ys, v, hd, h=>by
   simp only[RV.dl] at hd
   simp only[RV.rel] at h ⊢
   obtain⟨ad,e,hR,hC⟩:=h
   exact⟨ad,e,hR,dl_relC xs ys _ _ hd hC⟩
 | .fn f xs, .fn g ys, v, hd, h=>by
   simp only[RV.dl,Bool.and_eq_true,beq_iff_eq] at hd
   simp only[RV.rel] at h ⊢
   obtain⟨vs,e,hV⟩:=h
   exact⟨vs,by rw[← hd.1];exact e,dl_relV xs ys _ hd.2 hV⟩
 | .it .i64 n, .it .i64 m, v, hd, h=>by
   simp only[RV.dl,beq_iff_eq] at hd
   subst hd;exact h
 | .bo a, .bo b, v, hd, h=>by
   simp only[RV.dl,beq_iff_eq] at hd
   subst hd;exact h
 | .ns,.ns,_,_,h=>h
 | .np,.np,_,_,h=>h
 | .nf,.nf,_,_,h=>h
theorem dl_relV:∀ (xs ys:List RV) (vs:List Value),RV.dlL xs ys=true→RV.relV w R xs vs→RV.relV w R ys vs
 | [],[],_,_,h=>h
 | x::xs, y::ys, vs, hle, h=>by
   simp only[RV.dlL,Bool.and_eq_true] at hle
   simp only[RV.relV] at h ⊢
   obtain⟨u,us,e,h1,h2⟩:=h
   exact⟨u,us,e,dl_rel x y u hle.1 h1,dl_relV xs ys us hle.2 h2⟩
 | [],_::_,_,hle,_=>by simp [RV.dlL] at hle
 | _::_,[],_,hle,_=>by simp [RV.dlL] at hle
theorem dl_relC:∀ (xs ys:List RV) (ad:Addr) (j:Nat),RV.dlL xs ys=true→RV.relC w R xs ad j→RV.relC w R ys ad j
 | [],[],_,_,_,h=>h
 | x::xs, y::ys, ad, j, hle, h=>by
   simp only[RV.dlL,Bool.and_eq_true] at hle
   simp only[RV.relC] at h ⊢
   obtain⟨⟨u,hu,ho,h1⟩,h2⟩:=h
   exact⟨⟨u,hu,ho,dl_rel x y u hle.1 h1⟩,dl_relC xs ys ad (j+1) hle.2 h2⟩
 | [],_::_,_,_,hle,_=>by simp [RV.dlL] at hle
 | _::_,[],_,_,hle,_=>by simp [RV.dlL] at hle
theorem dl_relE:∀ (sz:Nat) (xs ys:List (List RV)) (ad:Addr) (j:Nat),RV.dlE xs ys=true→RV.relE w R sz xs ad j→RV.relE w R sz ys ad j
 | _,[],[],_,_,_,h=>h
 | sz, x::xs, y::ys, ad, j, hle, h=>by
   simp only[RV.dlE,Bool.and_eq_true] at hle
   simp only[RV.relE] at h ⊢
   exact⟨by rw[← dlL_len hle.1];exact h.1,dl_relC x y ad j hle.1 h.2.1,dl_relE sz xs ys ad (j+sz) hle.2 h.2.2⟩
 | _,[],_::_,_,_,hle,_=>by simp [RV.dlE] at hle
 | _,_::_,[],_,_,hle,_=>by simp [RV.dlE] at hle
end
end
theorem acalls_dl {P:Program}{f:FuncId}{xs ys:List RV}{r:RV}(h:ACalls P f ys r) (hd:RV.dlL xs ys=true):ACalls P f xs r :=
 ⟨h.1,fun w R vs hR hv=>h.2 w R vs hR (dl_relV xs ys _ hd hv)⟩
abbrev Orc:=List (FuncId × List RV × RV)
def orcGet:Orc→FuncId→List RV→Option RV
 | [],_,_=>none
 | (g,ys,r)::l,f,xs=>if f == g&&RV.dlL xs ys then some r else orcGet l f xs
def orcOk (P:Program):Orc→Prop
 | []=>True
 | (g,ys,r)::l=>ACalls P g ys r∧orcOk P l
theorem orcGet_ok {P:Program}:∀ {l:Orc}{f:FuncId}{xs:List RV}{r:RV},orcOk P l→orcGet l f xs=some r→ACalls P f xs r
 | [],_,_,_,_,h=>by simp [orcGet] at h
 | (g, ys, r')::l, f, xs, r, ho, h=>by
   unfold orcGet at h
   split at h
   ·rename_i hc
    simp only[Bool.and_eq_true,beq_iff_eq] at hc
    injection h with h;subst h
    rw[hc.1]
    exact acalls_dl ho.1 hc.2
   ·exact orcGet_ok ho.2 h
def callR (orc:Orc):Caller:=fun _ s d f xs =>
 match callee? f with
 | none=>none
 | some (F, cs) =>
   if snapBL s.as.rows (xs++cs) then
    match orcGet orc F (snapVL s.as.rows (xs++cs)) with
    | some r=>if r.flatB || AV.pureL (xs++cs) then some (s.put d (.r r)) else none
    | none=>none
   else none
def callX (P:Program) (fs:List (FuncId × Nat)) (orc:Orc) (ex:Code→CS→Option Outs):Caller:=fun D s d f xs =>
 match callC P fs ex D s d f xs with
 | some t=>some t
 | none=>callR orc D s d f xs
def norm:List CS→Outs
 | []=>[]
 | t::l=>(.normal,t)::norm l
def leave (id:Nat):Exit→Exit
 | .exit id'=>if id'=id then .normal else .exit id'
 | e=>e
def blk (id:Nat):Outs→Outs
 | []=>[]
 | (e,t)::l=>(leave id e,t)::blk id l
def killOps:List Oper→CS→CS
 | [],s=>s
 | o::l,s=>if cls o == 2&&decide (o.dst.getD 0<1000) then killOps l (s.row (o.dst.getD 0) ⟨(rowAt s.rows (o.dst.getD 0)).ver+1,.dead⟩) else killOps l s
def killD (D:Bool) (l:List Oper) (s:CS):CS:=match D with|true=>killOps l s|false=>s
def slots:List Operand→List Nat
 | []=>[]
 | .tmp t::l=>t::slots l
 | _::l=>slots l
def kappa (ops:Array Oper) (s:CS):List Oper→List (Nat × Option Nat)
 | []=>[]
 | o::l=>(slots o.op.operands.toList).map (fun t=>(t,keyOf (nth s.tm t)))++kappa ops s l
def drawOk (D:Bool) (ops:Array Oper) (s:CS):Bool:=!D || lexOk ops || lexOk2 ops (kappa ops s ops.toList)
def exec (P:Program) (fs:List (FuncId × Nat)) (orc:Orc):Nat→Code→CS→Option Outs
 | 0,_,_=>none
 | k+1,.region _ ops D,s=>if drawOk D ops (killD D ops.toList s) then match runOps P (callX P fs orc (exec P fs orc k)) D ops ops.toList (killD D ops.toList s) with|some L=>some (norm L)|none=>none else none
 | k+1,.seq a b,s=>bindL (exec P fs orc k a s) fun x=>match x.1 with | .normal=>exec P fs orc k b x.2|e=>some [(e,x.2)]
 | k+1,.loop c,s=>bindL (exec P fs orc k c s) fun x=>match x.1 with | .normal=>exec P fs orc k (.loop c) x.2|e=>some [(e,x.2)]
 | k+1,.cond c a b,s=>match s.as.ev c with | .r (.bo t)=>bif t then exec P fs orc k a s else exec P fs orc k b s|_=>none
 | k+1,.block id c,s=>match exec P fs orc k c s with|some L=>some (blk id L)|none=>none
 | _+1,.skip,s=>some [(.normal,s)]
 | _+1,.label _,s=>some [(.normal,s)]
 | _+1,.exit id,s=>some [(.exit id,s)]
 | _+1,.ret,s=>some [(.ret,s)]
 | _+1,_,_=>none
def evalX (P:Program) (fs:List (FuncId × Nat)) (orc:Orc) (k:Nat) (F:FuncId) (args:List RV):Option RV :=
 match P.funcs[F]? with
 | some fn=>match fn.body with
   | some c=>callA P (exec P fs orc k) fn c args
   | none=>none
 | none=>none
end Go.Oc

namespace Go.Oc
open Go Go.RowKit
section
variable {P:Program}
theorem norm_mem:∀ {L:List CS}{t:CS},t∈L→(Exit.normal,t)∈norm L
 | [],_,h=>by simp at h
 | x::l, t, h=>by
   rcases List.mem_cons.1 h with rfl|h
   ·simp [norm]
   ·simp [norm,norm_mem h]
theorem blk_mem {id:Nat}:∀ {L:Outs}{e:Exit}{t:CS},(e,t)∈L→(leave id e,t)∈blk id L
 | [],_,_,h=>by simp at h
 | (e', t')::l, e, t, h=>by
   rcases List.mem_cons.1 h with h|h
   ·injection h with h1 h2;subst h1 h2;simp [blk]
   ·simp [blk,blk_mem h]
theorem nth_look:∀ (xs:List AV) (k t:Nat),look (argA k xs) (k+t)=nth xs t
 | [],_,_=>by simp [argA,look_nil,nth]
 | x::xs,k,0=>by simp [argA,look_cons,nth]
 | x::xs, k, t+1=>by
   have:=nth_look xs (k+1) t
   rw[show k+1+t=k+(t+1) from by omega] at this
   simp only[argA,look_cons,nth,this];rw[if_neg (by omega)]
theorem argL_A:∀ (xs:List RV) (k:Nat),argL k xs=argA k (xs.map .r)
 | [],_=>rfl
 | x::xs,k=>by simp only[argL,argA,List.map_cons,argL_A xs]
theorem rowsOf_at:∀ (L:List (Nat × RowC)) (k:Nat),rowAt (rowsOf L) k=⟨0,lookc L k⟩
 | [],_=>rfl
 | (j, c)::L, k=>by
   simp only[rowsOf,rowAt,zlc,rowsOf_at L k]
   split<;>rfl
theorem start_as {n:Nat}{xs:List AV}{L:List (Nat × RowC)}:(CS.mk n xs (rowsOf L)).as=st n (argA 0 xs) (fun _=>0) L:=by
 simp only[CS.as,st,AS.mk.injEq,true_and]
 refine⟨?_,funext fun k=>rowsOf_at L k⟩
 funext t
 have:=nth_look xs 0 t
 rw[Nat.zero_add] at this
 exact this.symm
theorem start_as0 {n:Nat}{xs:List RV}:(CS.mk n (xs.map .r) []).as=st n (argL 0 xs) (fun _=>0) []:=by
 rw[argL_A]
 exact start_as (L:=[])
theorem as_putRows {L':List (Nat × RowC)}{ver:Nat→Nat}{ρ:List (Nat × Nat)}:∀ (l:List (Nat × Nat)) (s:CS),(putRows s L' ver ρ l).as={ s.as with rows:=backRows ρ ver L' l s.as.rows }
 | [],s=>rfl
 | (pk, ck)::l, s=>by
   simp only[putRows,as_putRows l,as_row,backRows]
   rfl
theorem putRows_num {L':List (Nat × RowC)}{ver:Nat→Nat}{ρ:List (Nat × Nat)}:∀ (l:List (Nat × Nat)) (s:CS),(putRows s L' ver ρ l).n=s.n
 | [],s=>rfl
 | (pk,ck)::l,s=>by simp only[putRows,putRows_num l];rfl
theorem killOps_sub:∀ (l:List Oper) (s:CS),Sub s.as (killOps l s).as∧(killOps l s).n=s.n
 | [],s=>⟨Sub.refl _,rfl⟩
 | o::l, s=>by
   unfold killOps
   split
   ·rename_i h
    simp only[Bool.and_eq_true,decide_eq_true_eq] at h
    obtain⟨h1,h2⟩:=killOps_sub l (s.row (o.dst.getD 0) ⟨(rowAt s.rows (o.dst.getD 0)).ver+1,.dead⟩)
    refine⟨Sub.trans ?_ h1,h2⟩
    rw[as_row]
    exact sub_kill s.as (o.dst.getD 0) h.2
   ·exact killOps_sub l s
theorem killD_sub (D:Bool) (l:List Oper) (s:CS):Sub s.as (killD D l s).as∧(killD D l s).n=s.n:=by
 cases D with
 | true=>exact killOps_sub l s
 | false=>exact⟨Sub.refl _,rfl⟩
def Good (P:Program) (ex:Code→CS→Option Outs):Prop:=∀ c t L,codeOk t.n c=true→ex c t=some L→(∀ x∈L,x.2.n=t.n)∧∀ C Q,(∀ x∈L,Q x.1 x.2.as)→awp P C c Q t.as
theorem callA_ok {ex:Code→CS→Option Outs}(hex:Good P ex) {F:FuncId}{fn:Func}{c:Code}{args:List RV}{r:RV}(hF:P.funcs[F]? = some fn) (hb:fn.body=some c) (hok:fnOkE P F=true) (h:callA P ex fn c args=some r):ACalls P F args r:=by
 unfold fnOkE at hok
 simp only[hF,hb,Bool.and_eq_true] at hok
 unfold callA at h
 split at h
 ·rename_i hlen
  split at h
  ·rename_i L hL
   split at h
   ·rename_i rs hrs
    injection h with h
    have hag:=agree_ok hrs
    refine acalls_of hF hb hok.2 rfl hlen h fun C=>zw (sub_look (argL 0 args) fun p hp=>?_) ?_
    ·obtain⟨i,x,rfl,e⟩:=argL_mem p hp
     simp only[argTm,Nat.zero_add,e]
    ·have:=((hex c _ L hok.1 hL).2 C (fpost P fn rs) fun x hx=>?_)
     ·rw[start_as0] at this
      exact this
     ·have:=hag x hx
      obtain⟨e,t⟩:=x
      cases e<;>exact this
   ·cases h
  ·cases h
 ·cases h
theorem callO_ok {ex:Code→CS→Option Outs}(hex:Good P ex) {F:FuncId}{fn:Func}{c:Code}{args:List RV}{ty sz m:Nat}{es:List (List RV)}(hF:P.funcs[F]? = some fn) (hb:fn.body=some c) (hok:fnOkE P F=true)
 (h:callO P ex fn c args=some (ty,sz,es,m)):OCalls P F args ty sz es m:=by
 unfold fnOkE at hok
 simp only[hF,hb,Bool.and_eq_true] at hok
 unfold callO at h
 split at h
 ·rename_i hlen
  split at h
  ·rename_i rv e t hres hL
   split at h
   ·rename_i he
    split at h
    ·rename_i hp
     split at h
     ·rename_i j n sz1 off m1 hav
      split at h
      ·rename_i n' ty1 sz' es1 hrow
       split at h
       ·rename_i hc
        simp only[Bool.and_eq_true,beq_iff_eq,List.all_eq_true] at hc
        obtain⟨⟨⟨h1,h2⟩,h3⟩,h4⟩:=hc
        subst h1 h2 h3
        injection h with h
        simp only[Prod.mk.injEq] at h
        obtain⟨rfl,rfl,rfl,rfl⟩:=h
        refine ocalls_0 rv hF hb hok.2 rfl hres hlen h4 fun C=>?_
        have:=((hex c _ _ hok.1 hL).2 C (opostL P rv ty1 sz1 es1 m1) fun x hx=>?_)
        ·rw[start_as0] at this
         exact this
        ·simp only[List.mem_singleton] at hx
         subst hx
         have key:resC (resA P t.as rv) fun v=>∃ j n,v = .os j n sz1 0 m1∧t.as.rows j=⟨n,.arr ty1 sz1 es1⟩:=⟨hp,j,n,hav,hrow⟩
         cases e<;>first|exact key|cases he
       ·cases h
      ·cases h
     ·cases h
    ·cases h
   ·cases h
  ·cases h
 ·cases h
theorem callM_ok {ex:Code→CS→Option Outs}(hex:Good P ex) {F:FuncId}{fn:Func}{c:Code}{L L':List (Nat × RowC)}{args:List AV}{r:AV}(hF:P.funcs[F]? = some fn) (hb:fn.body=some c) (hok:fnOkE P F=true)
 (h:callM P ex fn c L args=some (L',r)):MCalls P F L L' args r:=by
 unfold fnOkE at hok
 simp only[hF,hb,Bool.and_eq_true] at hok
 unfold callM at h
 split at h
 ·rename_i hlen
  simp only[Bool.and_eq_true,decide_eq_true_eq] at hlen
  split at h
  ·rename_i e t hL
   split at h
   ·rename_i he
    split at h
    ·rename_i L1 rs hfin hres
     injection h with h
     simp only[Prod.mk.injEq] at h
     obtain⟨rfl,rfl⟩:=h
     refine mcalls_st (rs:=rs) L L1 fn.results.toList hF hb hok.2 rfl rfl hlen.1 rfl hlen.2 fun C=>?_
     have:=((hex c _ _ hok.1 hL).2 C (mpostL P fn.results.toList rs L L1) fun x hx=>?_)
     ·rw[start_as] at this
      exact this
     ·simp only[List.mem_singleton] at hx
      subst hx
      have key:resM P L t.as fn.results.toList rs∧mfin L t.as.rows L L1:=⟨resListM_ok hres,finM_ok hfin⟩
      cases e<;>first|exact key|cases he
    ·cases h
   ·cases h
  ·cases h
 ·cases h
theorem callC_ok {fs:List (FuncId × Nat)}(hfs:allOk P fs=true) {ex:Code→CS→Option Outs}(hex:Good P ex):(callC P fs ex).ok P:=fun D s d f xs t h=>by
 unfold callC at h
 split at h
 ·cases h
 ·rename_i F cs hcal
  split at h
  ·rename_i m fn hm hF
   have hok:=allOk_get hfs hm
   split at h
   ·cases h
   ·rename_i c hb
    split at h
    ·rename_i hmode
     simp only[Bool.and_eq_true,beq_iff_eq,Bool.not_eq_true'] at hmode
     split at h
     ·rename_i dd
      split at h
      ·rename_i hsn
       simp only[Bool.and_eq_true,decide_eq_true_eq] at hsn
       split at h
       ·rename_i ty sz es m' hO
        injection h with h;subst h
        refine⟨put_num _ _ _,fun K hK=>.inr ⟨hmode.2,.inr ⟨F,cs,_,ty,sz,es,m',dd,hcal,snapBL_ok _ hsn.1,leL_refl _,callO_ok hex hF hb hok hO,rfl,hsn.2,?_⟩⟩⟩
        rw[as_put,as_row] at hK
        exact hK
       ·cases h
      ·cases h
     ·cases h
    ·split at h
     ·rename_i hmode
      simp only[Bool.and_eq_true,beq_iff_eq,Bool.not_eq_true'] at hmode
      dsimp only at h
      split at h
      ·rename_i args L hargs hL
       split at h
       ·rename_i L' r hM
        split at h
        ·rename_i hap
         simp only[Bool.and_eq_true] at hap
         injection h with h;subst h
         refine⟨(put_num _ _ _).trans (putRows_num _ _),fun K hK=>.inr ⟨hmode.2,.inl ⟨F,cs,_,L,L',args,r,hcal,hargs,lendRows_ok hL,hap.1,hap.2,callM_ok hex hF hb hok hM,?_⟩⟩⟩
         rw[as_put,as_putRows] at hK
         exact hK
        ·cases h
       ·cases h
      ·cases h
     ·split at h
      ·rename_i hsn
       split at h
       ·rename_i r hA
        split at h
        ·rename_i hfl
         simp only[Bool.or_eq_true] at hfl
         injection h with h;subst h
         refine⟨put_num _ _ _,fun K hK=>.inl ⟨r,.inl ⟨F,cs,_,hcal,snapBL_ok _ hsn,leL_refl _,callA_ok hex hF hb hok hA,hfl⟩,?_⟩⟩
         rw[as_put] at hK
         exact hK
        ·cases h
       ·cases h
      ·cases h
  ·cases h
theorem callR_ok {orc:Orc}(ho:orcOk P orc):(callR orc).ok P:=fun D s d f xs t h=>by
 unfold callR at h
 split at h
 ·cases h
 ·rename_i F cs hcal
  split at h
  ·rename_i hsn
   split at h
   ·rename_i r hA
    split at h
    ·rename_i hfl
     simp only[Bool.or_eq_true] at hfl
     injection h with h;subst h
     refine⟨put_num _ _ _,fun K hK=>.inl ⟨r,.inl ⟨F,cs,_,hcal,snapBL_ok _ hsn,leL_refl _,orcGet_ok ho hA,hfl⟩,?_⟩⟩
     rw[as_put] at hK
     exact hK
    ·cases h
   ·cases h
  ·cases h
theorem callX_ok {fs:List (FuncId × Nat)}(hfs:allOk P fs=true) {orc:Orc}(ho:orcOk P orc) {ex:Code→CS→Option Outs}(hex:Good P ex):(callX P fs orc ex).ok P:=fun D s d f xs t h=>by
 unfold callX at h
 split at h
 ·rename_i t' e
  injection h with h;subst h
  exact callC_ok hfs hex D s d f xs _ e
 ·exact callR_ok ho D s d f xs t h
theorem bindL_mem {α β:Type}{x:Option (List α)}{f:α→Option (List β)}{zs:List β}(h:bindL x f=some zs) {z:β}(hz:z∈zs):∃ l,x=some l∧∃ a∈l,∃ ys,f a=some ys∧z∈ys:=by
 unfold bindL at h
 split at h
 ·cases h
 ·rename_i l
  refine⟨l,rfl,?_⟩
  induction l generalizing zs with
  | nil=>injection h with h;subst h;simp at hz
  | cons b l ih =>
    unfold bindL.go at h
    split at h
    ·cases h
    ·rename_i ys hys
     split at h
     ·cases h
     ·rename_i ws hws
      injection h with h;subst h
      rcases List.mem_append.1 hz with hz|hz
      ·exact⟨b,by simp,ys,hys,hz⟩
      ·obtain⟨a,ha,y2,h1,h2⟩:=ih hz hws
       exact⟨a,by simp [ha],y2,h1,h2⟩
theorem runOps_num {call:Caller}(hcall:call.ok P) {D:Bool}{ops:Array Oper}:∀ (l:List Oper) {s:CS}{L:List CS},runOps P call D ops l s=some L→∀ t∈L,t.n=s.n
 | [], s, L, h=>by
   unfold runOps at h
   injection h with h;subst h
   intro t ht
   simp only[List.mem_singleton] at ht;rw[ht]
 | o::l, s, L, h=>by
   have go:bindL (opC P call D o s) (runOps P call D ops l)=some L→∀ t∈L,t.n=s.n:=fun h t ht=>by
    obtain⟨l1,h1,a,ha,ys,h2,h3⟩:=bindL_mem h ht
    rw[runOps_num hcall l h2 t h3,(opC_ok hcall h1 (K:=fun _=>True) fun _ _=>trivial).2 a ha]
   have sk:runOps P call D ops l (s.put o.dst (.r .ud))=some L→∀ t∈L,t.n=s.n:=fun h t ht=>by
    rw[runOps_num hcall l h t ht,put_num]
   unfold runOps at h
   split at h
   ·exact go h
   ·split at h
    ·exact sk h
    ·split at h
     ·split at h
      ·exact go h
      ·exact sk h
     ·exact sk h
     ·cases h
theorem norm_mem':∀ {L:List CS}{x:Exit × CS},x∈norm L→x.1 = .normal∧x.2∈L
 | [],_,h=>by simp [norm] at h
 | t::l, x, h=>by
   simp only[norm,List.mem_cons] at h
   rcases h with rfl|h
   ·exact⟨rfl,by simp⟩
   ·have:=norm_mem' h
    exact⟨this.1,by simp [this.2]⟩
theorem blk_mem' {id:Nat}:∀ {L:Outs}{x:Exit × CS},x∈blk id L→∃ e,(e,x.2)∈L
 | [],_,h=>by simp [blk] at h
 | (e', t')::l, x, h=>by
   simp only[blk,List.mem_cons] at h
   rcases h with rfl|h
   ·exact⟨e',by simp⟩
   ·obtain⟨e,he⟩:=blk_mem' h
    exact⟨e,by simp [he]⟩
theorem kappa_ok {ops:Array Oper}{s:CS}:∀ l:List Oper,keysOk (kappa ops s l) s.as
 | []=>fun p hp=>by simp [kappa] at hp
 | o::l=>fun p hp=>by
   simp only[kappa,List.mem_append,List.mem_map] at hp
   rcases hp with⟨t,_,rfl⟩|hp
   ·rfl
   ·exact kappa_ok l p hp
theorem exec_ok (hm:P.follows .mixedOrders=true) {fs:List (FuncId × Nat)}(hfs:allOk P fs=true) {orc:Orc}(ho:orcOk P orc):∀ k,Good P (exec P fs orc k):=by
 intro k
 induction k using Nat.strongRecOn with
 | _ k ih =>
   cases k with
   | zero=>intro c t L _ h;cases c<;>simp [exec] at h
   | succ k =>
     intro c t L hok h
     cases c with
     | skip=>simp only[exec,Option.some.injEq] at h;subst h;exact⟨by simp,fun C Q hQ=>zx (hQ _ (List.mem_singleton.2 rfl))⟩
     | label l=>simp only[exec,Option.some.injEq] at h;subst h;exact⟨by simp,fun C Q hQ=>awp_label (hQ _ (List.mem_singleton.2 rfl))⟩
     | exit id=>simp only[exec,Option.some.injEq] at h;subst h;exact⟨by simp,fun C Q hQ=>zf (hQ _ (List.mem_singleton.2 rfl))⟩
     | ret=>simp only[exec,Option.some.injEq] at h;subst h;exact⟨by simp,fun C Q hQ=>ze (hQ _ (List.mem_singleton.2 rfl))⟩
     | region id ops D =>
       simp only[codeOk] at hok
       simp only[exec] at h
       split at h
       ·rename_i hdr
        split at h
        ·rename_i L' hL
         injection h with h;subst h
         have hcall:=callX_ok hfs ho (ih k (Nat.lt_succ_self k))
         have hk:=killD_sub D ops.toList t
         refine⟨fun x hx=>(runOps_num hcall _ hL _ (norm_mem' hx).2).trans hk.2,fun C Q hQ=>zw hk.1 ?_⟩
         have:=runOps_ok hcall (K:=Q .normal) _ hL fun t ht _=>hQ _ (norm_mem ht)
         have hd:dstOk ops.toList.toArray (killD D ops.toList t).as.n=true:=by rw[show (killD D ops.toList t).as.n=t.n from hk.2];exact hok
         cases D with
         | false=>exact awp_region (l:=ops.toList) hd this
         | true =>
           simp only[drawOk,Bool.not_true,Bool.false_or,Bool.or_eq_true] at hdr
           rcases hdr with hlex|hlex
           ·exact awp_draw (l:=ops.toList) hm hlex hd this
           ·exact awp_draw2 (l:=ops.toList) hm hlex hd (kappa_ok _) this
        ·cases h
       ·cases h
     | seq a b =>
       simp only[codeOk,Bool.and_eq_true] at hok
       simp only[exec] at h
       obtain⟨l1,h1,h2⟩:=bindL_spec h
       have ga:=ih k (Nat.lt_succ_self k) a t l1 hok.1 h1
       refine⟨fun x hx=>?_,fun C Q hQ=>?_⟩
       ·obtain⟨l1',h1',y,hy,ys,h3,h4⟩:=bindL_mem h hx
        rw[h1] at h1';injection h1' with h1';subst h1'
        have hn:=ga.1 y hy
        obtain⟨e,u⟩:=y
        cases e<;>first
         | (have:=(ih k (Nat.lt_succ_self k) b u ys (by rw[hn];exact hok.2) h3).1 x h4;rw[this];exact hn)
         | (simp only[Option.some.injEq] at h3;subst h3;simp only[List.mem_singleton] at h4;rw[h4];exact hn)
       ·refine zq (ga.2 C _ fun x hx=>?_)
        obtain⟨ys,h3,h4⟩:=h2 x hx
        have hn:=ga.1 x hx
        obtain⟨e,u⟩:=x
        cases e<;>first
         | exact (ih k (Nat.lt_succ_self k) b u ys (by rw[hn];exact hok.2) h3).2 C Q fun x hx=>hQ x (h4 x hx)
         | (simp only[Option.some.injEq] at h3;subst h3;exact hQ _ (h4 _ (by simp)))
     | cond c a b =>
       simp only[codeOk,Bool.and_eq_true] at hok
       simp only[exec] at h
       split at h
       ·rename_i tt hc
        cases tt with
        | true =>
          have g:=ih k (Nat.lt_succ_self k) a t L hok.1 h
          exact⟨g.1,fun C Q hQ=>zc hc (fun _=>g.2 C Q hQ) (fun e=>by cases e)⟩
        | false =>
          have g:=ih k (Nat.lt_succ_self k) b t L hok.2 h
          exact⟨g.1,fun C Q hQ=>zc hc (fun e=>by cases e) (fun _=>g.2 C Q hQ)⟩
       ·cases h
     | block id c =>
       simp only[codeOk] at hok
       simp only[exec] at h
       split at h
       ·rename_i L' hL
        injection h with h;subst h
        have g:=ih k (Nat.lt_succ_self k) c t L' hok hL
        refine⟨fun x hx=>?_,fun C Q hQ=>?_⟩
        ·obtain⟨e,he⟩:=blk_mem' hx
         exact g.1 (e,x.2) he
        ·refine zd (g.2 C _ fun x hx=>?_)
         obtain⟨e,u⟩:=x
         have:=hQ _ (blk_mem hx)
         cases e with
         | exit id' =>
           simp only[leave] at this
           simp only[inBlk]
           split<;>rename_i e<;>simp only[e,if_true,if_false] at this<;>exact this
         | _=>exact this
       ·cases h
     | loop c =>
       simp only[codeOk] at hok
       have num:∀ j,j≤k+1→∀ (u:CS) (L':Outs),u.n=t.n→exec P fs orc j (.loop c) u=some L'→∀ x∈L',x.2.n=t.n:=by
        intro j
        induction j with
        | zero=>intro _ u L' _ hL;simp [exec] at hL
        | succ j ihj =>
          intro hj u L' hu hL x hx
          simp only[exec] at hL
          obtain⟨l1,h1,y,hy,ys,h3,h4⟩:=bindL_mem hL hx
          have hn:=(ih j (by omega) c u l1 (by rw[hu];exact hok) h1).1 y hy
          obtain⟨e,v⟩:=y
          cases e<;>first
           | exact ihj (by omega) v ys (by rw[← hu];exact hn) h3 x h4
           | (simp only[Option.some.injEq] at h3;subst h3;simp only[List.mem_singleton] at h4;rw[h4,← hu];exact hn)
       refine⟨num (k+1) (Nat.le_refl _) t L rfl h,fun C Q hQ=>?_⟩
       refine awp_loop (fun j s=>j≤k+1∧∃ u L',s=u.as∧u.n=t.n∧exec P fs orc j (.loop c) u=some L'∧∀ x∈L',Q x.1 x.2.as) (k+1) ⟨Nat.le_refl _,t,L,rfl,rfl,h,hQ⟩ ?_
       rintro j s ⟨hj,u,L',rfl,hu,hL,hQ'⟩
       cases j with
       | zero=>simp [exec] at hL
       | succ j =>
         simp only[exec] at hL
         obtain⟨l1,h1,h2⟩:=bindL_spec hL
         have g:=ih j (by omega) c u l1 (by rw[hu];exact hok) h1
         refine g.2 C _ fun x hx=>?_
         obtain⟨ys,h3,h4⟩:=h2 x hx
         have hn:=g.1 x hx
         obtain⟨e,v⟩:=x
         cases e<;>first
          | exact⟨j,Nat.lt_succ_self j,by omega,v,ys,rfl,by rw[← hu];exact hn,h3,fun x hx=>hQ' x (h4 x hx)⟩
          | (simp only[Option.some.injEq] at h3;subst h3;exact hQ' _ (h4 _ (by simp)))
     | _=>simp [exec] at h
theorem evalX_ok (hm:P.follows .mixedOrders=true) {fs:List (FuncId × Nat)}(hfs:allOk P fs=true) {orc:Orc}(ho:orcOk P orc) {k:Nat}{F:FuncId}{args:List RV}{r:RV}(hF:fnOkE P F=true) (h:evalX P fs orc k F args=some r):ACalls P F args r:=by
 unfold evalX at h
 split at h
 ·rename_i fn hf
  split at h
  ·rename_i c hb
   exact callA_ok (exec_ok hm hfs ho k) hf hb hF h
  ·cases h
 ·cases h
end
end Go.Oc

namespace Go.Proofs.YtonpmcdkncbjoaaGreat.Bo
open Go Go.Oc
set_option maxRecDepth 8000
set_option maxHeartbeats 4000000
def fourC:List RV:=[i64 60,i64 160,.sl 2 [[i64 990,i64 1]],.sl 2 [[i64 (-1),i64 1],[i64 1,i64 1],[i64 1,i64 (-1)],[i64 (-1),i64 (-1)]],ints [20,6,3,11],i64 0]
def fsW:List (FuncId × Nat):=[(40,0),(66,0),(96,0),(70,0),(98,0),(49,0),(99,0),(77,0),(78,0),(103,0),(100,0),(74,0),(24,0),(101,0),(81,0),(80,0),(76,0),(47,0)]
theorem fsW_ok:allOk Tryz.prog fsW=true:=by kernel_rfl
def wOrc:Orc:=[]
theorem wOrc_ok:orcOk Tryz.prog wOrc:=trivial
theorem win0:ACalls Tryz.prog 40 [i64 0,i64 20,ints [0]] (.bo true):=evalX_ok follows fsW_ok wOrc_ok (k:=200) (by kernel_rfl) (by kernel_rfl)
theorem win1:ACalls Tryz.prog 40 [i64 1,i64 5000,ints [60]] (.bo true):=evalX_ok follows fsW_ok wOrc_ok (k:=200) (by kernel_rfl) (by kernel_rfl)
theorem win2:ACalls Tryz.prog 40 [i64 61,i64 5000,ints [160]] (.bo true):=evalX_ok follows fsW_ok wOrc_ok (k:=200) (by kernel_rfl) (by kernel_rfl)
theorem win3:ACalls Tryz.prog 40 [i64 161,i64 5000,ints [990]] (.bo true):=evalX_ok follows fsW_ok wOrc_ok (k:=200) (by kernel_rfl) (by kernel_rfl)
theorem fac0:ACalls Tryz.prog 98 [.sl 2 [[i64 990,i64 1]],.fn 99 []] (.bo false):=evalX_ok follows fsW_ok wOrc_ok (k:=200) (by kernel_rfl) (by kernel_rfl)
theorem radii_ok:ACalls Tryz.prog 77 [.ag fourC] (.fn 102 [.rp fourC]):=by
 refine zas (rs:=[.fn 102 [.rp fourC]]) [.tmp 2] Tryz.func77 rfl (by kernel_rfl) Tryz.ntmps77 rfl (by simp) rfl fun C vs=>?_
 apply zq
 refine zb fun K hK=>?_;simp only[go_sem,fourC];apply hK;clear hK K;refine zw (zfP 1 1 fourC (by omega) rfl rfl) ?_;apply zw (zk [1]);simp only[go_sem]
 apply zq
 refine zb fun K hK=>?_;simp only[go_sem];apply hK;clear hK K;apply zw (zk [2]);simp only[go_sem];apply ze;simp only[go_sem]
 try exact Du.rv_le _
theorem xcall_yield {n:Nat}{l:List (Nat × AV)}{vs:Nat→Nat}{cs:List (Nat × RowC)}{P:Program}{d:Option Nat}{ll:Nat}{z:Bool}{e:List RV}{rest:List (List RV)}{xs:List AV}{K:AS→Prop}(hrow:lookc cs 999 = .gh P ll z (some (e::rest)))
 (hp:AV.pureL xs=true) (he:snapVL (st n l vs cs).rows xs=e) (hfl:RV.flatL e=true∨z=false) (hK1:K ((st n l vs (insc cs 999 (.gh P ll z (some rest)))).put d (.r (.bo true)))) (hK2:K ((st n l vs (insc cs 999 (.gh P ll z none))).put d (.r (.bo false)))) :
 xcall P false (st n l vs cs) d (.r (.yl ll)) xs K:=by
 have hr:∀ c,(st n l vs cs).row 999 ⟨((st n l vs cs).rows 999).ver,c⟩=st n l vs (insc cs 999 c):=fun c=>by
  rw[row_st]
  congr 1
  exact upd_self vs 999
 exact .inr (.inl ⟨rfl,.inr (.inr (.inl ⟨ll,z,e,rest,rfl,hrow,hp,he▸leL_refl _,hfl,by rw[hr];exact hK1,by rw[hr];exact hK2⟩))⟩)
theorem radii1:ICalls Tryz.prog true 102 [.rp fourC] [[i64 60],[i64 160],[i64 990]]:=by
 refine icalls_st Tryz.func102 rfl (by kernel_rfl) Tryz.ntmps102 rfl (by simp) fun C ll=>?_
 repeat apply zq
 refine zb fun K hK=>?_;simp only[go_sem,argL,fourC]
 refine xcall_yield (z:=true) (e:=[i64 60]) (rest:=[[i64 160],[i64 990]]) (by simp only[go_sem]) rfl (by simp only[go_sem]) (.inl rfl) ?_ ?_
 ·simp only[go_sem]
  refine xcall_yield (z:=true) (e:=[i64 160]) (rest:=[[i64 990]]) (by simp only[go_sem]) rfl (by simp only[go_sem]) (.inl rfl) ?_ ?_
  ·simp only[go_sem];apply hK;clear hK K;apply zw (zk [0,1,16]);simp only[go_sem]
   apply zc rfl<;>intro hc<;>(try simp only[go_sem] at hc)
   apply zx
   try simp only[go_sem]
   apply zq
   refine zb fun K hK=>?_;simp only[go_sem];apply hK;clear hK K;apply zw (zk [0,18,19,20]);simp only[go_sem];apply zd
   refine zuv (n:=30) 1 (fun i vs=>[(0,.r (.yl ll)),(18,.r (.sl 2 [[i64 990,i64 1]])),(19,.r (i64 1)),(20,.r (i64 (i:Int)))])
    (fun i vs=>[(999,.gh Tryz.prog ll true (some (if i=0 then [[i64 990]] else [])))]) (fun _=>True) 0 (zj [] ?_ ?_) (Nat.zero_le _) trivial ?_
   ·try simp only[go_sem]
   ·try simp only[go_sem]
    try rfl
   intro i vs hi _
   have:i=0∨i=1:=by omega
   rcases this with rfl|rfl
   ·apply zq
    refine zb fun K hK=>?_;simp only[go_sem];apply hK;clear hK K;apply zw (zk [0,18,19,20,21]);simp only[go_sem]
    apply zq
    apply zc rfl<;>intro hc<;>(try simp only[go_sem] at hc)
    apply zx
    try simp only[go_sem]
    apply zq
    apply zd
    apply zq
    refine zb fun K hK=>?_;simp only[go_sem];apply hK;clear hK K;refine zw (zfP 4 4 [i64 990,i64 1] (by omega) rfl rfl) ?_;apply zw (zk [0,4,18,19,20]);simp only[go_sem]
    apply zq
    refine zb fun K hK=>?_;simp only[go_sem,if_true]
    refine xcall_yield (z:=true) (e:=[i64 990]) (rest:=[]) (by simp only[go_sem,if_true]) rfl (by simp only[go_sem]) (.inl rfl) ?_ ?_
    ·simp only[go_sem];apply hK;clear hK K;apply zw (zk [0,18,19,20,28]);simp only[go_sem]
     apply zc rfl<;>intro hc<;>(try simp only[go_sem] at hc)
     apply zx
     try simp only[go_sem]
     refine zb fun K hK=>?_;simp only[go_sem];(try simp (disch:=omega) only[zI]);apply hK;clear hK K
     try simp only[go_sem]
     refine zj [] ?_ ?_
     ·try simp only[go_sem]
      try rfl
     ·try simp only[go_sem]
      try rfl
    ·simp only[go_sem];apply hK;clear hK K;apply zw (zk [28]);simp only[go_sem]
     apply zc rfl<;>intro hc<;>(try simp only[go_sem] at hc)
     apply ze;simp only[go_sem];exact⟨_,_,.inr rfl⟩
   ·apply zq
    refine zb fun K hK=>?_;simp only[go_sem];apply hK;clear hK K;apply zw (zk [21]);simp only[go_sem]
    apply zq
    apply zc rfl<;>intro hc<;>(try simp only[go_sem] at hc)
    apply zf;simp only[go_sem];exact⟨ll,true,.inl rfl⟩
  ·simp only[go_sem];apply hK;clear hK K;apply zw (zk [16]);simp only[go_sem]
   apply zc rfl<;>intro hc<;>(try simp only[go_sem] at hc)
   apply ze;simp only[go_sem];exact⟨_,_,.inr rfl⟩
 ·simp only[go_sem];apply hK;clear hK K;apply zw (zk [16]);simp only[go_sem]
  apply zc rfl<;>intro hc<;>(try simp only[go_sem] at hc)
  apply ze;simp only[go_sem];exact⟨_,_,.inr rfl⟩
def lastN:Nat→Int
 | 0=>0
 | 1=>60
 | 2=>160
 | _=>990
theorem rings_ok:ACalls Tryz.prog 73 [.ag fourC] (.bo true):=by
 have h0:=win0
 have h1:=win1
 have h2:=win2
 have h3:=win3
 have hf:=fac0
 have hra:=radii_ok
 have z1:((1:Int) == 0)=false:=rfl
 refine acalls_stR (rs:=[.bo true]) [.cell 2 4] Tryz.func73 rfl (by kernel_rfl) Tryz.ntmps73 rfl (by simp) rfl fun C hC vs=>?_
 apply zq
 refine zb fun K hK=>?_;simp only[go_sem,fourC];apply hK;clear hK K;refine zw (zfP 1 1 fourC (by omega) rfl rfl) ?_;apply zw (zk [1,2]);simp only[go_sem]
 repeat apply zq
 refine zb fun K hK=>?_;simp only[go_sem,fourC,z1]
 refine zh (h0) rfl (by simp only[go_sem,i64,ints,fourC,z1]) (by simp only[go_sem,i64,ints,fourC,z1]) ?_
 (try simp only[go_sem,fourC,z1])
 refine zh (hf) rfl (by simp only[go_sem,i64,ints,fourC,z1]) (by simp only[go_sem,i64,ints,fourC,z1]) ?_
 (try simp only[go_sem,fourC,z1]);apply hK;clear hK K;apply zw (zk [1,2,20]);simp only[go_sem]
 apply zc rfl<;>intro hc<;>(try simp only[go_sem] at hc)
 apply zx
 try simp only[go_sem]
 apply zq
 refine zb fun K hK=>?_;simp only[go_sem,fourC];(try simp (disch:=omega) only[zI]);apply hK;clear hK K;apply zw (zk [1,2,3]);simp only[go_sem]
 repeat apply zq
 refine zb fun K hK=>?_;simp only[go_sem]
 refine zh (hra) rfl (by simp only[go_sem,i64,ints,fourC]) (by simp only[go_sem,i64,ints,fourC]) ?_
 (try simp only[go_sem,fourC]);apply hK;clear hK K;apply zw (zk [1,2,3,25]);simp only[go_sem];apply zd
 refine awp_rangeF hC [[i64 60],[i64 160],[i64 990]] radii1 [1,2,3,25] (by decide) (fun vs=>[(1,.r (.rp fourC)),(2,.pt 2 (vs 2) 0),(3,.pt 3 (vs 3) 0),(25,.r (.fn 102 [.rp fourC]))])
  (fun i vs=>[(2,.box [.r (.bo false)]),(3,.box [.r (i64 (lastN i))])]) (fun _=>True) (zj [] ?_ ?_) trivial (fun _=>rfl) (fun _=>rfl) (fun _ _=>rfl) (by simp) (fun e he=>by simp only[List.mem_cons,List.not_mem_nil,or_false] at he;rcases he with rfl|rfl|rfl<;>rfl) ?_ ?_
 ·try simp only[go_sem]
  first|exact⟨rfl,rfl⟩|rfl
 ·try simp only[go_sem]
  try rfl
 ·intro i e vs us C' he _
  have hi:i=0∨i=1∨i=2:=by
   have:=(List.getElem?_eq_some_iff.1 he).1
   simp at this
   omega
  rcases hi with rfl|rfl|rfl
  ·simp only[List.getElem?_cons_zero,Option.some.injEq] at he
   subst he
   refine zb fun K hK=>?_;simp only[go_sem];apply hK;clear hK K
   refine⟨rfl,fun C'=>?_⟩
   apply zw (zk [1,2,3,4]);simp only[go_sem];apply zd
   repeat apply zq
   refine zb fun K hK=>?_;simp only[go_sem,lastN,fourC];(try simp (disch:=omega) only[zI])
   refine zh (h1) rfl (by simp only[go_sem,i64,ints,lastN]) (by simp only[go_sem,i64,ints,lastN]) ?_
   (try simp only[go_sem,lastN]);apply hK;clear hK K;apply zw (zk [1,2,3,4,36]);simp only[go_sem]
   apply zc rfl<;>intro hc<;>(try simp only[go_sem] at hc)
   apply zx
   try simp only[go_sem]
   refine zb fun K hK=>?_;simp only[go_sem];apply hK;clear hK K
   try simp only[go_sem]
   refine zj (F:=fun _=>[]) [] ?_ ?_
   ·try simp only[go_sem]
   ·try simp only[go_sem]
    try rfl
  ·simp only[List.getElem?_cons_succ,List.getElem?_cons_zero,Option.some.injEq] at he
   subst he
   refine zb fun K hK=>?_;simp only[go_sem];apply hK;clear hK K
   refine⟨rfl,fun C'=>?_⟩
   apply zw (zk [1,2,3,4]);simp only[go_sem];apply zd
   repeat apply zq
   refine zb fun K hK=>?_;simp only[go_sem,lastN,fourC];(try simp (disch:=omega) only[zI])
   refine zh (h2) rfl (by simp only[go_sem,i64,ints,lastN]) (by simp only[go_sem,i64,ints,lastN]) ?_
   (try simp only[go_sem,lastN]);apply hK;clear hK K;apply zw (zk [1,2,3,4,36]);simp only[go_sem]
   apply zc rfl<;>intro hc<;>(try simp only[go_sem] at hc)
   apply zx
   try simp only[go_sem]
   refine zb fun K hK=>?_;simp only[go_sem];apply hK;clear hK K
   try simp only[go_sem]
   refine zj (F:=fun _=>[]) [] ?_ ?_
   ·try simp only[go_sem]
   ·try simp only[go_sem]
    try rfl
  ·simp only[List.getElem?_cons_succ,List.getElem?_cons_zero,Option.some.injEq] at he
   subst he
   refine zb fun K hK=>?_;simp only[go_sem];apply hK;clear hK K
   refine⟨rfl,fun C'=>?_⟩
   apply zw (zk [1,2,3,4]);simp only[go_sem];apply zd
   repeat apply zq
   refine zb fun K hK=>?_;simp only[go_sem,lastN,fourC];(try simp (disch:=omega) only[zI])
   refine zh (h3) rfl (by simp only[go_sem,i64,ints,lastN]) (by simp only[go_sem,i64,ints,lastN]) ?_
   (try simp only[go_sem,lastN]);apply hK;clear hK K;apply zw (zk [1,2,3,4,36]);simp only[go_sem]
   apply zc rfl<;>intro hc<;>(try simp only[go_sem] at hc)
   apply zx
   try simp only[go_sem]
   refine zb fun K hK=>?_;simp only[go_sem];apply hK;clear hK K
   try simp only[go_sem]
   refine zj (F:=fun _=>[]) [] ?_ ?_
   ·try simp only[go_sem]
   ·try simp only[go_sem]
    try rfl
 ·intro vs us _
  try simp only[go_sem]
  refine zw (sub_wake rfl) ?_
  apply zq
  refine zb fun K hK=>?_;simp only[go_sem];apply hK;clear hK K;apply zw (zk [2]);simp only[go_sem];apply ze;simp only[go_sem]
theorem wire_ok:ACalls Tryz.prog 48 [.ag fourC,.ag [i64 500,i64 500]] (.bo false):=by
 have z0:((0:Int) == 0)=true:=rfl
 refine acalls_stR (rs:=[.bo false]) [.cell 4 4] Tryz.func48 rfl (by kernel_rfl) Tryz.ntmps48 rfl (by simp) rfl fun C hC vs=>?_
 apply zq
 refine zb fun K hK=>?_;simp only[go_sem,fourC];apply hK;clear hK K;refine zw (zfP 2 2 fourC (by omega) rfl rfl) ?_;apply zw (zk [2,4]);simp only[go_sem]
 repeat apply zq
 refine zb fun K hK=>?_;simp only[go_sem,fourC,z0];apply hK;clear hK K;apply zw (zk [4,11]);simp only[go_sem]
 apply zc rfl<;>intro hc<;>(try simp only[go_sem] at hc)
 apply zq
 refine zb fun K hK=>?_;simp only[go_sem];apply hK;clear hK K;apply zw (zk [4]);simp only[go_sem];apply ze;simp only[go_sem]
theorem num0:ACalls Tryz.prog 40 [i64 1,i64 20,ints [20]] (.bo true):=evalX_ok follows fsW_ok wOrc_ok (k:=200) (by kernel_rfl) (by kernel_rfl)
theorem num1:ACalls Tryz.prog 40 [i64 1,i64 20,ints [6]] (.bo true):=evalX_ok follows fsW_ok wOrc_ok (k:=200) (by kernel_rfl) (by kernel_rfl)
theorem num2:ACalls Tryz.prog 40 [i64 1,i64 20,ints [3]] (.bo true):=evalX_ok follows fsW_ok wOrc_ok (k:=200) (by kernel_rfl) (by kernel_rfl)
theorem num3:ACalls Tryz.prog 40 [i64 1,i64 20,ints [11]] (.bo true):=evalX_ok follows fsW_ok wOrc_ok (k:=200) (by kernel_rfl) (by kernel_rfl)
def numN:Nat→Int
 | 0=>20
 | 1=>6
 | 2=>3
 | _=>11
def mapN:Nat→List (RV × RV)
 | 0=>[]
 | 1=>[(i64 20,.bo true)]
 | 2=>[(i64 20,.bo true),(i64 6,.bo true)]
 | 3=>[(i64 20,.bo true),(i64 6,.bo true),(i64 3,.bo true)]
 | _=>[(i64 20,.bo true),(i64 6,.bo true),(i64 3,.bo true),(i64 11,.bo true)]
theorem numN_ok:∀ i,i<4→ACalls Tryz.prog 40 [i64 1,i64 20,ints [numN i]] (.bo true)
 | 0,_=>num0
 | 1,_=>num1
 | 2,_=>num2
 | 3,_=>num3
 | n+4,h=>by omega
theorem numN_at:∀ i,i<4→([20,6,3,11]:List Int)[i]? = some (numN i)
 | 0,_=>rfl
 | 1,_=>rfl
 | 2,_=>rfl
 | 3,_=>rfl
 | n+4,h=>by omega
theorem numN_new:∀ i,i<4→findK (i64 (numN i)) (mapN i) 0=some none
 | 0,_=>rfl
 | 1,_=>rfl
 | 2,_=>rfl
 | 3,_=>rfl
 | n+4,h=>by omega
theorem mapN_succ:∀ i,i<4→mapN (i+1)=mapN i++[(i64 (numN i),.bo true)]
 | 0,_=>rfl
 | 1,_=>rfl
 | 2,_=>rfl
 | 3,_=>rfl
 | n+4,h=>by omega
theorem numbers_ok:ACalls Tryz.prog 75 [.ag fourC] (.bo true):=by
 refine zas (rs:=[.bo true]) [.tmp 2] Tryz.func75 rfl (by kernel_rfl) Tryz.ntmps75 rfl (by simp) rfl fun C vs=>?_
 apply zq
 refine zb fun K hK=>?_;simp only[go_sem,fourC];apply hK;clear hK K;refine zw (zfP 1 1 fourC (by omega) rfl rfl) ?_;apply zw (zk [1]);simp only[go_sem]
 apply zq
 refine zb fun K hK=>?_;simp only[go_sem];apply hK;clear hK K;apply zw (zk [1,3]);simp only[go_sem]
 repeat apply zq
 refine zb fun K hK=>?_;simp only[go_sem,fourC];apply hK;clear hK K;apply zw (zk [1,3,8,9,10]);simp only[go_sem];apply zd
 refine zuv (n:=33) 4 (fun i vs=>[(1,.r (.rp fourC)),(3,.mp 6 (vs 6)),(8,.r (ints [20,6,3,11])),(9,.r (i64 4)),(10,.r (i64 (i:Int)))])
  (fun i vs=>[(6,.mp (mapN i))]) (fun _=>True) 0 (zj [] ?_ ?_) (Nat.zero_le _) trivial ?_
 ·try simp only[go_sem]
  try rfl
 ·try simp only[go_sem]
  try rfl
 intro i vs hi _
 by_cases hin:i<4
 ·have h1:=numN_ok i hin
  have h2:=numN_at i hin
  have h3:=numN_new i hin
  have h4:=mapN_succ i hin
  rw[h4]
  have c1:decide ((i:Int)<4)=true:=decide_eq_true (by omega)
  have hl:i<([20,6,3,11]:List Int).length:=hin
  have w1:IntKind.i64.wrap ((i:Int)+1)=(i:Int)+1:=by rw[zI]<;>omega
  generalize hL:([20,6,3,11]:List Int)=L at *
  generalize numN i=q at *
  generalize mapN i=M at *
  have hL4:L.length=4:=by rw[← hL];rfl
  apply zq
  refine zb fun K hK=>?_;simp only[go_sem,c1,hin];apply hK;clear hK K;apply zw (zk [1,3,8,9,10,11]);simp only[go_sem]
  apply zq
  apply zc rfl<;>intro hc<;>(try simp only[go_sem] at hc)
  apply zx
  try simp only[go_sem]
  apply zq
  apply zd
  apply zq
  refine zb fun K hK=>?_;simp only[go_sem,h2,hl,hL4,List.length_map]
  refine⟨by omega,?_⟩
  apply hK;clear hK K;apply zw (zk [1,3,5,8,9,10]);simp only[go_sem]
  repeat apply zq
  refine zb fun K hK=>?_;simp only[go_sem,h3]
  refine zh (h1) rfl (by simp only[go_sem,i64,ints,h3]) (by simp only[go_sem,i64,ints,h3]) ?_
  (try simp only[go_sem,h3]);apply hK;clear hK K;apply zw (zk [1,3,5,8,9,10,22]);simp only[go_sem]
  apply zc rfl<;>intro hc<;>(try simp only[go_sem] at hc)
  apply zx
  try simp only[go_sem]
  refine zb fun K hK=>?_;simp only[go_sem,h3];apply hK;clear hK K;apply zw (zk [1,3,8,9,10]);simp only[go_sem];refine zb fun K hK=>?_;simp only[go_sem,w1];apply hK;clear hK K
  try simp only[go_sem]
  refine⟨by omega,zj [] ?_ ?_⟩
  ·try simp only[go_sem]
  ·try simp only[go_sem]
 ·have hie:i=4:=by omega
  subst hie
  apply zq
  refine zb fun K hK=>?_;simp only[go_sem];apply hK;clear hK K;apply zw (zk [1,11]);simp only[go_sem]
  apply zq
  apply zc rfl<;>intro hc<;>(try simp only[go_sem] at hc)
  apply zf;simp only[go_sem]
  apply zq
  refine zb fun K hK=>?_;simp only[go_sem,fourC];apply hK;clear hK K;apply zw (zk [2]);simp only[go_sem];apply ze;simp only[go_sem]
def fsB:List (FuncId × Nat):=[(40,0),(66,0),(96,0),(70,0),(98,0),(49,0),(99,0),(77,0),(78,0),(103,0),(100,0),(74,0),(24,0),(101,0),(81,0),(80,0),(76,0),(47,0),(11,0),(23,0),(25,0),(46,0),(50,0),(51,0)]
theorem fsB_ok:allOk Tryz.prog fsB=true:=by kernel_rfl
def bOrc:Orc:=[(73,[.ag fourC],.bo true),(75,[.ag fourC],.bo true),(48,[.ag fourC,.ag [i64 500,i64 500]],.bo false)]
theorem bOrc_ok:orcOk Tryz.prog bOrc:=⟨rings_ok,numbers_ok,wire_ok,trivial⟩
theorem bed_ok:ACalls Tryz.prog 11 [.ag fourC,.ag [i64 500,i64 500]] (.tu [i64 106,.bo false,i64 0]):=evalX_ok follows fsB_ok bOrc_ok (k:=400) (by kernel_rfl) (by kernel_rfl)
open Go Go.Oc Go.Proofs.YtonpmcdkncbjoaaGreat.Du
theorem bwithin1_ok (n a b:Int):ACalls Tryz.prog 70 [i64 n,.rp [i64 a],.rp [i64 b]] (.bo (decide (n<a) || decide (b<n))):=by
 refine zas (rs:=[.bo (decide (n<a) || decide (b<n))]) [.tmp 4] Tryz.func70 rfl (by kernel_rfl) Tryz.ntmps70 rfl (by simp) rfl fun C vs=>?_
 apply zq
 refine zb fun K hK=>?_;simp only[go_sem];apply hK
 apply zq
 refine zb fun K hK=>?_;simp only[go_sem]
 refine⟨fun h=>?_,fun h=>?_⟩ <;>
 ·skip
  apply hK;apply ze;simp only[go_sem]
  try simp [h]
theorem bwithin_ok (a b:Int) (l:List Int):ACalls Tryz.prog 40 [i64 a,i64 b,ints l] (.bo (withinL a b l)):=by
 refine zas (rs:=[.bo (withinL a b l)]) [.tmp 6] Tryz.func40 rfl (by kernel_rfl) Tryz.ntmps40 rfl (by simp) rfl fun C vs=>?_
 apply zq
 refine zb fun K hK=>?_;simp only[go_sem];apply hK
 apply zq
 refine zb fun K hK=>?_;simp only[go_sem]
 refine zh (contains_ok (fun n=>decide (n<a) || decide (b<n)) 70 [.rp [i64 a],.rp [i64 b]] l fun x _=>bwithin1_ok x a b) rfl (by simp only[go_sem,i64,ints]) (by simp only[go_sem,i64,ints]) ?_
 (try simp only[go_sem]);apply hK;apply ze;simp only[go_sem];rw[← withinL_not]
theorem within_all {a b:Int}{l:List Int}(h:∀ x∈l,a≤x∧x≤b):withinL a b l=true:=by
 unfold withinL
 exact List.all_eq_true.2 fun x hx=>by have:=h x hx;simp only[Bool.and_eq_true,decide_eq_true_eq];omega
theorem idx1_ok (f:Nat) (caps:List RV) (l:List Int) (h:ACalls Tryz.prog f (ints l::caps) (.bo false)):ACalls Tryz.prog 69 [.sl 1 [[ints l]],.fn f caps] (i64 (-1)):=by
 refine zas (rs:=[i64 (-1)]) [.tmp 4] Tryz.func69 rfl (by kernel_rfl) Tryz.ntmps69 rfl (by simp) rfl fun C vs=>?_
 apply zq
 refine zb fun K hK=>?_;simp only[go_sem];apply hK
 repeat apply zq
 refine zb fun K hK=>?_;simp only[go_sem];apply hK;apply zd
 refine zup (n:=19) 1 (fun i vs=>[(0,.r (.sl 1 [[ints l]])),(1,.r (.fn f caps)),(7,.r (i64 1)),(8,.r (i64 (i:Int)))]) (fun _=>[])
  (fun _=>True) 0 (zfo [] ?_ rfl) (Nat.zero_le _) trivial ?_
 ·try simp only[go_sem]
  try rfl
 ·intro i vs hi _
  have:i=0∨i=1:=by omega
  rcases this with rfl|rfl
  ·apply zq
   refine zb fun K hK=>?_;simp only[go_sem];apply hK;apply zw (zk [0,1,7,8,9]);simp only[go_sem]
   apply zq
   apply zc rfl<;>intro hc<;>(try simp only[go_sem] at hc)
   apply zx
   try simp only[go_sem]
   apply zq
   apply zd
   apply zq
   refine zb fun K hK=>?_;simp only[go_sem];apply hK;apply zw (zk [0,1,5,7,8]);simp only[go_sem]
   apply zq
   refine zb fun K hK=>?_;simp only[go_sem]
   refine zh (h) rfl (by simp only[go_sem,i64,ints]) (by simp only[go_sem,i64,ints]) ?_
   (try simp only[go_sem]);apply hK;apply zw (zk [0,1,5,7,8,16]);simp only[go_sem]
   apply zc rfl<;>intro hc<;>(try simp only[go_sem] at hc)
   apply zx
   try simp only[go_sem]
   refine zb fun K hK=>?_;simp only[go_sem];(try simp (disch:=omega) only[zI]);apply hK
   try simp only[go_sem]
   refine zfo [] ?_ rfl
   try simp only[go_sem]
  ·apply zq
   refine zb fun K hK=>?_;simp only[go_sem];apply hK;apply zw (zk [9]);simp only[go_sem]
   apply zq
   apply zc rfl<;>intro hc<;>(try simp only[go_sem] at hc)
   apply zf;simp only[go_sem]
   apply zq
   refine zb fun K hK=>?_;simp only[go_sem];apply hK;apply zw (zk [4]);simp only[go_sem];apply ze;simp only[go_sem]
theorem cont1_ok (f:Nat) (caps:List RV) (l:List Int) (h:ACalls Tryz.prog f (ints l::caps) (.bo false)):ACalls Tryz.prog 38 [.sl 1 [[ints l]],.fn f caps] (.bo false):=by
 refine zas (rs:=[.bo false]) [.tmp 4] Tryz.func38 rfl (by kernel_rfl) Tryz.ntmps38 rfl (by simp) rfl fun C vs=>?_
 apply zq
 refine zb fun K hK=>?_;simp only[go_sem];apply hK
 apply zq
 refine zb fun K hK=>?_;simp only[go_sem]
 refine zh (idx1_ok f caps l h) rfl (by simp only[go_sem,i64,ints]) (by simp only[go_sem,i64,ints]) ?_
 (try simp only[go_sem]);apply hK;apply ze;simp only[go_sem]
theorem watch1_ok (l:List Int) (n:Int) (h:(l.length:Int)=n):ACalls Tryz.prog 39 [ints l,.rp [i64 n]] (.bo false):=by
 have e:((l.length:Int) != n)=false:=by rw[h];simp
 refine zas (rs:=[.bo false]) [.tmp 3] Tryz.func39 rfl (by kernel_rfl) Tryz.ntmps39 rfl (by simp) rfl fun C vs=>?_
 apply zq
 refine zb fun K hK=>?_;simp only[go_sem];apply hK
 apply zq
 refine zb fun K hK=>?_;simp only[go_sem,e]
 intro _
 apply hK;apply ze;simp only[go_sem]
 try simp [h]
theorem watch2_ok (l:List Int) (h:∀ x∈l,0≤x∧x≤1000000):ACalls Tryz.prog 41 [ints l] (.bo false):=by
 have e:=within_all h
 refine zas (rs:=[.bo false]) [.tmp 2] Tryz.func41 rfl (by kernel_rfl) Tryz.ntmps41 rfl (by simp) rfl fun C vs=>?_
 apply zq
 refine zb fun K hK=>?_;simp only[go_sem];apply hK
 apply zq
 refine zb fun K hK=>?_;simp only[go_sem]
 refine zh (bwithin_ok 0 1000000 l) rfl (by simp only[go_sem,i64,ints,e]) (by simp only[go_sem,i64,ints,e]) ?_
 (try simp only[go_sem,e]);apply hK;apply ze;simp only[go_sem]
 try simp [e]
def maxI (l:List Int):Int:=l.foldl max (l.headD 0)
theorem max_ok (l:List Int) (h:l≠[]) (hl:l.length≤1000000):ACalls Tryz.prog 20 [ints l] (i64 (maxI l)):=by
 have hp:0<l.length:=List.length_pos_iff.2 h
 have d0:decide ((l.length:Int)<1)=false:=by simp;omega
 obtain⟨x0,hx0⟩:=zol hp
 have hhd:l.headD 0=x0:=by cases l with|nil=>exact absurd rfl h|cons a l=>simpa using hx0
 have hs:∀ i v,l[i]? = some v→(l.take (i+1)).foldl max x0=max ((l.take i).foldl max x0) v:=fun i v hv=>by
  rw[List.take_add_one,hv];simp
 refine zas (rs:=[i64 (maxI l)]) [.tmp 2] Tryz.func20 rfl (by kernel_rfl) Tryz.ntmps20 rfl (by simp) rfl fun C vs=>?_
 apply zq
 refine zb fun K hK=>?_;simp only[go_sem];apply hK;apply zw (zk [0]);simp only[go_sem]
 repeat apply zq
 refine zb fun K hK=>?_;simp only[go_sem,d0]
 intro _
 apply hK;apply zw (zk [0,7]);simp only[go_sem]
 apply zc rfl<;>intro hc<;>(try simp only[go_sem] at hc)
 apply zx
 try simp only[go_sem]
 apply zq
 refine zb fun K hK=>?_;simp only[go_sem,hx0]
 refine⟨by omega,?_⟩
 apply hK;apply zw (zk [0,3]);simp only[go_sem]
 repeat apply zq
 refine zb fun K hK=>?_;simp only[go_sem];apply hK;apply zw (zk [0,3,4]);simp only[go_sem];apply zd
 refine zup (n:=25) l.length (fun i vs=>[(0,.r (ints l)),(3,.r (i64 ((l.take i).foldl max x0))),(4,.r (i64 i))])
  (fun i=>[]) (fun _=>True) 1 (zfo [] ?_ ?_) (by omega) trivial ?_
 ·try simp only[go_sem]
  rw[show (1:Nat)=0+1 from rfl,hs 0 x0 hx0];simp
 ·try simp only[go_sem]
 ·intro i vs hi _
  repeat apply zq
  refine zb fun K hK=>?_;simp only[go_sem]
  intro _
  apply hK;apply zw (zk [0,3,4,15]);simp only[go_sem]
  apply zc rfl<;>intro hc<;>(try simp only[go_sem] at hc)
  ·have hci:i<l.length:=by omega
   obtain⟨v,hv⟩:=zol hci
   apply zx
   try simp only[go_sem]
   apply zq
   apply zd;refine zb fun K hK=>?_;simp only[go_sem,hv]
   refine⟨by omega,?_⟩
   apply hK;apply zw (zk [0,3,4]);simp only[go_sem];refine zb fun K hK=>?_;simp only[go_sem];(try simp (disch:=omega) only[zI]);apply hK
   try simp only[go_sem]
   refine⟨by omega,zfo [] ?_ ?_⟩
   ·try simp only[go_sem]
    rw[hs i v hv]
   ·try simp only[go_sem]
  ·have hil:i=l.length:=by omega
   apply zf;simp only[go_sem]
   apply zq
   refine zb fun K hK=>?_;simp only[go_sem];apply hK;apply zw (zk [2]);simp only[go_sem];apply ze;simp only[go_sem];rw[maxI,hhd,hil,List.take_length]
theorem foldl_maxge:∀ {l:List Int}{x:Int},x≤l.foldl max x∧∀ y∈l,y≤l.foldl max x
 | [],x=>by simp
 | z::l, x=>by
   obtain⟨h1,h2⟩:=foldl_maxge (l:=l) (x:=max x z)
   simp only[List.foldl_cons]
   refine⟨by omega,fun y hy=>?_⟩
   rcases List.mem_cons.1 hy with rfl|hy
   ·omega
   ·exact h2 y hy
theorem foldl_maxmem:∀ {l:List Int}{x:Int},l.foldl max x=x∨l.foldl max x∈l
 | [],x=>by simp
 | z::l, x=>by
   rcases foldl_maxmem (l:=l) (x:=max x z) with h|h
   ·simp only[List.foldl_cons,h]
    by_cases hz:z≤x
    ·left;omega
    ·right;rw[show max x z=z by omega];simp
   ·right;simp [h]
theorem maxI_mem {l:List Int}(h:l≠[]):maxI l∈l:=by
 cases l with
 | nil=>exact absurd rfl h
 | cons x l =>
   unfold maxI
   simp only[List.headD_cons]
   rcases foldl_maxmem (l:=x::l) (x:=x) with h|h
   ·rw[h];simp
   ·exact h
theorem most_ok (t:RV) (l:List Int) (h:l≠[]) (hl:l.length≤1000000):ACalls Tryz.prog 22 [.ag [t,ints l]] (i64 (maxI l)):=by
 have hm:=max_ok l h hl
 refine zas (rs:=[i64 (maxI l)]) [.tmp 2] Tryz.func22 rfl (by kernel_rfl) Tryz.ntmps22 rfl (by simp) rfl fun C vs=>?_
 apply zq
 refine zb fun K hK=>?_;simp only[go_sem];apply hK;apply zw (zk [1]);simp only[go_sem]
 apply zq
 refine zb fun K hK=>?_;simp only[go_sem]
 refine zh (hm) rfl (by simp only[go_sem,i64,ints]) (by simp only[go_sem,i64,ints]) ?_
 (try simp only[go_sem]);apply hK;apply zw (zk [2]);simp only[go_sem];apply ze;simp only[go_sem]
set_option maxRecDepth 100000
def lnW:List (Int × Int):=[(-156,988),(156,988),(454,891),(707,707),(891,454),(988,156),(988,-156),(891,-454),(707,-707),(454,-891),(156,-988),(-156,-988),(-454,-891),(-707,-707),(-891,-454),(-988,-156),(-988,156),(-891,454),(-707,707),(-454,891)]
abbrev lnR:RV:=.sl 2 (lnW.map fun p=>[i64 p.1,i64 p.2])
def rgW:List (Int × Int):=[(990,1),(1070,3),(1620,1),(1700,2)]
abbrev rgR:RV:=.sl 2 (rgW.map fun p=>[i64 p.1,i64 p.2])
def armC:List RV:=[i64 64,i64 159,rgR,lnR,ints nbW,i64 0]
def fsC:List (FuncId × Nat):=[(4,0)]
theorem fsC_ok:allOk Tryz.prog fsC=true:=by kernel_rfl
theorem board_ok:ACalls Tryz.prog 4 [.ag [.it .u8 1,.it .u8 3,.it .u8 1,.it .u8 2],.it .u8 0] (.ag armC):=evalX_ok follows fsC_ok wOrc_ok (k:=2000) (by kernel_rfl) (by kernel_rfl)
theorem linesC:ACalls Tryz.prog 74 [lnR] (.bo true):=evalX_ok follows fsW_ok wOrc_ok (k:=2000) (by kernel_rfl) (by kernel_rfl)
theorem facC:ACalls Tryz.prog 98 [rgR,.fn 99 []] (.bo false):=evalX_ok follows fsW_ok wOrc_ok (k:=400) (by kernel_rfl) (by kernel_rfl)
set_option maxRecDepth 8000
theorem radiiC_ok:ACalls Tryz.prog 77 [.ag armC] (.fn 102 [.rp armC]):=by
 refine zas (rs:=[.fn 102 [.rp armC]]) [.tmp 2] Tryz.func77 rfl (by kernel_rfl) Tryz.ntmps77 rfl (by simp) rfl fun C vs=>?_
 apply zq
 refine zb fun K hK=>?_;simp only[go_sem,armC];apply hK;refine zw (zfP 1 1 armC (by omega) rfl rfl) ?_;apply zw (zk [1]);simp only[go_sem]
 apply zq
 refine zb fun K hK=>?_;simp only[go_sem];apply hK;apply zw (zk [2]);simp only[go_sem];apply ze;simp only[go_sem]
 try exact Du.rv_le _
abbrev rdL (i:Nat):List (List RV):=(rgW.drop i).map fun p=>[i64 p.1]
theorem radC1:ICalls Tryz.prog true 102 [.rp armC] ([[i64 64],[i64 159]]++rdL 0):=by
 refine icalls_st Tryz.func102 rfl (by kernel_rfl) Tryz.ntmps102 rfl (by simp) fun C ll=>?_
 have hl4:rgW.length=4:=rfl
 repeat apply zq
 refine zb fun K hK=>?_;simp only[go_sem,argL,armC]
 refine xcall_yield (z:=true) (e:=[i64 64]) (rest:=[[i64 159]]++rdL 0) (by simp only[go_sem,List.cons_append,List.nil_append]) rfl (by simp only[go_sem]) (.inl rfl) ?_ ?_
 ·simp only[go_sem]
  refine xcall_yield (z:=true) (e:=[i64 159]) (rest:=rdL 0) (by simp only[go_sem,List.cons_append,List.nil_append]) rfl (by simp only[go_sem]) (.inl rfl) ?_ ?_
  ·simp only[go_sem];apply hK;apply zw (zk [0,1,16]);simp only[go_sem]
   apply zc rfl<;>intro hc<;>(try simp only[go_sem] at hc)
   apply zx
   try simp only[go_sem]
   apply zq
   refine zb fun K hK=>?_;simp only[go_sem]
   intro _
   apply hK;apply zw (zk [0,18,19,20]);simp only[go_sem];apply zd
   refine zuv (n:=30) 4 (fun i vs=>[(0,.r (.yl ll)),(18,.r rgR),(19,.r (i64 4)),(20,.r (i64 (i:Int)))])
    (fun i vs=>[(999,.gh Tryz.prog ll true (some (rdL i)))]) (fun _=>True) 0 (zj [] ?_ ?_) (Nat.zero_le _) trivial ?_
   ·try simp only[go_sem]
    try rfl
   ·try simp only[go_sem]
    try rfl
   intro i vs hi _
   by_cases hin:i<4
   ·obtain⟨p,hp⟩:=zol (l:=rgW) (i:=i) (by rw[hl4];exact hin)
    have hrd:rdL i=[i64 p.1]::rdL (i+1):=by
     show (rgW.drop i).map _=_
     rw[drop_of_opt hp];rfl
    have hlt:i<rgW.length:=by rw[hl4];exact hin
    have c1:decide ((i:Int)<4)=true:=decide_eq_true (by omega)
    rw[hrd]
    generalize rdL (i+1)=RD at *
    apply zq
    refine zb fun K hK=>?_;simp only[go_sem,c1,hin];apply hK;apply zw (zk [0,18,19,20,21]);simp only[go_sem]
    apply zq
    apply zc rfl<;>intro hc<;>(try simp only[go_sem] at hc)
    apply zx
    try simp only[go_sem]
    apply zq
    apply zd
    apply zq
    refine zb fun K hK=>?_;simp only[go_sem,hp,hlt,List.length_map];apply hK;refine zw (zfP 4 4 [i64 p.1,i64 p.2] (by omega) rfl rfl) ?_;apply zw (zk [0,4,18,19,20]);simp only[go_sem]
    apply zq
    refine zb fun K hK=>?_;simp only[go_sem]
    refine xcall_yield (z:=true) (e:=[i64 p.1]) (rest:=RD) (by simp only[go_sem]) rfl (by simp only[go_sem]) (.inl rfl) ?_ ?_
    ·simp only[go_sem];apply hK;apply zw (zk [0,18,19,20,28]);simp only[go_sem]
     apply zc rfl<;>intro hc<;>(try simp only[go_sem] at hc)
     apply zx
     try simp only[go_sem]
     refine zb fun K hK=>?_;simp only[go_sem];(try simp (disch:=omega) only[zI]);apply hK
     try simp only[go_sem]
     refine⟨by omega,zj [] ?_ ?_⟩
     ·try simp only[go_sem]
     ·try simp only[go_sem]
    ·simp only[go_sem];apply hK;apply zw (zk [28]);simp only[go_sem]
     apply zc rfl<;>intro hc<;>(try simp only[go_sem] at hc)
     apply ze;simp only[go_sem];exact⟨_,_,.inr rfl⟩
   ·have hie:i=4:=by omega
    subst hie
    apply zq
    refine zb fun K hK=>?_;simp only[go_sem];apply hK;apply zw (zk [21]);simp only[go_sem]
    apply zq
    apply zc rfl<;>intro hc<;>(try simp only[go_sem] at hc)
    apply zf;simp only[go_sem];exact⟨ll,true,.inl rfl⟩
  ·simp only[go_sem];apply hK;apply zw (zk [16]);simp only[go_sem]
   apply zc rfl<;>intro hc<;>(try simp only[go_sem] at hc)
   apply ze;simp only[go_sem];exact⟨_,_,.inr rfl⟩
 ·simp only[go_sem];apply hK;apply zw (zk [16]);simp only[go_sem]
  apply zc rfl<;>intro hc<;>(try simp only[go_sem] at hc)
  apply ze;simp only[go_sem];exact⟨_,_,.inr rfl⟩
def radW:List Int:=[64,159,990,1070,1620,1700]
def lastW (i:Nat):Int:=(0::radW).getD i 0
theorem radW_ok:∀ i,i<6→withinL (lastW i+1) 5000 [radW.getD i 0]=true:=by decide
theorem lastW_le:∀ i,i<6→0≤lastW i∧lastW i≤1700:=by decide
theorem ringsC:ACalls Tryz.prog 73 [.ag armC] (.bo true):=by
 have h0:=bwithin_ok 0 20 [0]
 have e0:withinL 0 20 [0]=true:=rfl
 rw[e0] at h0
 have hf:=facC
 have hra:=radiiC_ok
 have z1:((4:Int) == 0)=false:=rfl
 have hl4:rgW.length=4:=rfl
 refine acalls_stR (rs:=[.bo true]) [.cell 2 4] Tryz.func73 rfl (by kernel_rfl) Tryz.ntmps73 rfl (by simp) rfl fun C hC vs=>?_
 apply zq
 refine zb fun K hK=>?_;simp only[go_sem,armC];apply hK;refine zw (zfP 1 1 armC (by omega) rfl rfl) ?_;apply zw (zk [1,2]);simp only[go_sem]
 repeat apply zq
 refine zb fun K hK=>?_;simp only[go_sem,armC,z1,hl4,List.length_map]
 refine zh (h0) rfl (by simp only[go_sem,i64,ints,armC,z1]) (by simp only[go_sem,i64,ints,armC,z1]) ?_
 (try simp only[go_sem,armC,z1])
 refine zh (hf) rfl (by simp only[go_sem,i64,ints,armC,z1]) (by simp only[go_sem,i64,ints,armC,z1]) ?_
 (try simp only[go_sem,armC,z1]);apply hK;apply zw (zk [1,2,20]);simp only[go_sem]
 apply zc rfl<;>intro hc<;>(try simp only[go_sem] at hc)
 apply zx
 try simp only[go_sem]
 apply zq
 refine zb fun K hK=>?_;simp only[go_sem,armC];(try simp (disch:=omega) only[zI]);apply hK;apply zw (zk [1,2,3]);simp only[go_sem]
 repeat apply zq
 refine zb fun K hK=>?_;simp only[go_sem]
 refine zh (hra) rfl (by simp only[go_sem,i64,ints,armC]) (by simp only[go_sem,i64,ints,armC]) ?_
 (try simp only[go_sem,armC]);apply hK;apply zw (zk [1,2,3,25]);simp only[go_sem];apply zd
 refine awp_rangeF hC ([[i64 64],[i64 159]]++rdL 0) radC1 [1,2,3,25] (by decide) (fun vs=>[(1,.r (.rp armC)),(2,.pt 2 (vs 2) 0),(3,.pt 3 (vs 3) 0),(25,.r (.fn 102 [.rp armC]))])
  (fun i vs=>[(2,.box [.r (.bo false)]),(3,.box [.r (i64 (lastW i))])]) (fun _=>True) (zj [] ?_ ?_) trivial (fun _=>rfl) (fun _=>rfl) (fun _ _=>rfl) (by simp) (fun e he=>by
   rcases List.mem_append.1 he with he|he
   ·simp only[List.mem_cons,List.not_mem_nil,or_false] at he
    rcases he with rfl|rfl<;>rfl
   ·obtain⟨p,_,rfl⟩:=List.mem_map.1 he;rfl) ?_ ?_
 ·try simp only[go_sem]
  first|exact⟨rfl,rfl⟩|rfl
 ·try simp only[go_sem]
  try rfl
 ·intro i e vs us C' he _
  have hlist:([[i64 64],[i64 159]]++rdL 0:List (List RV))=radW.map fun r=>[i64 r]:=rfl
  rw[hlist,List.getElem?_map] at he
  have hi6:i<6:=by
   cases hr:radW[i]? with
   | none=>rw[hr] at he;cases he
   | some r=>exact (List.getElem?_eq_some_iff.1 hr).1
  obtain⟨r,hr⟩:=zol (l:=radW) (i:=i) hi6
  rw[hr] at he
  simp only[Option.map_some,Option.some.injEq] at he
  subst he
  have hg:radW.getD i 0=r:=by rw[List.getD_eq_getElem?_getD,hr];rfl
  have hw:=radW_ok i hi6
  have hle:=lastW_le i hi6
  have hlast:lastW (i+1)=r:=by show (0::radW).getD (i+1) 0=r;rw[List.getD_cons_succ,hg]
  rw[hg] at hw
  rw[hlast]
  generalize lastW i=la at *
  have h1:=bwithin_ok (la+1) 5000 [r]
  rw[hw] at h1
  have w1:IntKind.i64.wrap (la+0)=la:=by rw[zI]<;>omega
  have w2:IntKind.i64.wrap (la+1)=la+1:=by rw[zI]<;>omega
  have w3:IntKind.i64.wrap (la+0+1)=la+1:=by rw[zI]<;>omega
  refine zb fun K hK=>?_;simp only[go_sem];apply hK
  refine⟨rfl,fun C'=>?_⟩
  apply zw (zk [1,2,3,4]);simp only[go_sem];apply zd
  repeat apply zq
  refine zb fun K hK=>?_;simp only[go_sem,armC,w1,w2,w3,Int.add_zero];(try simp (disch:=omega) only[zI])
  refine zh (h1) rfl (by simp only[go_sem,i64,ints,w1,w2,w3]) (by simp only[go_sem,i64,ints,w1,w2,w3]) ?_
  (try simp only[go_sem,w1,w2,w3]);apply hK;apply zw (zk [1,2,3,4,36]);simp only[go_sem]
  apply zc rfl<;>intro hc<;>(try simp only[go_sem] at hc)
  apply zx
  try simp only[go_sem]
  refine zb fun K hK=>?_;simp only[go_sem];apply hK
  try simp only[go_sem]
  refine zj (F:=fun _=>[]) [] ?_ ?_
  ·try simp only[go_sem]
  ·try simp only[go_sem]
   try rfl
 ·intro vs us _
  try simp only[go_sem]
  refine zw (sub_wake rfl) ?_
  apply zq
  refine zb fun K hK=>?_;simp only[go_sem];apply hK;apply zw (zk [2]);simp only[go_sem];apply ze;simp only[go_sem]
def mapW (i:Nat):List (RV × RV):=(nbW.take i).map fun n=>(i64 n,.bo true)
theorem nbW_in:∀ i,i<20→withinL 1 20 [nbW.getD i 0]=true:=by decide
def newB (i:Nat):Bool:=match findK (i64 (nbW.getD i 0)) (mapW i) 0 with|some none=>true|_=>false
theorem newB_all:((List.range 20).all newB)=true:=by decide +kernel
theorem nbW_new (i:Nat) (hi:i<20):findK (i64 (nbW.getD i 0)) (mapW i) 0=some none:=by
 have h:=List.all_eq_true.1 newB_all i (List.mem_range.2 hi)
 unfold newB at h
 split at h
 ·assumption
 ·cases h
theorem numbersC:ACalls Tryz.prog 75 [.ag armC] (.bo true):=by
 have hl20:nbW.length=20:=rfl
 have hln:lnW.length=20:=rfl
 refine zas (rs:=[.bo true]) [.tmp 2] Tryz.func75 rfl (by kernel_rfl) Tryz.ntmps75 rfl (by simp) rfl fun C vs=>?_
 apply zq
 refine zb fun K hK=>?_;simp only[go_sem,armC];apply hK;refine zw (zfP 1 1 armC (by omega) rfl rfl) ?_;apply zw (zk [1]);simp only[go_sem]
 apply zq
 refine zb fun K hK=>?_;simp only[go_sem];apply hK;apply zw (zk [1,3]);simp only[go_sem]
 repeat apply zq
 refine zb fun K hK=>?_;simp only[go_sem,armC,hl20,List.length_map];apply hK;apply zw (zk [1,3,8,9,10]);simp only[go_sem];apply zd
 refine zuv (n:=33) 20 (fun i vs=>[(1,.r (.rp armC)),(3,.mp 6 (vs 6)),(8,.r (ints nbW)),(9,.r (i64 20)),(10,.r (i64 (i:Int)))])
  (fun i vs=>[(6,.mp (mapW i))]) (fun _=>True) 0 (zj [] ?_ ?_) (Nat.zero_le _) trivial ?_
 ·try simp only[go_sem]
  try rfl
 ·try simp only[go_sem]
  try rfl
 intro i vs hi _
 by_cases hin:i<20
 ·obtain⟨q,hq⟩:=zol (l:=nbW) (i:=i) (by rw[hl20];exact hin)
  have hg:nbW.getD i 0=q:=by rw[List.getD_eq_getElem?_getD,hq];rfl
  have h1:=bwithin_ok 1 20 [q]
  have hw:=nbW_in i hin
  have h3:=nbW_new i hin
  rw[hg] at hw h3
  rw[hw] at h1
  have h4:mapW (i+1)=mapW i++[(i64 q,.bo true)]:=by unfold mapW;rw[List.take_add_one,hq];simp
  rw[h4]
  have c1:decide ((i:Int)<20)=true:=decide_eq_true (by omega)
  have w1:IntKind.i64.wrap ((i:Int)+1)=(i:Int)+1:=by rw[zI]<;>omega
  have hlt:i<nbW.length:=by rw[hl20];exact hin
  generalize mapW i=M at *
  apply zq
  refine zb fun K hK=>?_;simp only[go_sem,c1,hin];apply hK;apply zw (zk [1,3,8,9,10,11]);simp only[go_sem]
  apply zq
  apply zc rfl<;>intro hc<;>(try simp only[go_sem] at hc)
  apply zx
  try simp only[go_sem]
  apply zq
  apply zd
  apply zq
  refine zb fun K hK=>?_;simp only[go_sem,hq,hlt,List.length_map];apply hK;apply zw (zk [1,3,5,8,9,10]);simp only[go_sem]
  repeat apply zq
  refine zb fun K hK=>?_;simp only[go_sem,h3]
  refine zh (h1) rfl (by simp only[go_sem,i64,ints,h3]) (by simp only[go_sem,i64,ints,h3]) ?_
  (try simp only[go_sem,h3]);apply hK;apply zw (zk [1,3,5,8,9,10,22]);simp only[go_sem]
  apply zc rfl<;>intro hc<;>(try simp only[go_sem] at hc)
  apply zx
  try simp only[go_sem]
  refine zb fun K hK=>?_;simp only[go_sem,h3];apply hK;apply zw (zk [1,3,8,9,10]);simp only[go_sem];refine zb fun K hK=>?_;simp only[go_sem,w1];apply hK
  try simp only[go_sem]
  refine⟨by omega,zj [] ?_ ?_⟩
  ·try simp only[go_sem]
  ·try simp only[go_sem]
 ·have hie:i=20:=by omega
  subst hie
  apply zq
  refine zb fun K hK=>?_;simp only[go_sem];apply hK;apply zw (zk [1,11]);simp only[go_sem]
  apply zq
  apply zc rfl<;>intro hc<;>(try simp only[go_sem] at hc)
  apply zf;simp only[go_sem]
  apply zq
  refine zb fun K hK=>?_;simp only[go_sem,armC,hl20,hln,List.length_map];apply hK;apply zw (zk [2]);simp only[go_sem];apply ze;simp only[go_sem]
def fsD:List (FuncId × Nat):=[(23,0),(46,0)]
theorem fsD_ok:allOk Tryz.prog fsD=true:=by kernel_rfl
def dOrc:Orc:=[(73,[.ag armC],.bo true),(75,[.ag armC],.bo true),(74,[lnR],.bo true)]
theorem dOrc_ok:orcOk Tryz.prog dOrc:=⟨ringsC,numbersC,linesC,trivial⟩
theorem open_ok:ACalls Tryz.prog 23 [.ag armC] (.tu [.ag armC,i64 0]):=evalX_ok follows fsD_ok dOrc_ok (k:=400) (by kernel_rfl) (by kernel_rfl)
end Go.Proofs.YtonpmcdkncbjoaaGreat.Bo

namespace Go.Oc
open Go Go.RowKit
def sLitBox (P:Program) (s:AS) (d:Nat) (t:TypeId) (len:Nat) (parts:List (Nat × AV)):Res :=
 match tyq P t with
 | some ⟨.slice e esz _ ez, _, _, _⟩ =>
   if len=0 then .bad else
   match lay s.ver (fun i=>some (i*esz,esz)) ((List.replicate len ez).flatten.map .r) parts with
   | some cs=>⟨0<esz∧len*esz≤16777216∧d<1000,True,⟨.os d ((s.rows d).ver+1) esz 0 len,[(d,⟨(s.rows d).ver+1,.ara e esz cs⟩)]⟩⟩
   | none=>.bad
 | _=>.bad
section
variable {P:Program}{C:Ctx}{p:Plan}{s:AS}{a:Act}{w:World}{o:Oper}
theorem relV_map_r {ver:Nat→Nat}:∀ {xs:List RV}{vs:List Value},RV.relV w p.R xs vs→AV.relV w p ver (xs.map .r) vs
 | [],vs,h=>by simp only[RV.relV] at h;simp only[List.map_nil,AV.relV];exact h
 | x::xs, vs, h=>by
   simp only[RV.relV] at h
   obtain⟨u,us,e,h1,h2⟩:=h
   simp only[List.map_cons,AV.relV,AV.rel];exact⟨u,us,e,h1,relV_map_r h2⟩
theorem lay_len {ver:Nat→Nat}{place:Nat→Option (Nat × Nat)}:∀ (parts:List (Nat × AV)) (cs cs':List AV),lay ver place cs parts=some cs'→cs'.length=cs.length
 | [],cs,cs',h=>by simp only[lay] at h;injection h with h;rw[h]
 | (i, x)::parts, cs, cs', h=>by
   simp only[lay] at h
   split at h
   ·split at h
    ·rename_i o sz xs _ _ hc
     rw[lay_len parts _ _ h]
     simp
     omega
    ·cases h
   ·cases h
theorem good_litBox {t:TypeId}{n:Nat}{ps:Array (Nat × Operand)}(h:SR C p s a w) (ho:o.op = .buildSlice t n ps) (hp:(sLitBox P s (o.dst.getD 0) t n (ps.toList.map fun (i,x)=>(i,s.ev x))).pre) :
 Done P C o s a w (sLitBox P s (o.dst.getD 0) t n (ps.toList.map fun (i,x)=>(i,s.ev x))):=by
 have hparts:=parts_rel h ps.toList
 unfold sLitBox at hp ⊢
 split at hp
 ·rename_i e esz eb ez sz agg z e1
  obtain⟨hu,hok,hsz,_,zv,hzv,hez⟩:=tyq_slice e1
  subst hsz
  obtain⟨i,zval,hi,hzero,hcells,hz1,hzl⟩:=zeroOf_spec hzv
  split at hp
  ·exact hp.elim
  ·rename_i hn0
   rw[if_neg hn0]
   split at hp
   ·rename_i cs hlay
    obtain⟨hpos,hmax,hd⟩:0<P.cellsOf e∧n*P.cellsOf e≤16777216∧o.dst.getD 0<1000:=hp
    have hzc:zval.cells.size=P.cellsOf e:=by rw[← hzl,← hcells];simp
    obtain⟨cells',hf,hr,hr1⟩:=lay_rel (p:=p) (w:=w) _ _ (ps.toList.map fun x=>(x.1,a.eval x.2)) _ _ (madeCells zval.cells (n*P.cellsOf e)) hlay
     (by
      rw[← hzc,madeCells_list,hcells,hez]
      refine relV_map_r ?_
      clear hlay hn0 ho hmax
      induction n with
      | zero=>simp [RV.relV]
      | succ n ih =>
        simp only[List.replicate_succ,List.flatten_cons];exact RV.relV_append (RV.relV_ofV1 w p.R zv) ih)
     (by
      rw[← hzc,madeCells_list,hcells]
      intro u hu
      obtain⟨l,hl,hul⟩:=List.mem_flatten.1 hu
      rw[List.eq_of_mem_replicate hl] at hul
      exact hz1 u hul)
     hparts.1 hparts.2
    have hcl:cells'.size=n*P.cellsOf e:=by
     rw[← Array.length_toList,AV.relV_length hr,lay_len _ _ _ hlay,List.length_map]
     have:∀ m,(List.replicate m ez).flatten.length=m*P.cellsOf e:=by
      intro m
      induction m with
      | zero=>simp
      | succ m ih=>rw[List.replicate_succ,List.flatten_cons,List.length_append,ih,hez,List.length_map,hzl,Nat.add_mul];omega
     exact this n
    have hnm:n≤16777216:=Nat.le_trans (Nat.le_mul_of_pos_right n hpos) hmax
    have hn:=h.newRow (o.dst.getD 0) hd (.ara e (P.cellsOf e) cs) rfl n (by simp only[maxLen];omega) (.cells cells' e) (fun p' ver' hR hβ hγ hk=>by
     simp only[zrl];rw[hγ]
     exact⟨_,_,hβ,heap_alloc_new w _,hcl,cells'.toList,[],by simp,AV.relV_mono hk _ _ hr,hr1⟩)
    refine⟨_,.slice (some ⟨w.heap.size,0,none⟩) n n,_,_,?_,.inl rfl,trivial,by rw[zro];exact hn,?_⟩
    ·have hmap:(ps.map fun (x:Nat × Operand)=>(x.1,a.eval x.2)).toList=ps.toList.map fun x=>(x.1,a.eval x.2):=by simp
     have hne:¬ (n*P.cellsOf e=0):=by
      have:=Nat.mul_pos (show 0<n by omega) hpos
      omega
     have hz:(zeroValue e).run P w = .ok zval w:=by simp [zeroValue,typeInfo,hi,hzero]
     have hf':=hf
     simp only[madeCells] at hf'
     simp only[execOp,ho,Instr.buildSlice,Sem.run_bind,run_underlying hu,Result.andThen_ok,zrs hok,if_neg (show ¬ (n*P.cellsOf e > 2 ^ 24) by omega),if_neg hne,hz,Sem.run_pure,hmap,hf']
     simp [newRow]
    ·rw[zro]
     simp only[AV.rel,vers,zus];exact⟨Nat.le_refl _,fun _=>.inr ⟨_,_,rfl,by simp;rfl,by omega,fun _=>by simp⟩⟩
   ·exact hp.elim
 ·exact hp.elim
variable {Q:Exit→AS→Prop}{ops:Array Oper}
end
section
variable {n:Nat}{l:List (Nat × AV)}{vs:Nat→Nat}{cs:List (Nat × RowC)}
end
end Go.Oc

namespace Go.Oc
open Go Go.RowKit
def unl (listed:Array Bool):Nat→Nat
 | 0=>0
 | m+1=>unl listed m+if listed.getD m true then 0 else 1
theorem getD_setT {listed:Array Bool}{i j:Nat}:(listed.setIfInBounds i true).getD j true=if j=i then true else listed.getD j true:=by
 split
 ·rename_i e
  subst e
  simp only[Array.getD_eq_getD_getElem?,Array.getElem?_setIfInBounds]
  split
  ·split<;>simp_all
  ·simp_all
 ·rename_i e
  simp only[Array.getD_eq_getD_getElem?,Array.getElem?_setIfInBounds];rw[if_neg (fun h=>e h.symm)]
theorem unl_same {listed:Array Bool}{i:Nat}:∀ m,m≤i→unl (listed.setIfInBounds i true) m=unl listed m
 | 0,_=>rfl
 | m+1, h=>by
   have e2:m≠i:=by omega
   have e3:=unl_same (listed:=listed) (i:=i) m (by omega)
   simp only[unl,getD_setT,e3,if_neg e2]
theorem unl_set {listed:Array Bool}{i:Nat}(hi:listed.getD i true=false):∀ m,i<m→unl (listed.setIfInBounds i true) m+1=unl listed m
 | 0,h=>by omega
 | m+1, h=>by
   simp only[unl,getD_setT]
   by_cases e:i=m
   ·subst e
    rw[unl_same _ (Nat.le_refl _)]
    simp [hi]
   ·have:=unl_set hi m (by omega)
    have e2:m≠i:=fun h=>e h.symm
    rw[if_neg e2]
    omega
theorem unl_zero {listed:Array Bool}:∀ m,unl listed m=0→∀ j,j<m→listed.getD j true=true
 | 0,_,j,h=>by omega
 | m+1, h, j, hj=>by
   simp only[unl] at h
   by_cases e:j=m
   ·subst e
    by_cases hx:listed.getD j true=true
    ·exact hx
    ·simp [hx] at h
   ·exact unl_zero m (by omega) j (by omega)
def stepAll (P:Program) (ops:Array Oper) (n:Nat) (F:(Nat→Bool)→(Nat→Nat)→List (Nat × AV)) (R:(Nat→Bool)→(Nat→Nat)→List (Nat × RowC)):Nat→List Oper→Prop
 | _,[]=>True
 | k,o::rest=>(∀ b vs,(∀ j e,j<ops.size→(deps ops j).contains e=true→b j=true→b e=true)→b k=false→(∀ e∈deps ops k,b e=true) →
  xop P false o (FitV n (F (upd b k true)) (R (upd b k true))) (st n (F b vs) vs (R b vs)))∧stepAll P ops n F R (k+1) rest
theorem stepAll_get {P:Program}{ops:Array Oper}{n:Nat}{F:(Nat→Bool)→(Nat→Nat)→List (Nat × AV)}{R:(Nat→Bool)→(Nat→Nat)→List (Nat × RowC)}:∀ {l:List Oper}{k i:Nat}{o:Oper},stepAll P ops n F R k l→l[i]? = some o →
 ∀ b vs, (∀ j e, j<ops.size→(deps ops j).contains e=true→b j=true→b e=true)→b (k+i)=false→(∀ e∈deps ops (k+i), b e=true) →
   xop P false o (FitV n (F (upd b (k+i) true)) (R (upd b (k+i) true))) (st n (F b vs) vs (R b vs))
 | [],_,_,_,_,h=>by simp at h
 | x::l, k, 0, o, hs, h=>by
   simp only[List.getElem?_cons_zero,Option.some.injEq] at h
   subst h
   exact hs.1
 | x::l, k, i+1, o, hs, h=>by
   have:=stepAll_get (k:=k+1) (i:=i) hs.2 (by simpa using h)
   rwa [show k+1+i=k+(i+1) by omega] at this
def upOk (ops:Array Oper):Bool:=(List.range ops.size).all fun j=>(deps ops j).all fun e=>decide (e<j)
section
variable {P:Program}{C:Ctx}{s:AS}{a:Act}{w:World}{ops:Array Oper}
theorem ready_nil {listed:Array Bool}(hu:upOk ops=true) (h:Region.ready .any ops listed=[]) (hsz:listed.size=ops.size):∀ j,j<ops.size→listed.getD j true=true:=by
 intro j
 induction j using Nat.strongRecOn with
 | _ j ih =>
   intro hj
   by_cases hx:listed.getD j true=true
   ·exact hx
   ·exfalso
    have ho:ops[j]? = some ops[j]:=Array.getElem?_eq_getElem hj
    have hr:j∈Region.ready .any ops listed:=by
     refine mem_ready.2 ⟨by simpa using hx,ops[j],ho,fun e he hb=>?_⟩
     have hm:e.on∈deps ops j:=by unfold deps;rw[ho];exact List.mem_map.2 ⟨e,List.mem_filter.2 ⟨by simpa using he,hb⟩,rfl⟩
     have hlt:=List.all_eq_true.1 (List.all_eq_true.1 hu j (by simpa using hj)) e.on hm
     simp only[decide_eq_true_eq] at hlt
     have:=ih e.on hlt (by omega)
     have h2:e.on<listed.size:=by omega
     simpa [h2] using this
    rw[h] at hr
    cases hr
theorem inv_any {Q:AS→Prop}{Q':Exit→Act→World→Prop}(hQ:∀ s a w,Q s→SRel C s a w→Q' .normal a w) {n:Nat}{F:(Nat→Bool)→(Nat→Nat)→List (Nat × AV)}{R:(Nat→Bool)→(Nat→Nat)→List (Nat × RowC)}
 (hd:dstOk ops n=true) (hg:ops.all (fun o=>o.guard.isNone)=true) (hu:upOk ops=true) (hstep:stepAll P ops n F R 0 ops.toList)
 (hend:∀ b vs,(∀ j,b j=true)→Q (st n (F b vs) vs (R b vs))) :
 ∀ (fuel:Nat) (vs:Nat→Nat) (listed:Array Bool) (a:Act) (w:World), listed.size=ops.size→down ops listed→unl listed ops.size≤fuel→SRel C (st n (F (fun j=>listed.getD j true) vs) vs (R (fun j=>listed.getD j true) vs)) a w →
   wpAnyIn (fnc C.rd) 0 P .any ops Q' fuel listed a w:=by
 have all:∀ {listed:Array Bool},listed.size=ops.size→(∀ j,j<ops.size→listed.getD j true=true)→∀ j,(fun j=>listed.getD j true) j=true:=fun {listed} hsz h j=>by
  by_cases hj:j<ops.size
  ·exact h j hj
  ·show listed.getD j true=true
   have:¬ j<listed.size:=by omega
   simp [this]
 intro fuel
 induction fuel with
 | zero =>
   intro vs listed a w hsz hdn hf hs
   have h0:=unl_zero (listed:=listed) ops.size (by omega)
   refine⟨List.eq_nil_iff_forall_not_mem.2 fun j hj=>?_,hQ _ _ _ (hend _ _ (all hsz h0)) hs⟩
   obtain⟨h1,o,ho,_⟩:=mem_ready.1 hj
   have:=h0 j (Array.getElem?_eq_some_iff.1 ho).1
   rw[this] at h1
   cases h1
 | succ fuel ih =>
   intro vs listed a w hsz hdn hf hs
   refine⟨fun h0=>hQ _ _ _ (hend _ _ (all hsz (ready_nil hu h0 hsz))) hs,fun i hi=>?_⟩
   obtain⟨hi1,o,ho,hall⟩:=mem_ready.1 hi
   unfold wpOpIn
   rw[ho]
   simp only
   have hil:i<ops.size:=(Array.getElem?_eq_some_iff.1 ho).1
   have hgo:o.guard=none:=by
    have:=Array.all_eq_true_iff_forall_mem.1 hg o (Array.mem_of_getElem? ho)
    simpa using this
   obtain⟨p,hp⟩:=hs
   rw[if_pos (wantA_sound hp (by simp [wantA,hgo]))]
   have hx:=stepAll_get (k:=0) (i:=i) hstep (by rw[Array.getElem?_toList];exact ho) (fun j=>listed.getD j true) vs (fun j e hj he hb=>?_) (by rw[Nat.zero_add];exact hi1) (fun e he=>?_)
   ·rw[Nat.zero_add] at hx
    refine xop_sound hp hx (dstOk_get hd ho) (fun a' w' p' s' hs' hn hK=>?_) (dstOk_nd hd ho)
    obtain⟨vs',hsub⟩:=hK
    have e:upd (fun j=>listed.getD j true) i true=fun j=>(listed.setIfInBounds i true).getD j true:=by
     funext j
     rw[getD_setT]
     rfl
    rw[e] at hsub
    exact ih vs' _ a' w' (by simpa using hsz) (down_set hdn hi) (by have:=unl_set hi1 ops.size hil;omega) (hsub C a' w' ⟨p',hs'⟩)
   ·have hjs:j<listed.size:=by omega
    have hb':listed.getD j true=true:=hb
    have h2:=hdn j (by simpa [hjs] using hb') e (by simpa using he)
    show listed.getD e true=true
    by_cases hes:e<listed.size
    ·simpa [hes] using h2
    ·simp [hes]
   ·have h2:=ready_deps hi e (by simpa using he)
    show listed.getD e true=true
    by_cases hes:e<listed.size
    ·simpa [hes] using h2
    ·simp [hes]
end
theorem awp_inv {P:Program}{C:Ctx}{id:Nat}{l:List Oper}{n:Nat}{Q:Exit→AS→Prop}{s:AS}(F:(Nat→Bool)→(Nat→Nat)→List (Nat × AV)) (R:(Nat→Bool)→(Nat→Nat)→List (Nat × RowC)) (hm:P.follows .mixedOrders=true)
 (hd:dstOk l.toArray n=true) (hg:l.toArray.all (fun o=>o.guard.isNone)=true) (hu:upOk l.toArray=true) (h0:FitV n (F fun j=>decide (l.length≤j)) (R fun j=>decide (l.length≤j)) s)
 (hstep:stepAll P l.toArray n F R 0 l) (hend:∀ b vs,(∀ j,b j=true)→Q .normal (st n (F b vs) vs (R b vs))):awp P C (.region id l.toArray true) Q s:=fun a w hs=>by
 obtain⟨vs,hsub⟩:=h0
 obtain⟨p,hp⟩:=hsub C a w hs
 have hs':SR C p _ a { w with drawn:=w.drawn+1 }:=hp.below (w':=w.drew) ((Below.refl _ _).drew) (fun _ h=>h) (fun _ h=>.inl h) hp.rb
 refine wpIn_region_any hm ?_
 have e:(fun j=>(Array.replicate l.toArray.size false).getD j true)=fun j=>decide (l.length≤j):=by
  funext j
  by_cases h:j<l.length
  ·have:¬ l.length≤j:=by omega
   simp [h,this]
  ·have:l.length≤j:=by omega
   simp [h,this]
 refine inv_any (Q:=fun s=>Q .normal s) (n:=n) (F:=F) (R:=R) (fun s a w hq hs=>⟨s,hs,hq⟩) hd hg hu (by simpa using hstep) hend _ vs _ _ _ (by simp) (fun j hj=>?_) ?_ ?_
 ·exfalso
  simp only[Array.getD_eq_getD_getElem?,Array.getElem?_replicate] at hj
  split at hj<;>simp at hj
 ·have:∀ m,unl (Array.replicate l.toArray.size false) m≤m:=by
   intro m
   induction m with
   | zero=>exact Nat.le_refl _
   | succ m ih=>simp only[unl];split<;>omega
  exact this _
 ·rw[e]
  exact⟨p,hs'⟩
def allB (b:Nat→Bool) (v:Bool):List Nat→Prop
 | []=>True
 | e::es=>b e=v∧allB b v es
def chU (ops:Array Oper) (n:Nat):List Nat→List Nat→Bool
 | _,[]=>true
 | seen,e::es=>((deps ops n).contains e || seen.any fun j=>decide (j<ops.size)&&(deps ops j).contains e)&&chU ops n (e::seen) es
def chD (ops:Array Oper) (n:Nat):List Nat→List Nat→Bool
 | _,[]=>true
 | seen,e::es=>(decide (e<ops.size)&&((deps ops e).contains n || seen.any fun j=>(deps ops e).contains j))&&chD ops n (e::seen) es
theorem upT0 {ops:Array Oper}{b:Nat→Bool}{n:Nat}(hdn:∀ j e,j<ops.size→(deps ops j).contains e=true→b j=true→b e=true) (hde:∀ e∈deps ops n,b e=true):∀ (es seen:List Nat),(∀ j∈seen,b j=true)→chU ops n seen es=true→allB b true es
 | [],_,_,_=>trivial
 | e::es, seen, hs, h=>by
   simp only[chU,Bool.and_eq_true,Bool.or_eq_true,List.any_eq_true,decide_eq_true_eq] at h
   have he:b e=true:=by
    rcases h.1 with h1|⟨j,hj,h1,h2⟩
    ·exact hde e (by simpa using h1)
    ·exact hdn j e h1 h2 (hs j hj)
   refine⟨he,upT0 hdn hde es (e::seen) (fun j hj=>?_) h.2⟩
   rcases List.mem_cons.1 hj with rfl|hj
   ·exact he
   ·exact hs j hj
theorem upT {ops:Array Oper}{b:Nat→Bool}{n:Nat}(hdn:∀ j e,j<ops.size→(deps ops j).contains e=true→b j=true→b e=true) (hde:∀ e∈deps ops n,b e=true) (es:List Nat) (h:chU ops n [] es=true):allB b true es:=upT0 hdn hde es [] (by simp) h
theorem dnT0 {ops:Array Oper}{b:Nat→Bool}{n:Nat}(hdn:∀ j e,j<ops.size→(deps ops j).contains e=true→b j=true→b e=true) (hbk:b n=false):∀ (es seen:List Nat),(∀ j∈seen,b j=false)→chD ops n seen es=true→allB b false es
 | [],_,_,_=>trivial
 | e::es, seen, hs, h=>by
   simp only[chD,Bool.and_eq_true,Bool.or_eq_true,List.any_eq_true,decide_eq_true_eq] at h
   have he:b e=false:=by
    cases hb:b e
    ·rfl
    ·rcases h.1.2 with h1|⟨j,hj,h2⟩
     ·rw[hdn e n h.1.1 h1 hb] at hbk;cases hbk
     ·have:=hs j hj
      rw[hdn e j h.1.1 h2 hb] at this;cases this
   refine⟨he,dnT0 hdn hbk es (e::seen) (fun j hj=>?_) h.2⟩
   rcases List.mem_cons.1 hj with rfl|hj
   ·exact he
   ·exact hs j hj
theorem dnT {ops:Array Oper}{b:Nat→Bool}{n:Nat}(hdn:∀ j e,j<ops.size→(deps ops j).contains e=true→b j=true→b e=true) (hbk:b n=false) (es:List Nat) (h:chD ops n [] es=true):allB b false es:=dnT0 hdn hbk es [] (by simp) h
end Go.Oc

namespace Go.Oc
open Go Go.RowKit
def sAppB (P:Program) (s:AS) (d:Nat) (t t':TypeId) (x y:AV):Res :=
 match tyq P t,decide (t=t'),x,y with
 | some ⟨.slice e esz eb _, _, _, _⟩, true, .os k n sz off m, .os j n2 sz2 off2 m2 =>
   match s.rows k,s.rows j with
   | ⟨n',.ara e' sz' cs⟩,⟨n2',.ara e2 sz2' ds⟩=>⟨(n=n'∧n2=n2')∧(e'=e∧e2=e)∧(sz=esz∧sz'=esz∧sz2=esz∧sz2'=esz)∧(off=0∧off2=0)∧(cs.length=m*esz∧ds.length=m2*esz)∧(0<m∧0<m2∧0<esz)∧(m+m2)*eb≤140737488355328∧m+m2≤9223372036854775807∧k<1000,True,
    ⟨.os k (n'+1) esz 0 (m+m2),[(k,⟨n'+1,.ara e esz (cs++ds)⟩)]⟩⟩
   | _,_=>.bad
 | some ⟨.slice e esz eb _, _, _, _⟩, true, .r .ns, .os j n2 sz2 off2 m2 =>
   match s.rows j with
   | ⟨n2',.ara e2 sz2' ds⟩=>⟨n2=n2'∧e2=e∧(sz2=esz∧sz2'=esz)∧off2=0∧ds.length=m2*esz∧(0<m2∧0<esz)∧m2*eb≤140737488355328∧m2≤9223372036854775807∧d<1000,True,
    ⟨.os d ((s.rows d).ver+1) esz 0 m2,[(d,⟨(s.rows d).ver+1,.ara e esz ds⟩)]⟩⟩
   | _=>.bad
 | _,_,_,_=>.bad
section
variable {P:Program}{C:Ctx}{p:Plan}{s:AS}{a:Act}{w:World}{o:Oper}
theorem ara_read (h:SR C p s a w) {k n esz e m:Nat}{cs:List AV}{x:Operand}(e3:s.ev x = .os k n esz 0 m) (e5:s.rows k=⟨n,.ara e esz cs⟩) (hm:cs.length=m*esz) (h0:0<m) :
 ∃ b cells l rest, p.β k=some b∧a.eval x = .slice (some ⟨b, 0, none⟩) m (p.γ k)∧w.heap[b]? = some (.cells cells e (0, 0))∧cells.size=p.γ k*esz∧cells.toList=l++rest∧AV.relV w p s.ver cs l∧(∀ u∈l, u.oneCell'=true)∧l.length=m*esz ∧
   m≤p.γ k∧∀ j u,l[j]? = some u→w.cell? ((⟨b,0,none⟩:Addr).add j)=some u:=by
 have hver:n=s.ver k:=by simp [AS.ver,e5]
 have hrow:=h.rw k
 rw[e5] at hrow
 simp only[zrl] at hrow
 obtain⟨b,cells,hβ,hh,hcs,l,rest,hl,hV,h1⟩:=hrow
 rcases ev_os h e3 hver with⟨hb0,_⟩|⟨b',A,hβ',hv,hle,hA⟩
 ·rw[hb0] at hβ;cases hβ
 ·rw[hβ] at hβ'
  injection hβ' with hβ'
  subst hβ'
  obtain rfl:=hA (.inl h0)
  simp only[Nat.zero_mul,Nat.sub_zero,Nat.zero_add] at hv hle
  refine⟨b,cells,l,rest,hβ,hv,hh,hcs,hl,hV,h1,by rw[AV.relV_length hV,hm],hle,fun j u hj=>?_⟩
  rw[add_at,Nat.zero_add,cell_of_row w b j cells e (0,0) hh,← Array.getElem?_toList,hl,List.getElem?_append_left (List.getElem?_eq_some_iff.1 hj).1]
  exact hj
theorem good_appB {x y:Operand}{t t':TypeId}(h:SR C p s a w) (ho:o.op = .call ⟨.builtin .append,#[x,y],#[t,t']⟩) (hp:(sAppB P s (o.dst.getD 0) t t' (s.ev x) (s.ev y)).pre) :
 Done P C o s a w (sAppB P s (o.dst.getD 0) t t' (s.ev x) (s.ev y)):=by
 have go:∀ {v:Value}{w2:World},(Builtin.append_ #[t,t'] o.type #[a.eval x,a.eval y]).run P w = .ok v w2→(execOp a.eval o).run P w = .ok (.value v) w2:=fun hr =>
  run_builtin_of ho (by simp only[builtin,Sem.run_bind,List.map_toArray,List.map_cons,List.map_nil,hr,Result.andThen_ok,Sem.run_pure])
 unfold sAppB at hp ⊢
 split at hp
 ·rename_i e esz eb ez ssz sagg sz0 k n sz off m j n2 sz2 off2 m2 e1 e2 e3 e4
  obtain rfl:t=t':=by simpa using e2
  split at hp
  ·rename_i n' e' sz' cs n2' ee sz2' ds e5 e6
   obtain⟨⟨g1,g2⟩,⟨g3,g4⟩,⟨g5,g6,g7,g8⟩,⟨g9,g10⟩,⟨hm,hm2⟩,⟨h0,h02,hpos⟩,hb,hmax,hk0⟩:=hp
   subst g1 g2 g3 g4 g5 g6 g7 g8 g9 g10
   have hn2:n=(s.rows k).ver:=by rw[e5]
   obtain⟨b,cells,l,rest,hβ,hv,hh,hcs,hl,hV,h1,hll,hle,hget⟩:=ara_read h e3 e5 hm h0
   obtain⟨bj,cellsj,vs,restj,hβj,hvj,hhj,hcsj,hlj,hVj,h1j,hlv,hlej,hgv⟩:=ara_read h e4 e6 hm2 h02
   obtain⟨hu,hok,hco,hby,zv,hzv,hez⟩:=tyq_slice e1
   obtain⟨i,z,hi,hzero,hcells,hz1,hzl⟩:=zeroOf_spec hzv
   rw[zci hi] at hco
   rw[bytesOf_info hi] at hby
   by_cases hroom:m+m2≤p.γ k
   ·have hfit:m*sz2'+vs.length≤cells.size:=by
     rw[hlv,hcs,← Nat.add_mul];exact Nat.mul_le_mul_right _ hroom
    have hr:=run_append_room (P:=P) w t o.type ee i hu hi b m (p.γ k) cells hh ⟨bj,0,none⟩ m2 (p.γ j) vs (by rw[hlv,hco]) hgv h1j hroom (by rw[hco];exact hfit)
    rw[hco] at hr
    have htk:cells.toList.take (m*sz2')=l:=by rw[hl,← hll,List.take_left]
    have hSR:=h.reRow (w':=w.setRow b (cells.toList.take (m*sz2')++vs++cells.toList.drop (m*sz2'+vs.length)).toArray) k hk0 (.ara ee sz2' (cs++ds)) rfl (some b) (p.γ k) (h.cap k) rfl rfl rfl (by simp)
     (fun j _ hj=>setRow_other w b j _ (fun e=>hj (by rw[e];exact hβ))) (fun b2 h2=>by injection h2 with h2;subst h2;exact⟨by simpa using (h.bl k _ hβ).1,.inl hβ⟩) (fun p' ver' hR' hβ' hγ' hk=>by
     simp only[zrl];rw[hγ']
     refine⟨b,_,hβ',setRow_heap w b cells _ ee _ hh,?_,l++vs,cells.toList.drop (m*sz2'+vs.length),by rw[htk],?_,fun u hu=>(List.mem_append.1 hu).elim (h1 u) (h1j u)⟩
     ·simp;omega
     ·exact AV.relV_append (AV.relV_mono hk _ _ hV) (AV.relV_mono hk _ _ hVj))
    refine⟨_,.slice (some ⟨b,0,none⟩) (m+m2) (p.γ k),_,{ p with β:=upd p.β k (some b),γ:=upd p.γ k (p.γ k) },go (by rw[hv,hvj];exact hr),.inl rfl,trivial,?_,?_⟩
    ·rw[zro,hn2];exact hSR
    ·rw[zro,hn2]
     simp only[AV.rel,vers,zus];exact⟨Nat.le_refl _,fun _=>.inr ⟨b,_,rfl,by simp;rfl,by simpa using hroom,fun _=>by simp⟩⟩
   ·have hr:=run_append_grow (P:=P) w t o.type ee i z hu hi hzero ⟨b,0,none⟩ m (p.γ k) l (by rw[hll,hco]) hget ⟨bj,0,none⟩ m2 (p.γ j) vs (by rw[hlv,hco]) hgv (by omega) (by omega)
     (growslice_fits (by omega) (by rw[hby];exact hb))
    have hge:=grownCap_ge w (m+m2) (p.γ k) ee
    have hcap:=grownCap_le_maxLen w (m+m2) (p.γ k) ee (by simp only[maxLen];omega)
    have hzc:z.cells.size=sz2':=by rw[zci hi,hco] at hzl;rw[← hzl,← hcells];simp
    have hd:SR C p s a w.drew:=h.below (w':=w.drew) ((Below.refl _ _).drew) (fun _ h=>h) (fun _ h=>.inl h) h.rb
    have hVd:AV.relV w.drew p s.ver cs l:=by
     obtain⟨b3,cells3,hβ3,hh3,_,l3,rest3,hl3,hV3,_⟩:∃ b cells,p.β k=some b∧w.drew.heap[b]? = some (.cells cells ee (0,0))∧cells.size=p.γ k*sz2'∧∃ l rest,cells.toList=l++rest∧AV.relV w.drew p s.ver cs l∧∀ u∈l,u.oneCell'=true:=by
      have:=hd.rw k
      rw[e5] at this
      simpa only[zrl] using this
     rw[hβ] at hβ3;injection hβ3 with hβ3;subst hβ3
     have hh3':w.heap[b]? = some (.cells cells3 ee (0,0)):=hh3
     rw[hh] at hh3';injection hh3' with hh3';injection hh3' with hh3';subst hh3'
     have e7:l3=l:=by
      have e8:=AV.relV_length hV3
      rw[hl] at hl3
      have:l.length=l3.length:=by rw[hll,← hm];exact e8.symm
      exact (List.append_inj hl3 this).1.symm
     subst e7
     exact hV3
    have hVjd:AV.relV w.drew p s.ver ds vs:=by
     obtain⟨b3,cells3,hβ3,hh3,_,l3,rest3,hl3,hV3,_⟩:∃ b cells,p.β j=some b∧w.drew.heap[b]? = some (.cells cells ee (0,0))∧cells.size=p.γ j*sz2'∧∃ l rest,cells.toList=l++rest∧AV.relV w.drew p s.ver ds l∧∀ u∈l,u.oneCell'=true:=by
      have:=hd.rw j
      rw[e6] at this
      simpa only[zrl] using this
     rw[hβj] at hβ3;injection hβ3 with hβ3;subst hβ3
     have hh3':w.heap[bj]? = some (.cells cells3 ee (0,0)):=hh3
     rw[hhj] at hh3';injection hh3' with hh3';injection hh3' with hh3';subst hh3'
     have e7:l3=vs:=by
      have e8:=AV.relV_length hV3
      rw[hlj] at hl3
      have:vs.length=l3.length:=by rw[hlv,← hm2];exact e8.symm
      exact (List.append_inj hl3 this).1.symm
     subst e7
     exact hV3
    have hn:=hd.newRow k hk0 (.ara ee sz2' (cs++ds)) rfl (grownCap w (m+m2) (p.γ k) ee) hcap
     (.cells (l.toArray++vs.toArray++Builtin.zeroCells z.cells (grownCap w (m+m2) (p.γ k) ee-(m+m2))) ee) (fun p' ver' _ hβ hγ hk=>by
     simp only[zrl];rw[hγ]
     refine⟨_,_,hβ,heap_alloc_new w.drew _,?_,l++vs,(Builtin.zeroCells z.cells (grownCap w (m+m2) (p.γ k) ee-(m+m2))).toList,?_,AV.relV_append (AV.relV_mono hk _ _ hVd) (AV.relV_mono hk _ _ hVjd),fun u hu=>(List.mem_append.1 hu).elim (h1 u) (h1j u)⟩
     ·rw[Array.size_append,Array.size_append,size_zero,hzc,List.size_toArray,List.size_toArray,hll,hlv,← Nat.add_mul,← Nat.add_mul]
      congr 1;omega
     ·simp only[Array.toList_append,List.append_assoc])
    refine⟨_,_,_,_,go (by rw[hv,hvj];exact hr),.inl rfl,trivial,by rw[zro,hn2];exact hn,?_⟩
    rw[zro,hn2]
    simp only[AV.rel,vers,zus];exact⟨Nat.le_refl _,fun _=>.inr ⟨_,_,rfl,by simp;rfl,by simpa using hge,fun _=>by simp⟩⟩
  ·exact hp.elim
 ·rename_i e esz eb ez ssz sagg sz0 j n2 sz2 off2 m2 e1 e2 e3 e4
  obtain rfl:t=t':=by simpa using e2
  split at hp
  ·rename_i n2' ee sz2' ds e6
   obtain⟨g2,g4,⟨g7,g8⟩,g10,hm2,⟨h02,hpos⟩,hb,hmax,hd0⟩:=hp
   subst g2 g4 g7 g8 g10
   obtain⟨A,hv⟩:=ev_ns h e3
   obtain⟨bj,cellsj,vs,restj,hβj,hvj,hhj,hcsj,hlj,hVj,h1j,hlv,hlej,hgv⟩:=ara_read h e4 e6 hm2 h02
   obtain⟨hu,hok,hco,hby,zv,hzv,hez⟩:=tyq_slice e1
   obtain⟨i,z,hi,hzero,hcells,hz1,hzl⟩:=zeroOf_spec hzv
   rw[zci hi] at hco
   rw[bytesOf_info hi] at hby
   have hrun:(Builtin.append_ #[t,t] o.type #[.slice A 0 0,.slice (some ⟨bj,0,none⟩) m2 (p.γ j)]).run P w =
    .ok (.slice (some ⟨w.heap.size,0,none⟩) m2 (grownCap w m2 0 ee)) (w.drew.alloc (.cells (vs.toArray++Builtin.zeroCells z.cells (grownCap w m2 0 ee-m2)) ee)):=by
    cases A with
    | none=>exact run_append_nil (P:=P) w t o.type ee i z hu hi hzero ⟨bj,0,none⟩ m2 (p.γ j) vs (by rw[hlv,hco]) hgv h02 (by omega) (by rw[hby];omega)
    | some b =>
      have:=run_append_grow (P:=P) w t o.type ee i z hu hi hzero b 0 0 [] (by simp) (by simp) ⟨bj,0,none⟩ m2 (p.γ j) vs (by rw[hlv,hco]) hgv (by omega) (by omega) (growslice_fits (by omega) (by rw[hby];simpa using hb))
      simpa using this
   have hge:=grownCap_ge w m2 0 ee
   have hcap:=grownCap_le_maxLen w m2 0 ee (by simp only[maxLen];omega)
   have hzc:z.cells.size=sz2':=by rw[zci hi,hco] at hzl;rw[← hzl,← hcells];simp
   have hd:SR C p s a w.drew:=h.below (w':=w.drew) ((Below.refl _ _).drew) (fun _ h=>h) (fun _ h=>.inl h) h.rb
   have hVjd:AV.relV w.drew p s.ver ds vs:=by
    obtain⟨b3,cells3,hβ3,hh3,_,l3,rest3,hl3,hV3,_⟩:∃ b cells,p.β j=some b∧w.drew.heap[b]? = some (.cells cells ee (0,0))∧cells.size=p.γ j*sz2'∧∃ l rest,cells.toList=l++rest∧AV.relV w.drew p s.ver ds l∧∀ u∈l,u.oneCell'=true:=by
     have:=hd.rw j
     rw[e6] at this
     simpa only[zrl] using this
    rw[hβj] at hβ3;injection hβ3 with hβ3;subst hβ3
    have hh3':w.heap[bj]? = some (.cells cells3 ee (0,0)):=hh3
    rw[hhj] at hh3';injection hh3' with hh3';injection hh3' with hh3';subst hh3'
    have e7:l3=vs:=by
     have e8:=AV.relV_length hV3
     rw[hlj] at hl3
     have:vs.length=l3.length:=by rw[hlv,← hm2];exact e8.symm
     exact (List.append_inj hl3 this).1.symm
    subst e7
    exact hV3
   have hn:=hd.newRow (o.dst.getD 0) hd0 (.ara ee sz2' ds) rfl (grownCap w m2 0 ee) hcap
    (.cells (vs.toArray++Builtin.zeroCells z.cells (grownCap w m2 0 ee-m2)) ee) (fun p' ver' _ hβ hγ hk=>by
    simp only[zrl];rw[hγ]
    refine⟨_,_,hβ,heap_alloc_new w.drew _,?_,vs,(Builtin.zeroCells z.cells (grownCap w m2 0 ee-m2)).toList,?_,AV.relV_mono hk _ _ hVjd,h1j⟩
    ·rw[Array.size_append,size_zero,hzc,List.size_toArray,hlv,← Nat.add_mul]
     congr 1;omega
    ·simp only[Array.toList_append])
   refine⟨_,_,_,_,go (by rw[hv,hvj];exact hrun),.inl rfl,trivial,by rw[zro];exact hn,?_⟩
   rw[zro]
   simp only[AV.rel,vers,zus];exact⟨Nat.le_refl _,fun _=>.inr ⟨_,_,rfl,by simp;rfl,by simpa using hge,fun _=>by simp⟩⟩
  ·exact hp.elim
 ·exact hp.elim
variable {Q:Exit→AS→Prop}{ops:Array Oper}
end
end Go.Oc

namespace Go.Oc
open Go Go.RowKit
def xlit (P:Program) (o:Oper) (K:AS→Prop) (s:AS):Prop :=
 match o.op,o.dst with
 | .buildSlice t n ps,some d=>aR s (some d) (sLitBox P s d t n (ps.toList.map fun (i,x)=>(i,s.ev x))) K
 | _,_=>False
def xappB (P:Program) (o:Oper) (K:AS→Prop) (s:AS):Prop :=
 match o.op,o.dst with
 | .call ⟨.builtin .append,⟨[x,y]⟩,⟨[t,t']⟩⟩,some d=>aR s (some d) (sAppB P s d t t' (s.ev x) (s.ev y)) K
 | _,_=>False
def xopL (P:Program) (o:Oper) (K:AS→Prop) (s:AS):Prop:=xop P false o K s∨xlit P o K s∨xappB P o K s
section
variable {P:Program}{C:Ctx}{s:AS}
theorem xopL_sound {p:Plan}{a:Act}{w:World}{o:Oper}{KA:AS→Prop}(hp:SR C p s a w) (h:xopL P o KA s) (hd0:∀ t,o.dst=some t→t<s.n) {K:Act→World→Prop}{Q:Exit→Act→World→Prop}
 (hK:∀ a' w' p' s',SR C p' s' a' w'→s'.n=s.n→KA s'→K a' w') (hnd:∀ c,o.op ≠ .defer c):o.wpIn (fnc C.rd) 0 P a w K Q:=by
 rcases h with h|h|h
 ·exact xop_sound hp h hd0 hK hnd
 ·unfold xlit at h
  split at h
  ·rename_i t n ps d ho hd
   refine wpIn_of_wp hnd ?_
   have hg:=good_litBox (P:=P) (o:=o) hp ho (by rw[hd];exact h.1)
   rw[hd] at hg
   obtain⟨nx,v,w',p',hrun,hnx,hass,hSR,hrel⟩:=hg
   unfold Oper.wp
   rw[hrun]
   have hput:=hSR.put' (d:=some d) hrel (fun t ht=>by injection ht with ht;subst ht;exact hd0 _ hd)
   rcases hnx with rfl|⟨rfl,rfl⟩
   ·show K (a.put o.dst v) w'
    rw[hd]
    exact hK _ _ p' _ hput (app_n _ _ _) (h.2 hass)
   ·show K (a.put o.dst undef) w'
    rw[hd]
    exact hK _ _ p' _ hput (app_n _ _ _) (h.2 hass)
  ·exact h.elim
 ·unfold xappB at h
  split at h
  ·rename_i x y t t' d ho hd
   refine wpIn_of_wp hnd ?_
   have hg:=good_appB (P:=P) (o:=o) hp ho (by rw[hd];exact h.1)
   rw[hd] at hg
   obtain⟨nx,v,w',p',hrun,hnx,hass,hSR,hrel⟩:=hg
   unfold Oper.wp
   rw[hrun]
   have hput:=hSR.put' (d:=some d) hrel (fun t ht=>by injection ht with ht;subst ht;exact hd0 _ hd)
   rcases hnx with rfl|⟨rfl,rfl⟩
   ·show K (a.put o.dst v) w'
    rw[hd]
    exact hK _ _ p' _ hput (app_n _ _ _) (h.2 hass)
   ·show K (a.put o.dst undef) w'
    rw[hd]
    exact hK _ _ p' _ hput (app_n _ _ _) (h.2 hass)
  ·exact h.elim
end
section
variable {P:Program}{C:Ctx}{s:AS}{a:Act}{w:World}{ops:Array Oper}
end
end Go.Oc
