/- For all arguments, the given function ThrowTruths returns true: the mean of any values lies in the span of Mean in each truth, and both ends are reached by what Truth returns, which are truths; the spans of Tight hold each truth, and are the means of the values 1 for one bed and 0 for all others. No conditions beyond those of the given statement. -/
import Derived.Test.YtgkejinoaommeaaVA9
import Derived.Test.YtgkejinoaommeaaVA4
import Derived.Test.YtgkejinoaommeaaVA7
import Derived.Test.YtgkejinoaommeaaVA8
import Derived.Test.YtgkejinoaommeaaVA5
import Derived.ChangeShapes
import Derived.WideShapes
import Derived.OpenShut
import Derived.ShutString
import Derived.ChangeOld
import Derived.Carry
import Derived.Below
import Derived.Test.YtgkejinoaommeaaVA6
import Derived.JoinedOf
import Derived.Test.YtgkejinoaommeaaRows
namespace Go.Oc
open Go Go.RowKit
instance {c : Prop} [h : Decidable c] {v : AV} : Decidable (Res.when c v).pre:=h
instance {v : AV} : Decidable (Res.val v).pre:=.isTrue trivial
instance : Decidable Res.bad.pre:=.isFalse id
instance {c a : Prop} [h : Decidable c] {y : Yi} : Decidable (Res.mk c a y).pre:=h
def nilB {α : Type} (l : List α) : Decidable (l = []):=match l with
 | []=>.isTrue rfl
 | _ :: _=>.isFalse (by simp)
instance {α : Type} {l : List α} : Decidable (l = []):=nilB l
def RowC.isDead : RowC → Bool
 | .dead=>true
 | _=>false
theorem isDead_iff {c : RowC} : c = .dead ↔ c.isDead = true:=by cases c <;> simp [RowC.isDead]
instance {c : RowC} : Decidable (c = .dead):=decidable_of_iff _ isDead_iff.symm
def decNews {s : AS} {y : AV} {c : Prop} {sz : Nat} {es : List (List RV)} (h : news? s y = some (c,sz,es)) : Decidable c:=by
 unfold news? at h
 split at h
 · exact .isTrue (by injection h with h; injection h with h1 _; rw [← h1]; trivial)
 · exact .isTrue (by injection h with h; injection h with h1 _; rw [← h1]; trivial)
 · split at h
   · rename_i k n sz off m _ n' t sz' es' _
     exact decidable_of_iff (n = n' ∧ sz = sz' ∧ off + m ≤ es'.length) (by injection h with h; injection h with h1 _; rw [← h1])
   · cases h
 · cases h
def decLen {s : AS} {y : AV} {c : Prop} {m : Nat} (h : lenA s y = some (c,m)) : Decidable c:=by
 unfold lenA at h
 split at h
 · exact .isTrue (by injection h with h; injection h with h1 _; rw [← h1]; trivial)
 · exact .isTrue (by injection h with h; injection h with h1 _; rw [← h1]; trivial)
 · rename_i k n sz off m
   exact decidable_of_iff (n = s.ver k) (by injection h with h; injection h with h1 _; rw [← h1])
 · cases h
section
variable {P : Program} {s : AS}
instance {c a b : AV} : Decidable (sPick c a b).pre:=by delta sPick; split <;> infer_instance
instance {op : BinOp} {t : TypeId} {x y : AV} : Decidable (sEq P op t x y).pre:=by delta sEq; split <;> (try split) <;> infer_instance
instance {op : BinOp} {t : TypeId} {x y : AV} : Decidable (sBin P op t x y).pre:=by delta sBin; split <;> (try split) <;> infer_instance
instance {op : UnOp} {x : AV} : Decidable (sUn op x).pre:=by delta sUn; split <;> infer_instance
instance {a b : TypeId} {x : AV} : Decidable (sConv P a b x).pre:=by delta sConv; split <;> infer_instance
instance {t : TypeId} {a : AV} : Decidable (sLoad P s t a).pre:=by delta sLoad; split <;> (try split) <;> infer_instance
instance {t : TypeId} {a x : AV} : Decidable (sStore P s t a x).pre:=by delta sStore; split <;> (try split) <;> infer_instance
instance {d : Nat} {x : AV} : Decidable (sBox s d x).pre:=by delta sBox; split <;> infer_instance
instance {d : Nat} {t : TypeId} : Decidable (sAlloc P s d t).pre:=by delta sAlloc; split <;> infer_instance
instance {t : TypeId} {a : AV} {f : Nat} : Decidable (sField P s t a f).pre:=by delta sField; split <;> (try split) <;> (try split) <;> infer_instance
instance {cs : AV} {o sz : Nat} {agg : Bool} {c : Prop} [Decidable c] : Decidable (sPart cs o sz agg c).pre:=by delta sPart; split <;> infer_instance
instance {t : TypeId} {x : AV} {f : Nat} : Decidable (sFieldV P t x f).pre:=by delta sFieldV; split <;> (try split) <;> infer_instance
instance {t : TypeId} {x i : AV} : Decidable (sIndexV P t x i).pre:=by delta sIndexV; split <;> infer_instance
instance {t : TypeId} {x i : AV} : Decidable (sIndex P s t x i).pre:=by delta sIndex; split <;> (try split) <;> infer_instance
instance {x mx : AV} {lo hi : Option AV} : Decidable (sSlice3 s x lo hi mx).pre:=by
 delta sSlice3
 split
 · have:=decLen ‹lenA _ _ = some (_,_)›
   infer_instance
 · infer_instance
instance {n esz : Nat} {x : AV} {lo hi mx : Option AV} : Decidable (sSliceA n esz x lo hi mx).pre:=by delta sSliceA; split <;> infer_instance
instance {t : TypeId} {x : AV} {lo hi mx : Option AV} : Decidable (sSlice P s t x lo hi mx).pre:=by delta sSlice; split <;> (try split) <;> (try split) <;> infer_instance
instance {t : TypeId} {ps : List (Nat × AV)} : Decidable (sBuild P s t ps).pre:=by delta sBuild; split <;> (try split) <;> infer_instance
instance {t : TypeId} {n : Nat} {ps : List (Nat × AV)} : Decidable (sBuildSlice P s t n ps).pre:=by delta sBuildSlice; split <;> (try split) <;> (try split) <;> infer_instance
instance {d : Nat} {t : TypeId} {l c : AV} : Decidable (sMakeSlice P s d t l c).pre:=by delta sMakeSlice; split <;> infer_instance
instance {d : Nat} {t t' : TypeId} {x y : AV} : Decidable (sAppend P s d t t' x y).pre:=by
 delta sAppend
 split
 · rename_i h
   have:=decNews h
   infer_instance
 · rename_i h
   have:=decNews h
   infer_instance
 · rename_i h
   have:=decNews h
   split
   · infer_instance
   · split <;> infer_instance
   · infer_instance
 · infer_instance
instance {d : Nat} {t t' : TypeId} {x y : AV} : Decidable (sAppendZ P s d t t' x y).pre:=by delta sAppendZ; split <;> infer_instance
instance {t : TypeId} {x : AV} : Decidable (sCap P t x).pre:=by delta sCap; split <;> infer_instance
instance {t : TypeId} {x : AV} : Decidable (sClear P s t x).pre:=by delta sClear; split <;> (try split) <;> infer_instance
instance {t : TypeId} {x : AV} : Decidable (sLen P s t x).pre:=by delta sLen; split <;> (try split) <;> infer_instance
instance {r : Option RV} : Decidable (sMinMax r).pre:=by delta sMinMax; split <;> infer_instance
instance {x : AV} {i : Nat} : Decidable (sExtract x i).pre:=by delta sExtract; split <;> (try split) <;> infer_instance
instance {x : AV} : Decidable (sNil s x).pre:=by delta sNil; split <;> infer_instance
instance {d : Nat} {t : TypeId} : Decidable (sMakeMap P s d t).pre:=by delta sMakeMap; split <;> infer_instance
instance {t : TypeId} {x key : AV} {ok : Bool} : Decidable (sLookup P s t x key ok).pre:=by delta sLookup; split <;> (try split) <;> (try split) <;> infer_instance
instance {t : TypeId} {x key : AV} : Decidable (sMapEntry P s t x key).pre:=by delta sMapEntry; split <;> (try split) <;> (try split) <;> infer_instance
instance {x st v : AV} : Decidable (sEntryStore s x st v).pre:=by delta sEntryStore; split <;> (try split) <;> (try split) <;> infer_instance
instance {t : TypeId} {x key v : AV} : Decidable (sMapUpdate P s t x key v).pre:=by delta sMapUpdate; split <;> (try split) <;> (try split) <;> infer_instance
instance {d : Nat} {t : TypeId} {x : AV} : Decidable (sRange P s d t x).pre:=by delta sRange; split <;> (try split) <;> infer_instance
instance {x : AV} : Decidable (sEntry s x).pre:=by delta sEntry; split <;> (try split) <;> infer_instance
instance {d : Nat} {b : Builtin} {ts : List TypeId} {xs : List AV} : Decidable (sBuiltin P s d b ts xs).pre:=by delta sBuiltin; split <;> (try split) <;> infer_instance
instance decStep {o : Oper} : Decidable (step P o s).pre:=by delta step; split <;> (try split) <;> infer_instance
end
def nth : List AV → Nat → AV
 | [],_=>.r .un
 | x :: _,0=>x
 | _ :: l,t + 1=>nth l t
def setAt : List AV → Nat → AV → List AV
 | [],0,v=>[v]
 | [],d + 1,v=>.r .un :: setAt [] d v
 | _ :: l,0,v=>v :: l
 | x :: l,d + 1,v=>x :: setAt l d v
theorem nth_setAt : ∀ (l : List AV) (d : Nat) (v : AV) (t : Nat),nth (setAt l d v) t = if t = d then v else nth l t
 | [],0,v,0=>by simp [setAt,nth]
 | [],0,v,t + 1=>by simp [setAt,nth]
 | [],d + 1,v,0=>by simp [setAt,nth]
 | [],d + 1,v,t + 1=>by simp only [setAt,nth,nth_setAt [] d v t,Nat.add_right_cancel_iff]
 | x :: l,0,v,0=>by simp [setAt,nth]
 | x :: l,0,v,t + 1=>by simp [setAt,nth]
 | x :: l,d + 1,v,0=>by simp [setAt,nth]
 | x :: l,d + 1,v,t + 1=>by simp only [setAt,nth,nth_setAt l d v t,Nat.add_right_cancel_iff]
def rowAt : List (Nat × Row) → Nat → Row
 | [],_=>⟨0,.dead⟩
 | (j,r) :: l,k=>if k = j then r else rowAt l k
def setRow : List (Nat × Row) → Nat → Row → List (Nat × Row)
 | [],k,r=>[(k,r)]
 | (j,q) :: l,k,r=>if k = j then (j,r) :: l else (j,q) :: setRow l k r
theorem rowAt_setRow : ∀ (l : List (Nat × Row)) (k : Nat) (r : Row) (j : Nat),rowAt (setRow l k r) j = if j = k then r else rowAt l j
 | [],k,r,j=>rfl
 | (i, q) :: l, k, r, j => by
   unfold setRow
   split
   · rename_i e; subst e
     simp only [rowAt]
     split <;> rfl
   · rename_i e
     simp only [rowAt,rowAt_setRow l k r j]
     by_cases e1 : j = i
     · have : ¬ j = k:=by omega
       simp [e1]; omega
     · simp [e1]
structure CS where
 n : Nat
 tm : List AV
 rows : List (Nat × Row)
def CS.as (s : CS) : AS:=⟨s.n,nth s.tm,rowAt s.rows⟩
def CS.put (s : CS) (d : Option Nat) (v : AV) : CS:=match d with | some d=>⟨s.n,setAt s.tm d v,s.rows⟩ | none=>s
def CS.row (s : CS) (k : Nat) (r : Row) : CS:=⟨s.n,s.tm,setRow s.rows k r⟩
def CS.effs (s : CS) : List (Nat × Row) → CS
 | []=>s
 | (k,r) :: l=>(s.row k r).effs l
def CS.app (s : CS) (d : Option Nat) (y : Yi) : CS:=(s.effs y.eff).put d y.av
theorem as_put (s : CS) (d : Option Nat) (v : AV) : (s.put d v).as = s.as.put d v:=by
 cases d with
 | none=>rfl
 | some d =>
   simp only [CS.put,CS.as,AS.put,AS.mk.injEq,true_and,and_true]
   funext t
   rw [nth_setAt]; rfl
theorem as_row (s : CS) (k : Nat) (r : Row) : (s.row k r).as = s.as.row k r:=by
 simp only [CS.row,CS.as,AS.row,AS.mk.injEq,true_and]
 funext j
 rw [rowAt_setRow]; rfl
theorem as_effs : ∀ (l : List (Nat × Row)) (s : CS),(s.effs l).as = { s.as with rows:=l.foldl (fun f p=>upd f p.1 p.2) s.as.rows }
 | [],s=>rfl
 | (k, r) :: l, s => by
   simp only [CS.effs,as_effs l,as_row,List.foldl_cons]
   rfl
theorem as_app (s : CS) (d : Option Nat) (y : Yi) : (s.app d y).as = s.as.app d y:=by
 unfold CS.app AS.app
 rw [as_put,as_effs]
 rfl
theorem put_num (s : CS) (d : Option Nat) (v : AV) : (s.put d v).n = s.n:=by cases d <;> rfl
theorem effs_num : ∀ (l : List (Nat × Row)) (s : CS),(s.effs l).n = s.n
 | [],s=>rfl
 | (k,r) :: l,s=>by simp only [CS.effs,effs_num l]; rfl
theorem app_num (s : CS) (d : Option Nat) (y : Yi) : (s.app d y).n = s.n:=by simp only [CS.app,put_num,effs_num]
def bindL {α β : Type} (x : Option (List α)) (f : α → Option (List β)) : Option (List β) :=
 match x with
 | none=>none
 | some l=>go l
 where go : List α → Option (List β)
 | []=>some []
 | a :: l => match f a with
   | none=>none
   | some ys => match go l with
     | none=>none
     | some zs=>some (ys ++ zs)
theorem bindL_go {α β : Type} {f : α → Option (List β)} : ∀ {l : List α} {zs : List β},bindL.go f l = some zs → ∀ a ∈ l,∃ ys,f a = some ys ∧ ∀ y ∈ ys,y ∈ zs
 | [],_,_,a,ha=>by simp at ha
 | b :: l, zs, h, a, ha => by
   unfold bindL.go at h
   split at h
   · cases h
   · rename_i ys hys
     split at h
     · cases h
     · rename_i ws hws
       injection h with h; subst h
       rcases List.mem_cons.1 ha with rfl | ha
       · exact ⟨ys,hys,fun y hy=>by simp [hy]⟩
       · obtain ⟨y2,h1,h2⟩:=bindL_go hws a ha
         exact ⟨y2,h1,fun y hy=>by simp [h2 y hy]⟩
theorem bindL_spec {α β : Type} {x : Option (List α)} {f : α → Option (List β)} {zs : List β} (h : bindL x f = some zs) : ∃ l,x = some l ∧ ∀ a ∈ l,∃ ys,f a = some ys ∧ ∀ y ∈ ys,y ∈ zs:=by
 unfold bindL at h
 split at h
 · cases h
 · exact ⟨_,rfl,bindL_go h⟩
abbrev Caller:=Bool → CS → Option Nat → AV → List AV → Option CS
def Caller.ok (P : Program) (call : Caller) : Prop :=
 ∀ D s d f xs t,call D s d f xs = some t → t.n = s.n ∧ ∀ K : AS → Prop,K t.as → acall P s.as f xs (fun r=>K (s.as.put d (.r r))) ∨ (D = false ∧ (mcall P s.as d f xs K ∨ ocall P s.as d f xs K))
def each {α : Type} (f : Nat → α → CS) : List α → Nat → List CS
 | [],_=>[]
 | e :: l,i=>f i e :: each f l (i + 1)
theorem each_mem {α : Type} {f : Nat → α → CS} : ∀ {l : List α} {i j : Nat} {e : α},l[j]? = some e → f (i + j) e ∈ each f l i
 | [],_,_,_,h=>by simp at h
 | x :: l,i,0,e,h=>by simp at h; subst h; simp [each]
 | x :: l, i, j + 1, e, h => by
   simp at h
   have:=each_mem (f:=f) (i:=i + 1) h
   rw [show i + 1 + j = i + (j + 1) from by omega] at this
   simp [each,this]
theorem each_num {α : Type} {f : Nat → α → CS} {n : Nat} (h : ∀ i e,(f i e).n = n) : ∀ {l : List α} {i : Nat},∀ t ∈ each f l i,t.n = n
 | [],_,t,ht=>by simp [each] at ht
 | x :: l, i, t, ht => by
   simp only [each,List.mem_cons] at ht
   rcases ht with rfl | ht
   · exact h _ _
   · exact each_num h t ht
def nextC (s : CS) (d : Option Nat) (x : AV) : Option (List CS) :=
 match x with
 | .mi k n =>
   match rowAt s.rows k with
   | ⟨n', .mi km nm left _⟩ =>
     if n = n' ∧ nm = (rowAt s.rows km).ver ∧ k ≠ km then
      match left with
      | []=>some [s.put d (.r (.tu [.bo false]))]
      | e :: l=>some (each (fun i e'=>CS.put (s.row k ⟨n',.mi km nm ((e :: l).eraseIdx i) (some e')⟩) d (.r (.tu [.bo true,e'.1,e'.2]))) (e :: l) 0)
     else none
   | _=>none
 | _=>none
theorem nextC_ok {s : CS} {d : Option Nat} {x : AV} {L : List CS} (h : nextC s d x = some L) {K : AS → Prop} (hK : ∀ t ∈ L,K t.as) : sNext s.as d x K ∧ ∀ t ∈ L,t.n = s.n:=by
 unfold nextC at h
 split at h
 · rename_i k n
   split at h
   · rename_i n' km nm left cur hr
     split at h
     · rename_i hc
       have hr' : s.as.rows k = ⟨n',.mi km nm left cur⟩:=hr
       unfold sNext
       simp only [hr']
       split at h
       · injection h with h; subst h
         refine ⟨⟨hc.1,hc.2.1,hc.2.2,fun _=>?_,fun i e he=>by simp at he⟩,fun t ht=>?_⟩
         · rw [← as_put]; exact hK _ (by simp)
         · simp only [List.mem_singleton] at ht; rw [ht,put_num]
       · rename_i e l
         injection h with h; subst h
         refine ⟨⟨hc.1,hc.2.1,hc.2.2,fun h=>by simp at h,fun i e' he=>?_⟩,fun t ht=>?_⟩
         · rw [← as_row,← as_put]
           have:=each_mem (f:=fun i e'=>CS.put (s.row k ⟨n',.mi km nm ((e :: l).eraseIdx i) (some e')⟩) d (.r (.tu [.bo true,e'.1,e'.2]))) (i:=0) he
           rw [Nat.zero_add] at this
           exact hK _ this
         · exact each_num (fun i e=>by rw [put_num]; rfl) t ht
     · cases h
   · cases h
 · cases h
def opC (P : Program) (call : Caller) (D : Bool) (o : Oper) (s : CS) : Option (List CS) :=
 match o.op with
 | .call ⟨.value f, args, _⟩ =>
   match call D s o.dst (s.as.ev f) (args.toList.map s.as.ev) with
   | some t=>some [t]
   | none=>none
 | .next x false=>if D then none else nextC s o.dst (s.as.ev x)
 | _ =>
   if (step P o s.as).pre then
    if D && cls o == 2 && !((rowAt s.rows (o.dst.getD 0)).c.isDead && o.dst.isSome) then none
    else some [s.app o.dst (step P o s.as).y]
   else none
theorem opC_ok {P : Program} {call : Caller} (hcall : call.ok P) {D : Bool} {o : Oper} {s : CS} {L : List CS} (h : opC P call D o s = some L) {K : AS → Prop} (hK : ∀ t ∈ L,K t.as) : xop P D o K s.as ∧ ∀ t ∈ L,t.n = s.n:=by
 unfold opC at h
 split at h
 · rename_i f args ts ho
   split at h
   · rename_i t ht
     injection h with h; subst h
     obtain ⟨hn,hc⟩:=hcall _ _ _ _ _ _ ht
     have hc:=hc K (hK t (by simp))
     refine ⟨?_,fun t' ht'=>by simp only [List.mem_singleton] at ht'; rw [ht']; exact hn⟩
     unfold xop
     split
     · rename_i hD
       unfold aop
       rw [ho]
       rcases hc with hc | ⟨hc,_⟩
       · exact .inl hc
       · rw [hD] at hc; cases hc
     · rw [ho]
       rcases hc with hc | ⟨_,hc⟩
       · exact .inl hc
       · exact .inr (hc.imp id .inl)
   · cases h
 · rename_i x ho
   split at h
   · cases h
   · rename_i hD
     have:=nextC_ok h hK
     refine ⟨?_,this.2⟩
     unfold xop
     rw [if_neg hD,ho]
     exact this.1
 · rename_i h1 h2
   split at h
   · rename_i hp
     split at h
     · cases h
     · rename_i hdead
       injection h with h; subst h
       refine ⟨?_,fun t ht=>by simp only [List.mem_singleton] at ht; rw [ht,app_num]⟩
       have key : ∀ D',(D' = true → D = true) → aop P D' o K s.as:=fun D' hD'=>by
        unfold aop
        split
        · rename_i f args ts ho; exact (h1 f args ts ho).elim
        · rename_i x ho; exact (h2 x ho).elim
        · refine ⟨hp,fun hD hc=>?_,fun _=>?_⟩
          · have hD:=hD' hD
            cases e : ((rowAt s.rows (o.dst.getD 0)).c.isDead && o.dst.isSome) with
            | false=>exact (hdead (by simp only [hD,hc,e]; rfl)).elim
            | true =>
              simp only [Bool.and_eq_true] at e
              exact ⟨isDead_iff.2 e.1,e.2⟩
          · rw [← as_app]; exact hK _ (by simp)
       unfold xop
       split
       · rename_i hD; exact key true fun _=>hD
       · split
         · rename_i f args ts ho; exact (h1 f args ts ho).elim
         · rename_i x ho; exact (h2 x ho).elim
         · exact key false fun h=>by cases h
   · cases h
def runOps (P : Program) (call : Caller) (D : Bool) (ops : Array Oper) : List Oper → CS → Option (List CS)
 | [],s=>some [s]
 | o :: rest, s =>
   match o.guard with
   | none=>bindL (opC P call D o s) (runOps P call D ops rest)
   | some (g, want) =>
     match ((ops[g]?).bind (·.dst) : Option Nat) with
     | none=>runOps P call D ops rest (s.put o.dst (.r .ud))
     | some t =>
       match nth s.tm t with
       | .r (.bo b)=>if b == want then bindL (opC P call D o s) (runOps P call D ops rest) else runOps P call D ops rest (s.put o.dst (.r .ud))
       | .r .ud=>runOps P call D ops rest (s.put o.dst (.r .ud))
       | _=>none
theorem runOps_ok {P : Program} {call : Caller} (hcall : call.ok P) {D : Bool} {ops : Array Oper} {K : AS → Prop} : ∀ (l : List Oper) {s : CS} {L : List CS},runOps P call D ops l s = some L → (∀ t ∈ L,t.n = s.n → K t.as) → aops P D ops l K s.as
 | [], s, L, h, hK => by
   unfold runOps at h
   injection h with h; subst h
   exact hK s (by simp) rfl
 | o :: l, s, L, h, hK => by
   have go : ∀ {s1 : CS},s1.n = s.n → bindL (opC P call D o s1) (runOps P call D ops l) = some L → xop P D o (aops P D ops l K) s1.as:=fun hn h=>by
    obtain ⟨l1,h1,h2⟩:=bindL_spec h
    have hnum:=(opC_ok hcall h1 (K:=fun _=>True) fun _ _=>trivial).2
    refine (opC_ok hcall h1 fun t ht=>?_).1
    obtain ⟨ys,hys,hsub⟩:=h2 t ht
    exact runOps_ok hcall l hys fun t' ht' hn'=>hK t' (hsub t' ht') (by rw [hn',hnum t ht,hn])
   have sk : runOps P call D ops l (s.put o.dst (.r .ud)) = some L → aops P D ops l K (s.as.put o.dst (.r .ud)):=fun h=>by
    rw [← as_put]
    exact runOps_ok hcall l h fun t ht hn=>hK t ht (by rw [hn,put_num])
   unfold runOps at h
   unfold aops
   split at h
   · rename_i hg
     rw [hg]
     exact go rfl h
   · rename_i g want hg
     rw [hg]
     dsimp only
     split at h
     · rename_i ht; rw [ht]; exact sk h
     · rename_i t ht
       rw [ht]
       dsimp only
       split at h
       · rename_i b hb
         have hb' : s.as.tm t = .r (.bo b):=hb
         rw [hb']
         dsimp only
         split at h
         · rename_i e
           have e : b = want:=by simpa using e
           subst e
           refine ⟨fun _=>?_,fun e=>(by cases b <;> cases e)⟩
           rw [put_self hb']
           exact go rfl h
         · rename_i e
           have e : b = !want:=by cases b <;> cases want <;> simp_all
           subst e
           refine ⟨fun e=>(by cases want <;> cases e),fun _=>?_⟩
           rw [put_self hb']
           exact sk h
       · rename_i hb
         have hb' : s.as.tm t = .r .ud:=hb
         rw [hb']
         exact sk h
       · cases h
def codeOk (n : Nat) : Code → Bool
 | .region _ ops _=>dstOk ops n
 | .seq a b=>codeOk n a && codeOk n b
 | .cond _ a b=>codeOk n a && codeOk n b
 | .block _ c=>codeOk n c
 | .loop c=>codeOk n c
 | _=>true
structure Modes where
 fs : List (FuncId × Nat)
def modeOf : List (FuncId × Nat) → FuncId → Option Nat
 | [],_=>none
 | (g,m) :: l,f=>if f = g then some m else modeOf l f
def fnOk (P : Program) (f : FuncId) : Bool :=
 match P.funcs[f]? with
 | some fn => match fn.body with
   | some c=>codeOk fn.ntmps c && callable P f
   | none=>false
 | none=>false
def allOk (P : Program) : List (FuncId × Nat) → Bool
 | []=>true
 | (f,_) :: l=>fnOk P f && allOk P l
theorem allOk_get {P : Program} : ∀ {l : List (FuncId × Nat)} {f : FuncId} {m : Nat},allOk P l = true → modeOf l f = some m → fnOk P f = true
 | [],_,_,_,h=>by simp [modeOf] at h
 | (g, k) :: l, f, m, ha, h => by
   simp only [allOk,Bool.and_eq_true] at ha
   unfold modeOf at h
   split at h
   · rename_i e; subst e; exact ha.1
   · exact allOk_get ha.2 h
mutual
def snapB (rows : Nat → Row) : AV → Bool
 | .r _=>true
 | .os k n sz off m=>n == (rows k).ver && match (rows k).c with | .arr _ sz' es=>sz == sz' && decide (off + m ≤ es.length) | _=>false
 | .pt k n off=>n == (rows k).ver && match (rows k).c with | .box cs=>snap1B rows (cs.drop off) | _=>false
 | .pe k n sz idx _=>n == (rows k).ver && match (rows k).c with | .arr _ sz' es=>sz == sz' && decide (idx < es.length) | _=>false
 | .fn _ cs=>snapBL rows cs
 | .ag cs=>snapBL rows cs
 | .tu cs=>snapBL rows cs
 | .mp _ _=>false
 | .mi _ _=>false
 | .pu _ _ _=>false
def snapBL (rows : Nat → Row) : List AV → Bool
 | []=>true
 | x :: xs=>snapB rows x && snapBL rows xs
def snap1B (rows : Nat → Row) : List AV → Bool
 | []=>true
 | .os k n sz off m :: xs=>(n == (rows k).ver && match (rows k).c with | .arr _ sz' es=>sz == sz' && decide (off + m ≤ es.length) | _=>false) && snap1B rows xs
 | _ :: xs=>snap1B rows xs
end
end Go.Oc

namespace Go.Oc
open Go Go.RowKit
section
variable {rows : Nat → Row}
theorem osB {k n sz off m : Nat} (h : (n == (rows k).ver && match (rows k).c with | .arr _ sz' es=>sz == sz' && decide (off + m ≤ es.length) | _=>false) = true) :
 n = (rows k).ver ∧ match (rows k).c with | .arr _ sz' es=>sz = sz' ∧ off + m ≤ es.length | .arc _ sz' es _=>sz = sz' ∧ off + m ≤ es.length | _=>False:=by
 simp only [Bool.and_eq_true,beq_iff_eq] at h
 refine ⟨h.1,?_⟩
 have h:=h.2
 split at h
 · rename_i e; simp only [e]; simpa using h
 · cases h
theorem snap1B_ok : ∀ (xs : List AV),snap1B rows xs = true → snap1PL rows xs
 | [],_=>trivial
 | x :: xs, h => by
   cases x with
   | os k n sz off m =>
     simp only [snap1B,Bool.and_eq_true (_ && _)] at h
     exact ⟨osB h.1,snap1B_ok xs h.2⟩
   | _=>simp only [snap1B] at h; exact ⟨trivial,snap1B_ok xs h⟩
mutual
theorem snapB_ok : ∀ (x : AV),snapB rows x = true → snapP rows x
 | .r _,_=>by simp only [snapP]
 | .os k n sz off m,h=>by simp only [snapB] at h; simp only [snapP]; exact ⟨(osB h).1,osP (osB h).2⟩
 | .pt k n off, h => by
   simp only [snapB,Bool.and_eq_true,beq_iff_eq] at h
   simp only [snapP]
   refine ⟨h.1,?_⟩
   have h:=h.2
   generalize (rows k).c = c at h ⊢
   cases c <;> first | exact snap1B_ok _ h | cases h
 | .pe k n sz idx _, h => by
   simp only [snapB,Bool.and_eq_true,beq_iff_eq] at h
   simp only [snapP]
   refine ⟨h.1,?_⟩
   have h:=h.2
   generalize (rows k).c = c at h ⊢
   cases c <;> first | (simp only [Bool.and_eq_true,beq_iff_eq,decide_eq_true_eq] at h; exact h) | cases h
 | .fn _ cs,h=>by simp only [snapB] at h; simp only [snapP]; exact snapBL_ok cs h
 | .ag cs,h=>by simp only [snapB] at h; simp only [snapP]; exact snapBL_ok cs h
 | .tu cs,h=>by simp only [snapB] at h; simp only [snapP]; exact snapBL_ok cs h
 | .mp _ _,h=>by simp [snapB] at h
 | .mi _ _,h=>by simp [snapB] at h
 | .pu _ _ _,h=>by simp [snapB] at h
theorem snapBL_ok : ∀ (xs : List AV),snapBL rows xs = true → snapPL rows xs
 | [],_=>trivial
 | x :: xs, h => by
   simp only [snapBL,Bool.and_eq_true] at h
   exact ⟨snapB_ok x h.1,snapBL_ok xs h.2⟩
end
end
instance {P : Program} {s : AS} {v : ResultVar} : Decidable (resA P s v).pre:=match v with
 | .tmp _=>.isTrue trivial
 | .cell a t=>inferInstanceAs (Decidable (sLoad P s t (s.tm a)).pre)
def resList (P : Program) (s : AS) : List ResultVar → Option (List RV)
 | []=>some []
 | v :: vs =>
   if (resA P s v).pre then
    if snapB s.rows (resA P s v).y.av then
     match resList P s vs with
     | some rs=>some (snapV s.rows (resA P s v).y.av :: rs)
     | none=>none
    else none
   else none
theorem resList_ok {P : Program} {s : AS} : ∀ {vs : List ResultVar} {rs : List RV},resList P s vs = some rs → resOk P s vs rs
 | [],rs,h=>by injection h with h; exact h.symm
 | v :: vs, rs, h => by
   unfold resList at h
   split at h
   · rename_i hp
     split at h
     · rename_i hs
       split at h
       · rename_i rs' hr
         injection h with h; subst h
         exact ⟨hp,snapB_ok _ hs,_,rs',rfl,leL_refl.le_refl _,resList_ok hr⟩
       · cases h
     · cases h
   · cases h
abbrev Outs:=List (Exit × CS)
def endRs (P : Program) (res : List ResultVar) (x : Exit × CS) : Option (List RV) :=
 match x.1 with
 | .normal=>resList P x.2.as res
 | .ret=>resList P x.2.as res
 | _=>none
theorem endRs_ok {P : Program} {res : List ResultVar} {x : Exit × CS} {rs : List RV} (h : endRs P res x = some rs) : fpostL P res rs x.1 x.2.as:=by
 obtain ⟨e,t⟩:=x
 unfold endRs at h
 cases e <;> first | exact resList_ok h | cases h
def sameRs : List RV → List RV → Bool
 | [],[]=>true
 | .bo a :: l,.bo b :: l'=>(a == b) && sameRs l l'
 | .it .i64 a :: l,.it .i64 b :: l'=>(a == b) && sameRs l l'
 | _,_=>false
theorem sameRs_ok : ∀ {l l' : List RV},sameRs l l' = true → l = l':=fun {l l'} h=>by
 fun_induction sameRs l l' with
 | case1=>rfl
 | case2 a l b l' ih=>simp only [Bool.and_eq_true,beq_iff_eq] at h; rw [h.1,ih h.2]
 | case3 a l b l' ih=>simp only [Bool.and_eq_true,beq_iff_eq] at h; rw [h.1,ih h.2]
 | case4=>cases h
def agree (P : Program) (res : List ResultVar) : Outs → Option (List RV)
 | []=>none
 | [x]=>endRs P res x
 | x :: l => match endRs P res x, agree P res l with
   | some r,some r'=>if sameRs r r' then some r else none
   | _,_=>none
theorem agree_ok {P : Program} {res : List ResultVar} : ∀ {L : Outs} {rs : List RV},agree P res L = some rs → ∀ x ∈ L,fpostL P res rs x.1 x.2.as
 | [],_,h=>by simp [agree] at h
 | [x], rs, h => fun y hy => by
   simp only [List.mem_singleton] at hy
   subst hy
   exact endRs_ok (by simpa only [agree] using h)
 | x :: y :: l, rs, h => fun z hz => by
   simp only [agree] at h
   split at h
   · rename_i r r' h1 h2
     split at h
     · rename_i e
       injection h with h; subst h
       have e:=sameRs_ok e
       subst e
       rcases List.mem_cons.1 hz with rfl | hz
       · exact endRs_ok h1
       · exact agree_ok (L:=y :: l) h2 z hz
     · cases h
   · cases h
def isEnd : Exit → Bool
 | .normal=>true
 | .ret=>true
 | _=>false
def callA (P : Program) (ex : Code → CS → Option Outs) (fn : Func) (c : Code) (args : List RV) : Option RV :=
 if args.length ≤ fn.ntmps then
  match ex c ⟨fn.ntmps,args.map .r,[]⟩ with
  | some L => match agree P fn.results.toList L with
    | some rs=>some (resV rs)
    | none=>none
  | none=>none
 else none
def callO (P : Program) (ex : Code → CS → Option Outs) (fn : Func) (c : Code) (args : List RV) : Option (Nat × Nat × List (List RV) × Nat) :=
 if args.length ≤ fn.ntmps then
  match fn.results.toList,ex c ⟨fn.ntmps,args.map .r,[]⟩ with
  | [rv], some [(e, t)] =>
    if isEnd e then
    if (resA P t.as rv).pre then
     match (resA P t.as rv).y.av with
     | .os j n sz off m =>
       match rowAt t.rows j with
       | ⟨n',.arr ty sz' es⟩=>if n == n' && sz == sz' && off == 0 && es.all RV.flatL then some (ty,sz,es,m) else none
       | _=>none
     | _=>none
    else none
    else none
  | _,_=>none
 else none
mutual
def keysA : AV → List Nat
 | .pt k _ _=>[k]
 | .pe k _ _ _ _=>[k]
 | .os k _ _ _ _=>[k]
 | .mp k _=>[k]
 | .fn _ cs=>keysL cs
 | .ag cs=>keysL cs
 | .tu cs=>keysL cs
 | _=>[]
def keysL : List AV → List Nat
 | []=>[]
 | x :: xs=>keysA x ++ keysL xs
end
def keysB (rows : Nat → Row) : List Nat → List Nat
 | []=>[]
 | k :: ks=>k :: ((match (rows k).c with | .box cs=>keysL cs | _=>[]) ++ keysB rows ks)
def mkRho : List Nat → Nat → List (Nat × Nat)
 | [],_=>[]
 | k :: ks,i=>if (k :: ks).length > 1 && ks.contains k then mkRho ks i else (i,k) :: mkRho ks (i + 1)
def lendRows (ρ : List (Nat × Nat)) (s : AS) : List (Nat × Nat) → Option (List (Nat × RowC))
 | []=>some []
 | (pk, ck) :: l => match lendC ρ s.ver (s.rows ck).c, lendRows ρ s l with
   | some c,some L=>some ((pk,c) :: L)
   | _,_=>none
theorem lendRows_ok {ρ : List (Nat × Nat)} {s : AS} : ∀ {l : List (Nat × Nat)} {L : List (Nat × RowC)},lendRows ρ s l = some L → lendOk ρ s l L
 | [],L,h=>by injection h with h; subst h; trivial
 | (pk, ck) :: l, L, h => by
   unfold lendRows at h
   split at h
   · rename_i c L' h1 h2
     injection h with h; subst h
     exact ⟨rfl,h1,lendRows_ok h2⟩
   · cases h
def frzB (ks : List (Nat × RowC)) (rows : Nat → Row) : AV → Bool
 | .os j n sz off m=>if keyIn ks j then true else (decide (j < 1000) && snapB rows (.os j n sz off m))
 | _=>true
theorem frzB_ok {ks : List (Nat × RowC)} {rows : Nat → Row} {x : AV} (h : frzB ks rows x = true) : frzP1 ks rows x:=by
 cases x with
 | os j n sz off m =>
   simp only [frzB] at h
   simp only [frzP1]
   split at h
   · rename_i e; rw [if_pos e]; trivial
   · rename_i e
     rw [if_neg e]
     simp only [Bool.and_eq_true,decide_eq_true_eq] at h
     refine ⟨h.1,?_⟩
     have h2:=h.2
     simp only [snapB] at h2
     have h3:=osB h2
     refine ⟨h3.1,?_⟩
     have h4:=h3.2
     generalize (rows j).c = c at h4 ⊢
     cases c <;> exact h4
 | _=>simp only [frzP1]
def frzBL (ks : List (Nat × RowC)) (rows : Nat → Row) : List AV → Bool
 | []=>true
 | x :: xs=>frzB ks rows x && frzBL ks rows xs
theorem frzBL_ok {ks : List (Nat × RowC)} {rows : Nat → Row} : ∀ {xs : List AV},frzBL ks rows xs = true → frzPL ks rows xs
 | [],_=>trivial
 | x :: xs, h => by
   simp only [frzBL,Bool.and_eq_true] at h
   exact ⟨frzB_ok h.1,frzBL_ok h.2⟩
def frzBC (ks : List (Nat × RowC)) (rows : Nat → Row) : RowC → Bool
 | .box cs=>frzBL ks rows cs
 | _=>true
theorem frzBC_ok {ks : List (Nat × RowC)} {rows : Nat → Row} {c : RowC} (h : frzBC ks rows c = true) : frzPC ks rows c:=by
 cases c <;> first | exact frzBL_ok h | trivial
def finM (ks : List (Nat × RowC)) (rows : Nat → Row) : List (Nat × RowC) → Option (List (Nat × RowC))
 | []=>some []
 | (k,_) :: L=>if okC (rows k).c && frzBC ks rows (rows k).c then match finM ks rows L with | some L'=>some ((k,frzC ks rows (rows k).c) :: L') | none=>none else none
theorem finM_ok {ks : List (Nat × RowC)} {rows : Nat → Row} : ∀ {L L' : List (Nat × RowC)},finM ks rows L = some L' → mfin ks rows L L'
 | [],L',h=>by injection h with h; subst h; trivial
 | (k, c) :: L, L', h => by
   unfold finM at h
   split at h
   · rename_i hc
     simp only [Bool.and_eq_true] at hc
     split at h
     · rename_i L'' h2
       injection h with h; subst h
       exact ⟨rfl,hc.1,frzBC_ok hc.2,rfl,finM_ok h2⟩
     · cases h
   · cases h
def resListM (P : Program) (ks : List (Nat × RowC)) (s : AS) : List ResultVar → Option (List AV)
 | []=>some []
 | v :: vs =>
   if (resA P s v).pre then
    if frzB ks s.rows (resA P s v).y.av then
     match resListM P ks s vs with
     | some rs=>some (frz1 ks s.rows (resA P s v).y.av :: rs)
     | none=>none
    else none
   else none
theorem resListM_ok {P : Program} {ks : List (Nat × RowC)} {s : AS} : ∀ {vs : List ResultVar} {rs : List AV},resListM P ks s vs = some rs → resM P ks s vs rs
 | [],rs,h=>by injection h with h; exact h.symm
 | v :: vs, rs, h => by
   unfold resListM at h
   split at h
   · rename_i hp
     split at h
     · rename_i hs
       split at h
       · rename_i rs' hr
         injection h with h; subst h
         exact ⟨hp,frzB_ok hs,rs',rfl,resListM_ok hr⟩
       · cases h
     · cases h
   · cases h
def rowsOf : List (Nat × RowC) → List (Nat × Row)
 | []=>[]
 | (k,c) :: L=>(k,⟨0,c⟩) :: rowsOf L
def callM (P : Program) (ex : Code → CS → Option Outs) (fn : Func) (c : Code) (L : List (Nat × RowC)) (args : List AV) : Option (List (Nat × RowC) × AV) :=
 if args.length ≤ fn.ntmps && pinned L then
  match ex c ⟨fn.ntmps,args,rowsOf L⟩ with
  | some [(e, t)] =>
    if isEnd e then
     match finM L t.as.rows L,resListM P L t.as fn.results.toList with
     | some L',some rs=>some (L',resMV rs)
     | _,_=>none
    else none
  | _=>none
 else none
def putRows (s : CS) (L' : List (Nat × RowC)) (ver : Nat → Nat) (ρ : List (Nat × Nat)) : List (Nat × Nat) → CS
 | []=>s
 | (pk,ck) :: l=>putRows (s.row ck ⟨ver ck,backC ρ ver (lookc L' pk)⟩) L' ver ρ l
def callC (P : Program) (fs : List (FuncId × Nat)) (ex : Code → CS → Option Outs) : Caller:=fun D s d f xs =>
 match callee? f with
 | none=>none
 | some (F, cs) =>
   match modeOf fs F,P.funcs[F]? with
   | some m, some fn =>
     match fn.body with
     | none=>none
     | some c =>
       if m == 1 && !D then
        match d with
        | some dd =>
          if snapBL s.as.rows (xs ++ cs) && decide (dd < 1000) then
           match callO P ex fn c (snapVL s.as.rows (xs ++ cs)) with
           | some (t,sz,es,m)=>some ((s.row dd ⟨(s.as.rows dd).ver + 1,.arr t sz es⟩).put d (.os dd ((s.as.rows dd).ver + 1) sz 0 m))
           | none=>none
          else none
        | none=>none
       else if m == 2 && !D then
        let ρ:=mkRho (keysB s.as.rows (keysL (xs ++ cs))) 1000
        match lendL ρ s.as.ver (xs ++ cs),lendRows ρ s.as ρ with
        | some args, some L =>
          match callM P ex fn c L args with
          | some (L',r)=>if apart ρ && sameKeys ρ L' then some ((putRows s L' s.as.ver ρ ρ).put d (backA ρ s.as.ver r)) else none
          | none=>none
        | _,_=>none
       else if snapBL s.as.rows (xs ++ cs) then
        match callA P ex fn c (snapVL s.as.rows (xs ++ cs)) with
        | some r=>if r.flatB || AV.pureL (xs ++ cs) then some (s.put d (.r r)) else none
        | none=>none
       else none
   | _,_=>none
mutual
def RV.dl : RV → RV → Bool
 | .ns,.sl _ []=>true
 | .sl s es,.sl t fs=>s == t && RV.dlE es fs
 | .ag xs,.ag ys=>RV.dlL xs ys
 | .rp xs,.rp ys=>RV.dlL xs ys
 | .fn f xs,.fn g ys=>f == g && RV.dlL xs ys
 | .it .i64 n,.it .i64 m=>n == m
 | .bo a,.bo b=>a == b
 | .ns,.ns=>true
 | .np,.np=>true
 | .nf,.nf=>true
 | _,_=>false
def RV.dlL : List RV → List RV → Bool
 | [],[]=>true
 | x :: xs,y :: ys=>RV.dl x y && RV.dlL xs ys
 | _,_=>false
def RV.dlE : List (List RV) → List (List RV) → Bool
 | [],[]=>true
 | x :: xs,y :: ys=>RV.dlL x y && RV.dlE xs ys
 | _,_=>false
end
theorem dlL_len : ∀ {xs ys : List RV},RV.dlL xs ys = true → xs.length = ys.length
 | [],[],_=>rfl
 | x :: xs, y :: ys, h => by
   simp only [RV.dlL,Bool.and_eq_true] at h
   simp [dlL_len h.2]
 | [],_ :: _,h=>by simp [RV.dlL] at h
 | _ :: _,[],h=>by simp [RV.dlL] at h
theorem dlE_len : ∀ {xs ys : List (List RV)},RV.dlE xs ys = true → xs.length = ys.length
 | [],[],_=>rfl
 | x :: xs, y :: ys, h => by
   simp only [RV.dlE,Bool.and_eq_true] at h
   simp [dlE_len h.2]
 | [],_ :: _,h=>by simp [RV.dlE] at h
 | _ :: _,[],h=>by simp [RV.dlE] at h
section
variable {w : World} {R : Nat → Prop}
mutual
theorem dl_rel : ∀ (x y : RV) (v : Value),RV.dl x y = true → x.rel w R v → y.rel w R v
 | .ns, .sl sz [], v, _, h => by
   simp only [RV.rel] at h ⊢
   obtain ⟨A,rfl⟩:=h
   exact ⟨A,0,rfl,Nat.le_refl _,Nat.zero_le _,fun h=>absurd rfl h⟩
 | .sl s es, .sl t fs, v, hd, h => by
   simp only [RV.dl,Bool.and_eq_true,beq_iff_eq] at hd
   obtain ⟨rfl,hd⟩:=hd
   have hl:=dlE_len hd
   simp only [RV.rel] at h ⊢
   obtain ⟨A,c,hv,h1,h2,h3⟩:=h
   refine ⟨A,c,by rw [← hl]; exact hv,by rw [← hl]; exact h1,h2,fun hne=>?_⟩
   obtain ⟨ad,e,hr,hc⟩:=h3 (fun e=>hne (by rw [e] at hl; exact List.eq_nil_of_length_eq_zero hl.symm))
   exact ⟨ad,e,hr,dl_relE s es fs ad 0 hd hc⟩
 | .ag xs, .ag ys, v, hd, h => by
   simp only [RV.dl] at hd
   simp only [RV.rel] at h ⊢
   obtain ⟨vs,e,h1,hV⟩:=h
   exact ⟨vs,e,h1,dl_relV xs ys _ hd hV⟩
 | .rp xs, .rp ys, v, hd, h => by
   simp only [RV.dl] at hd
   simp only [RV.rel] at h ⊢
   obtain ⟨ad,e,hR,hC⟩:=h
   exact ⟨ad,e,hR,dl_relC xs ys _ _ hd hC⟩
 | .fn f xs, .fn g ys, v, hd, h => by
   simp only [RV.dl,Bool.and_eq_true,beq_iff_eq] at hd
   simp only [RV.rel] at h ⊢
   obtain ⟨vs,e,hV⟩:=h
   exact ⟨vs,by rw [← hd.1]; exact e,dl_relV xs ys _ hd.2 hV⟩
 | .it .i64 n, .it .i64 m, v, hd, h => by
   simp only [RV.dl,beq_iff_eq] at hd
   subst hd; exact h
 | .bo a, .bo b, v, hd, h => by
   simp only [RV.dl,beq_iff_eq] at hd
   subst hd; exact h
 | .ns,.ns,_,_,h=>h
 | .np,.np,_,_,h=>h
 | .nf,.nf,_,_,h=>h
theorem dl_relV : ∀ (xs ys : List RV) (vs : List Value),RV.dlL xs ys = true → RV.relV w R xs vs → RV.relV w R ys vs
 | [],[],_,_,h=>h
 | x :: xs, y :: ys, vs, hle, h => by
   simp only [RV.dlL,Bool.and_eq_true] at hle
   simp only [RV.relV] at h ⊢
   obtain ⟨u,us,e,h1,h2⟩:=h
   exact ⟨u,us,e,dl_rel x y u hle.1 h1,dl_relV xs ys us hle.2 h2⟩
 | [],_ :: _,_,hle,_=>by simp [RV.dlL] at hle
 | _ :: _,[],_,hle,_=>by simp [RV.dlL] at hle
theorem dl_relC : ∀ (xs ys : List RV) (ad : Addr) (j : Nat),RV.dlL xs ys = true → RV.relC w R xs ad j → RV.relC w R ys ad j
 | [],[],_,_,_,h=>h
 | x :: xs, y :: ys, ad, j, hle, h => by
   simp only [RV.dlL,Bool.and_eq_true] at hle
   simp only [RV.relC] at h ⊢
   obtain ⟨⟨u,hu,ho,h1⟩,h2⟩:=h
   exact ⟨⟨u,hu,ho,dl_rel x y u hle.1 h1⟩,dl_relC xs ys ad (j + 1) hle.2 h2⟩
 | [],_ :: _,_,_,hle,_=>by simp [RV.dlL] at hle
 | _ :: _,[],_,_,hle,_=>by simp [RV.dlL] at hle
theorem dl_relE : ∀ (sz : Nat) (xs ys : List (List RV)) (ad : Addr) (j : Nat),RV.dlE xs ys = true → RV.relE w R sz xs ad j → RV.relE w R sz ys ad j
 | _,[],[],_,_,_,h=>h
 | sz, x :: xs, y :: ys, ad, j, hle, h => by
   simp only [RV.dlE,Bool.and_eq_true] at hle
   simp only [RV.relE] at h ⊢
   exact ⟨by rw [← dlL_len hle.1]; exact h.1,dl_relC x y ad j hle.1 h.2.1,dl_relE sz xs ys ad (j + sz) hle.2 h.2.2⟩
 | _,[],_ :: _,_,_,hle,_=>by simp [RV.dlE] at hle
 | _,_ :: _,[],_,_,hle,_=>by simp [RV.dlE] at hle
end
end
theorem acalls_dl {P : Program} {f : FuncId} {xs ys : List RV} {r : RV} (h : ACalls P f ys r) (hd : RV.dlL xs ys = true) : ACalls P f xs r :=
 ⟨h.1,fun w R vs hR hv=>h.2 w R vs hR (dl_relV xs ys _ hd hv)⟩
abbrev Orc:=List (FuncId × List RV × RV)
def orcGet : Orc → FuncId → List RV → Option RV
 | [],_,_=>none
 | (g,ys,r) :: l,f,xs=>if f == g && RV.dlL xs ys then some r else orcGet l f xs
def orcOk (P : Program) : Orc → Prop
 | []=>True
 | (g,ys,r) :: l=>ACalls P g ys r ∧ orcOk P l
theorem orcGet_ok {P : Program} : ∀ {l : Orc} {f : FuncId} {xs : List RV} {r : RV},orcOk P l → orcGet l f xs = some r → ACalls P f xs r
 | [],_,_,_,_,h=>by simp [orcGet] at h
 | (g, ys, r') :: l, f, xs, r, ho, h => by
   unfold orcGet at h
   split at h
   · rename_i hc
     simp only [Bool.and_eq_true,beq_iff_eq] at hc
     injection h with h; subst h
     rw [hc.1]
     exact acalls_dl ho.1 hc.2
   · exact orcGet_ok ho.2 h
def callR (orc : Orc) : Caller:=fun _ s d f xs =>
 match callee? f with
 | none=>none
 | some (F, cs) =>
   if snapBL s.as.rows (xs ++ cs) then
    match orcGet orc F (snapVL s.as.rows (xs ++ cs)) with
    | some r=>if r.flatB || AV.pureL (xs ++ cs) then some (s.put d (.r r)) else none
    | none=>none
   else none
def callX (P : Program) (fs : List (FuncId × Nat)) (orc : Orc) (ex : Code → CS → Option Outs) : Caller:=fun D s d f xs =>
 match callC P fs ex D s d f xs with
 | some t=>some t
 | none=>callR orc D s d f xs
def norm : List CS → Outs
 | []=>[]
 | t :: l=>(.normal,t) :: norm l
def leave (id : Nat) : Exit → Exit
 | .exit id'=>if id' = id then .normal else .exit id'
 | e=>e
def blk (id : Nat) : Outs → Outs
 | []=>[]
 | (e,t) :: l=>(leave id e,t) :: blk id l
def killOps : List Oper → CS → CS
 | [],s=>s
 | o :: l,s=>if cls o == 2 && decide (o.dst.getD 0 < 1000) then killOps l (s.row (o.dst.getD 0) ⟨(rowAt s.rows (o.dst.getD 0)).ver + 1,.dead⟩) else killOps l s
def killD (D : Bool) (l : List Oper) (s : CS) : CS:=match D with | true=>killOps l s | false=>s
def slots : List Operand → List Nat
 | []=>[]
 | .tmp t :: l=>t :: slots l
 | _ :: l=>slots l
def kappa (ops : Array Oper) (s : CS) : List Oper → List (Nat × Option Nat)
 | []=>[]
 | o :: l=>(slots o.op.operands.toList).map (fun t=>(t,keyOf (nth s.tm t))) ++ kappa ops s l
def drawOk (D : Bool) (ops : Array Oper) (s : CS) : Bool:=!D || lexOk ops || lexOk2 ops (kappa ops s ops.toList)
def exec (P : Program) (fs : List (FuncId × Nat)) (orc : Orc) : Nat → Code → CS → Option Outs
 | 0,_,_=>none
 | k + 1,.region _ ops D,s=>if drawOk D ops (killD D ops.toList s) then match runOps P (callX P fs orc (exec P fs orc k)) D ops ops.toList (killD D ops.toList s) with | some L=>some (norm L) | none=>none else none
 | k + 1,.seq a b,s=>bindL (exec P fs orc k a s) fun x=>match x.1 with | .normal=>exec P fs orc k b x.2 | e=>some [(e,x.2)]
 | k + 1,.loop c,s=>bindL (exec P fs orc k c s) fun x=>match x.1 with | .normal=>exec P fs orc k (.loop c) x.2 | e=>some [(e,x.2)]
 | k + 1,.cond c a b,s=>match s.as.ev c with | .r (.bo t)=>bif t then exec P fs orc k a s else exec P fs orc k b s | _=>none
 | k + 1,.block id c,s=>match exec P fs orc k c s with | some L=>some (blk id L) | none=>none
 | _ + 1,.skip,s=>some [(.normal,s)]
 | _ + 1,.label _,s=>some [(.normal,s)]
 | _ + 1,.exit id,s=>some [(.exit id,s)]
 | _ + 1,.ret,s=>some [(.ret,s)]
 | _ + 1,_,_=>none
def evalX (P : Program) (fs : List (FuncId × Nat)) (orc : Orc) (k : Nat) (F : FuncId) (args : List RV) : Option RV :=
 match P.funcs[F]? with
 | some fn => match fn.body with
   | some c=>callA P (exec P fs orc k) fn c args
   | none=>none
 | none=>none
def evalA (P : Program) (fs : List (FuncId × Nat)) (k : Nat) (F : FuncId) (args : List RV) : Option RV:=evalX P fs [] k F args
end Go.Oc

namespace Go.Oc
open Go Go.RowKit
section
variable {P : Program}
theorem norm_mem : ∀ {L : List CS} {t : CS},t ∈ L → (Exit.normal,t) ∈ norm L
 | [],_,h=>by simp at h
 | x :: l, t, h => by
   rcases List.mem_cons.1 h with rfl | h
   · simp [norm]
   · simp [norm,norm_mem h]
theorem blk_mem {id : Nat} : ∀ {L : Outs} {e : Exit} {t : CS},(e,t) ∈ L → (leave id e,t) ∈ blk id L
 | [],_,_,h=>by simp at h
 | (e', t') :: l, e, t, h => by
   rcases List.mem_cons.1 h with h | h
   · injection h with h1 h2; subst h1 h2; simp [blk]
   · simp [blk,blk_mem h]
theorem nth_look : ∀ (xs : List AV) (k t : Nat),look (argA k xs) (k + t) = nth xs t
 | [],_,_=>by simp [argA,look_nil,nth]
 | x :: xs,k,0=>by simp [argA,look_cons,nth]
 | x :: xs, k, t + 1 => by
   have:=nth_look xs (k + 1) t
   rw [show k + 1 + t = k + (t + 1) from by omega] at this
   simp only [argA,look_cons,nth,this]
   rw [if_neg (by omega)]
theorem argL_A : ∀ (xs : List RV) (k : Nat),argL k xs = argA k (xs.map .r)
 | [],_=>rfl
 | x :: xs,k=>by simp only [argL,argA,List.map_cons,argL_A xs]
theorem rowsOf_at : ∀ (L : List (Nat × RowC)) (k : Nat),rowAt (rowsOf L) k = ⟨0,lookc L k⟩
 | [],_=>rfl
 | (j, c) :: L, k => by
   simp only [rowsOf,rowAt,lookc_cons,rowsOf_at L k]
   split <;> rfl
theorem start_as {n : Nat} {xs : List AV} {L : List (Nat × RowC)} : (CS.mk n xs (rowsOf L)).as = st n (argA 0 xs) (fun _=>0) L:=by
 simp only [CS.as,st,AS.mk.injEq,true_and]
 refine ⟨?_,funext fun k=>rowsOf_at L k⟩
 funext t
 have:=nth_look xs 0 t
 rw [Nat.zero_add] at this
 exact this.symm
theorem start_as0 {n : Nat} {xs : List RV} : (CS.mk n (xs.map .r) []).as = st n (argL 0 xs) (fun _=>0) []:=by
 rw [argL_A]
 exact start_as (L:=[])
theorem as_putRows {L' : List (Nat × RowC)} {ver : Nat → Nat} {ρ : List (Nat × Nat)} : ∀ (l : List (Nat × Nat)) (s : CS),(putRows s L' ver ρ l).as = { s.as with rows:=backRows ρ ver L' l s.as.rows }
 | [],s=>rfl
 | (pk, ck) :: l, s => by
   simp only [putRows,as_putRows l,as_row,backRows]
   rfl
theorem putRows_num {L' : List (Nat × RowC)} {ver : Nat → Nat} {ρ : List (Nat × Nat)} : ∀ (l : List (Nat × Nat)) (s : CS),(putRows s L' ver ρ l).n = s.n
 | [],s=>rfl
 | (pk,ck) :: l,s=>by simp only [putRows,putRows_num l]; rfl
theorem killOps_sub : ∀ (l : List Oper) (s : CS),Sub s.as (killOps l s).as ∧ (killOps l s).n = s.n
 | [],s=>⟨Sub.refl _,rfl⟩
 | o :: l, s => by
   unfold killOps
   split
   · rename_i h
     simp only [Bool.and_eq_true,decide_eq_true_eq] at h
     obtain ⟨h1,h2⟩:=killOps_sub l (s.row (o.dst.getD 0) ⟨(rowAt s.rows (o.dst.getD 0)).ver + 1,.dead⟩)
     refine ⟨Sub.trans ?_ h1,h2⟩
     rw [as_row]
     exact sub_kill s.as (o.dst.getD 0) h.2
   · exact killOps_sub l s
theorem killD_sub (D : Bool) (l : List Oper) (s : CS) : Sub s.as (killD D l s).as ∧ (killD D l s).n = s.n:=by
 cases D with
 | true=>exact killOps_sub l s
 | false=>exact ⟨Sub.refl _,rfl⟩
def Good (P : Program) (ex : Code → CS → Option Outs) : Prop:=∀ c t L,codeOk t.n c = true → ex c t = some L → (∀ x ∈ L,x.2.n = t.n) ∧ ∀ C Q,(∀ x ∈ L,Q x.1 x.2.as) → awp P C c Q t.as
theorem callA_ok {ex : Code → CS → Option Outs} (hex : Good P ex) {F : FuncId} {fn : Func} {c : Code} {args : List RV} {r : RV} (hF : P.funcs[F]? = some fn) (hb : fn.body = some c) (hok : fnOk P F = true) (h : callA P ex fn c args = some r) : ACalls P F args r:=by
 unfold fnOk at hok
 simp only [hF,hb,Bool.and_eq_true] at hok
 unfold callA at h
 split at h
 · rename_i hlen
   split at h
   · rename_i L hL
     split at h
     · rename_i rs hrs
       injection h with h
       have hag:=agree_ok hrs
       refine acalls_of hF hb hok.2 rfl hlen h fun C=>zw (sub_look (argL 0 args) fun p hp=>?_) ?_
       · obtain ⟨i,x,rfl,e⟩:=argL_mem p hp
         simp only [argTm,Nat.zero_add,e]
       · have:=((hex c _ L hok.1 hL).2 C (fpost P fn rs) fun x hx=>?_)
         · rw [start_as0] at this
           exact this
         · have:=hag x hx
           obtain ⟨e,t⟩:=x
           cases e <;> exact this
     · cases h
   · cases h
 · cases h
theorem callO_ok {ex : Code → CS → Option Outs} (hex : Good P ex) {F : FuncId} {fn : Func} {c : Code} {args : List RV} {ty sz m : Nat} {es : List (List RV)} (hF : P.funcs[F]? = some fn) (hb : fn.body = some c) (hok : fnOk P F = true)
 (h : callO P ex fn c args = some (ty,sz,es,m)) : OCalls P F args ty sz es m:=by
 unfold fnOk at hok
 simp only [hF,hb,Bool.and_eq_true] at hok
 unfold callO at h
 split at h
 · rename_i hlen
   split at h
   · rename_i rv e t hres hL
     split at h
     · rename_i he
       split at h
       · rename_i hp
         split at h
         · rename_i j n sz1 off m1 hav
           split at h
           · rename_i n' ty1 sz' es1 hrow
             split at h
             · rename_i hc
               simp only [Bool.and_eq_true,beq_iff_eq,List.all_eq_true] at hc
               obtain ⟨⟨⟨h1,h2⟩,h3⟩,h4⟩:=hc
               subst h1 h2 h3
               injection h with h
               simp only [Prod.mk.injEq] at h
               obtain ⟨rfl,rfl,rfl,rfl⟩:=h
               refine ocalls_0 rv hF hb hok.2 rfl hres hlen h4 fun C=>?_
               have:=((hex c _ _ hok.1 hL).2 C (opostL P rv ty1 sz1 es1 m1) fun x hx=>?_)
               · rw [start_as0] at this
                 exact this
               · simp only [List.mem_singleton] at hx
                 subst hx
                 have key : resC (resA P t.as rv) fun v=>∃ j n,v = .os j n sz1 0 m1 ∧ t.as.rows j = ⟨n,.arr ty1 sz1 es1⟩:=⟨hp,j,n,hav,hrow⟩
                 cases e <;> first | exact key | cases he
             · cases h
           · cases h
         · cases h
       · cases h
     · cases h
   · cases h
 · cases h
theorem callM_ok {ex : Code → CS → Option Outs} (hex : Good P ex) {F : FuncId} {fn : Func} {c : Code} {L L' : List (Nat × RowC)} {args : List AV} {r : AV} (hF : P.funcs[F]? = some fn) (hb : fn.body = some c) (hok : fnOk P F = true)
 (h : callM P ex fn c L args = some (L',r)) : MCalls P F L L' args r:=by
 unfold fnOk at hok
 simp only [hF,hb,Bool.and_eq_true] at hok
 unfold callM at h
 split at h
 · rename_i hlen
   simp only [Bool.and_eq_true,decide_eq_true_eq] at hlen
   split at h
   · rename_i e t hL
     split at h
     · rename_i he
       split at h
       · rename_i L1 rs hfin hres
         injection h with h
         simp only [Prod.mk.injEq] at h
         obtain ⟨rfl,rfl⟩:=h
         refine mcalls_st (rs:=rs) L L1 fn.results.toList hF hb hok.2 rfl rfl hlen.1 rfl hlen.2 fun C=>?_
         have:=((hex c _ _ hok.1 hL).2 C (mpostL P fn.results.toList rs L L1) fun x hx=>?_)
         · rw [start_as] at this
           exact this
         · simp only [List.mem_singleton] at hx
           subst hx
           have key : resM P L t.as fn.results.toList rs ∧ mfin L t.as.rows L L1:=⟨resListM_ok hres,finM_ok hfin⟩
           cases e <;> first | exact key | cases he
       · cases h
     · cases h
   · cases h
 · cases h
theorem callC_ok {fs : List (FuncId × Nat)} (hfs : allOk P fs = true) {ex : Code → CS → Option Outs} (hex : Good P ex) : (callC P fs ex).ok P:=fun D s d f xs t h=>by
 unfold callC at h
 split at h
 · cases h
 · rename_i F cs hcal
   split at h
   · rename_i m fn hm hF
     have hok:=allOk_get hfs hm
     split at h
     · cases h
     · rename_i c hb
       split at h
       · rename_i hmode
         simp only [Bool.and_eq_true,beq_iff_eq,Bool.not_eq_true'] at hmode
         split at h
         · rename_i dd
           split at h
           · rename_i hsn
             simp only [Bool.and_eq_true,decide_eq_true_eq] at hsn
             split at h
             · rename_i ty sz es m' hO
               injection h with h; subst h
               refine ⟨put_num _ _ _,fun K hK=>.inr ⟨hmode.2,.inr ⟨F,cs,_,ty,sz,es,m',dd,hcal,snapBL_ok _ hsn.1,leL_refl _,callO_ok hex hF hb hok hO,rfl,hsn.2,?_⟩⟩⟩
               rw [as_put,as_row] at hK
               exact hK
             · cases h
           · cases h
         · cases h
       · split at h
         · rename_i hmode
           simp only [Bool.and_eq_true,beq_iff_eq,Bool.not_eq_true'] at hmode
           dsimp only at h
           split at h
           · rename_i args L hargs hL
             split at h
             · rename_i L' r hM
               split at h
               · rename_i hap
                 simp only [Bool.and_eq_true] at hap
                 injection h with h; subst h
                 refine ⟨(put_num _ _ _).trans (putRows_num _ _),fun K hK=>.inr ⟨hmode.2,.inl ⟨F,cs,_,L,L',args,r,hcal,hargs,lendRows_ok hL,hap.1,hap.2,callM_ok hex hF hb hok hM,?_⟩⟩⟩
                 rw [as_put,as_putRows] at hK
                 exact hK
               · cases h
             · cases h
           · cases h
         · split at h
           · rename_i hsn
             split at h
             · rename_i r hA
               split at h
               · rename_i hfl
                 simp only [Bool.or_eq_true] at hfl
                 injection h with h; subst h
                 refine ⟨put_num _ _ _,fun K hK=>.inl ⟨r,.inl ⟨F,cs,_,hcal,snapBL_ok _ hsn,leL_refl _,callA_ok hex hF hb hok hA,hfl⟩,?_⟩⟩
                 rw [as_put] at hK
                 exact hK
               · cases h
             · cases h
           · cases h
   · cases h
theorem callR_ok {orc : Orc} (ho : orcOk P orc) : (callR orc).ok P:=fun D s d f xs t h=>by
 unfold callR at h
 split at h
 · cases h
 · rename_i F cs hcal
   split at h
   · rename_i hsn
     split at h
     · rename_i r hA
       split at h
       · rename_i hfl
         simp only [Bool.or_eq_true] at hfl
         injection h with h; subst h
         refine ⟨put_num _ _ _,fun K hK=>.inl ⟨r,.inl ⟨F,cs,_,hcal,snapBL_ok _ hsn,leL_refl _,orcGet_ok ho hA,hfl⟩,?_⟩⟩
         rw [as_put] at hK
         exact hK
       · cases h
     · cases h
   · cases h
theorem callX_ok {fs : List (FuncId × Nat)} (hfs : allOk P fs = true) {orc : Orc} (ho : orcOk P orc) {ex : Code → CS → Option Outs} (hex : Good P ex) : (callX P fs orc ex).ok P:=fun D s d f xs t h=>by
 unfold callX at h
 split at h
 · rename_i t' e
   injection h with h; subst h
   exact callC_ok hfs hex D s d f xs _ e
 · exact callR_ok ho D s d f xs t h
theorem bindL_mem {α β : Type} {x : Option (List α)} {f : α → Option (List β)} {zs : List β} (h : bindL x f = some zs) {z : β} (hz : z ∈ zs) : ∃ l,x = some l ∧ ∃ a ∈ l,∃ ys,f a = some ys ∧ z ∈ ys:=by
 unfold bindL at h
 split at h
 · cases h
 · rename_i l
   refine ⟨l,rfl,?_⟩
   induction l generalizing zs with
   | nil=>injection h with h; subst h; simp at hz
   | cons b l ih =>
     unfold bindL.go at h
     split at h
     · cases h
     · rename_i ys hys
       split at h
       · cases h
       · rename_i ws hws
         injection h with h; subst h
         rcases List.mem_append.1 hz with hz | hz
         · exact ⟨b,by simp,ys,hys,hz⟩
         · obtain ⟨a,ha,y2,h1,h2⟩:=ih hz hws
           exact ⟨a,by simp [ha],y2,h1,h2⟩
theorem runOps_num {call : Caller} (hcall : call.ok P) {D : Bool} {ops : Array Oper} : ∀ (l : List Oper) {s : CS} {L : List CS},runOps P call D ops l s = some L → ∀ t ∈ L,t.n = s.n
 | [], s, L, h => by
   unfold runOps at h
   injection h with h; subst h
   intro t ht
   simp only [List.mem_singleton] at ht; rw [ht]
 | o :: l, s, L, h => by
   have go : bindL (opC P call D o s) (runOps P call D ops l) = some L → ∀ t ∈ L,t.n = s.n:=fun h t ht=>by
    obtain ⟨l1,h1,a,ha,ys,h2,h3⟩:=bindL_mem h ht
    rw [runOps_num hcall l h2 t h3,(opC_ok hcall h1 (K:=fun _=>True) fun _ _=>trivial).2 a ha]
   have sk : runOps P call D ops l (s.put o.dst (.r .ud)) = some L → ∀ t ∈ L,t.n = s.n:=fun h t ht=>by
    rw [runOps_num hcall l h t ht,put_num]
   unfold runOps at h
   split at h
   · exact go h
   · split at h
     · exact sk h
     · split at h
       · split at h
         · exact go h
         · exact sk h
       · exact sk h
       · cases h
theorem norm_mem' : ∀ {L : List CS} {x : Exit × CS},x ∈ norm L → x.1 = .normal ∧ x.2 ∈ L
 | [],_,h=>by simp [norm] at h
 | t :: l, x, h => by
   simp only [norm,List.mem_cons] at h
   rcases h with rfl | h
   · exact ⟨rfl,by simp⟩
   · have:=norm_mem' h
     exact ⟨this.1,by simp [this.2]⟩
theorem blk_mem' {id : Nat} : ∀ {L : Outs} {x : Exit × CS},x ∈ blk id L → ∃ e,(e,x.2) ∈ L
 | [],_,h=>by simp [blk] at h
 | (e', t') :: l, x, h => by
   simp only [blk,List.mem_cons] at h
   rcases h with rfl | h
   · exact ⟨e',by simp⟩
   · obtain ⟨e,he⟩:=blk_mem' h
     exact ⟨e,by simp [he]⟩
theorem kappa_ok {ops : Array Oper} {s : CS} : ∀ l : List Oper,keysOk (kappa ops s l) s.as
 | []=>fun p hp=>by simp [kappa] at hp
 | o :: l => fun p hp => by
   simp only [kappa,List.mem_append,List.mem_map] at hp
   rcases hp with ⟨t,_,rfl⟩ | hp
   · rfl
   · exact kappa_ok l p hp
theorem exec_ok (hm : P.follows .mixedOrders = true) {fs : List (FuncId × Nat)} (hfs : allOk P fs = true) {orc : Orc} (ho : orcOk P orc) : ∀ k,Good P (exec P fs orc k):=by
 intro k
 induction k using Nat.strongRecOn with
 | _ k ih =>
   cases k with
   | zero=>intro c t L _ h; cases c <;> simp [exec] at h
   | succ k =>
     intro c t L hok h
     cases c with
     | skip=>simp only [exec,Option.some.injEq] at h; subst h; exact ⟨by simp,fun C Q hQ=>zx (hQ _ (List.mem_singleton.2 rfl))⟩
     | label l=>simp only [exec,Option.some.injEq] at h; subst h; exact ⟨by simp,fun C Q hQ=>awp_label (hQ _ (List.mem_singleton.2 rfl))⟩
     | exit id=>simp only [exec,Option.some.injEq] at h; subst h; exact ⟨by simp,fun C Q hQ=>zf (hQ _ (List.mem_singleton.2 rfl))⟩
     | ret=>simp only [exec,Option.some.injEq] at h; subst h; exact ⟨by simp,fun C Q hQ=>ze (hQ _ (List.mem_singleton.2 rfl))⟩
     | region id ops D =>
       simp only [codeOk] at hok
       simp only [exec] at h
       split at h
       · rename_i hdr
         split at h
         · rename_i L' hL
           injection h with h; subst h
           have hcall:=callX_ok hfs ho (ih k (Nat.lt_succ_self k))
           have hk:=killD_sub D ops.toList t
           refine ⟨fun x hx=>(runOps_num hcall _ hL _ (norm_mem' hx).2).trans hk.2,fun C Q hQ=>zw hk.1 ?_⟩
           have:=runOps_ok hcall (K:=Q .normal) _ hL fun t ht _=>hQ _ (norm_mem ht)
           have hd : dstOk ops.toList.toArray (killD D ops.toList t).as.n = true:=by rw [show (killD D ops.toList t).as.n = t.n from hk.2]; exact hok
           cases D with
           | false=>exact awp_region (l:=ops.toList) hd this
           | true =>
             simp only [drawOk,Bool.not_true,Bool.false_or,Bool.or_eq_true] at hdr
             rcases hdr with hlex | hlex
             · exact awp_draw (l:=ops.toList) hm hlex hd this
             · exact awp_draw2 (l:=ops.toList) hm hlex hd (kappa_ok _) this
         · cases h
       · cases h
     | seq a b =>
       simp only [codeOk,Bool.and_eq_true] at hok
       simp only [exec] at h
       obtain ⟨l1,h1,h2⟩:=bindL_spec h
       have ga:=ih k (Nat.lt_succ_self k) a t l1 hok.1 h1
       refine ⟨fun x hx=>?_,fun C Q hQ=>?_⟩
       · obtain ⟨l1',h1',y,hy,ys,h3,h4⟩:=bindL_mem h hx
         rw [h1] at h1'; injection h1' with h1'; subst h1'
         have hn:=ga.1 y hy
         obtain ⟨e,u⟩:=y
         cases e <;> first
          | (have:=(ih k (Nat.lt_succ_self k) b u ys (by rw [hn]; exact hok.2) h3).1 x h4; rw [this]; exact hn)
          | (simp only [Option.some.injEq] at h3; subst h3; simp only [List.mem_singleton] at h4; rw [h4]; exact hn)
       · refine zq (ga.2 C _ fun x hx=>?_)
         obtain ⟨ys,h3,h4⟩:=h2 x hx
         have hn:=ga.1 x hx
         obtain ⟨e,u⟩:=x
         cases e <;> first
          | exact (ih k (Nat.lt_succ_self k) b u ys (by rw [hn]; exact hok.2) h3).2 C Q fun x hx=>hQ x (h4 x hx)
          | (simp only [Option.some.injEq] at h3; subst h3; exact hQ _ (h4 _ (by simp)))
     | cond c a b =>
       simp only [codeOk,Bool.and_eq_true] at hok
       simp only [exec] at h
       split at h
       · rename_i tt hc
         cases tt with
         | true =>
           have g:=ih k (Nat.lt_succ_self k) a t L hok.1 h
           exact ⟨g.1,fun C Q hQ=>zc hc (fun _=>g.2 C Q hQ) (fun e=>by cases e)⟩
         | false =>
           have g:=ih k (Nat.lt_succ_self k) b t L hok.2 h
           exact ⟨g.1,fun C Q hQ=>zc hc (fun e=>by cases e) (fun _=>g.2 C Q hQ)⟩
       · cases h
     | block id c =>
       simp only [codeOk] at hok
       simp only [exec] at h
       split at h
       · rename_i L' hL
         injection h with h; subst h
         have g:=ih k (Nat.lt_succ_self k) c t L' hok hL
         refine ⟨fun x hx=>?_,fun C Q hQ=>?_⟩
         · obtain ⟨e,he⟩:=blk_mem' hx
           exact g.1 (e,x.2) he
         · refine zd (g.2 C _ fun x hx=>?_)
           obtain ⟨e,u⟩:=x
           have:=hQ _ (blk_mem hx)
           cases e with
           | exit id' =>
             simp only [leave] at this
             simp only [inBlk]
             split <;> rename_i e <;> simp only [e,if_true,if_false] at this <;> exact this
           | _=>exact this
       · cases h
     | loop c =>
       simp only [codeOk] at hok
       have num : ∀ j,j ≤ k + 1 → ∀ (u : CS) (L' : Outs),u.n = t.n → exec P fs orc j (.loop c) u = some L' → ∀ x ∈ L',x.2.n = t.n:=by
        intro j
        induction j with
        | zero=>intro _ u L' _ hL; simp [exec] at hL
        | succ j ihj =>
          intro hj u L' hu hL x hx
          simp only [exec] at hL
          obtain ⟨l1,h1,y,hy,ys,h3,h4⟩:=bindL_mem hL hx
          have hn:=(ih j (by omega) c u l1 (by rw [hu]; exact hok) h1).1 y hy
          obtain ⟨e,v⟩:=y
          cases e <;> first
           | exact ihj (by omega) v ys (by rw [← hu]; exact hn) h3 x h4
           | (simp only [Option.some.injEq] at h3; subst h3; simp only [List.mem_singleton] at h4; rw [h4,← hu]; exact hn)
       refine ⟨num (k + 1) (Nat.le_refl _) t L rfl h,fun C Q hQ=>?_⟩
       refine awp_loop (fun j s=>j ≤ k + 1 ∧ ∃ u L',s = u.as ∧ u.n = t.n ∧ exec P fs orc j (.loop c) u = some L' ∧ ∀ x ∈ L',Q x.1 x.2.as) (k + 1) ⟨Nat.le_refl _,t,L,rfl,rfl,h,hQ⟩ ?_
       rintro j s ⟨hj,u,L',rfl,hu,hL,hQ'⟩
       cases j with
       | zero=>simp [exec] at hL
       | succ j =>
         simp only [exec] at hL
         obtain ⟨l1,h1,h2⟩:=bindL_spec hL
         have g:=ih j (by omega) c u l1 (by rw [hu]; exact hok) h1
         refine g.2 C _ fun x hx=>?_
         obtain ⟨ys,h3,h4⟩:=h2 x hx
         have hn:=g.1 x hx
         obtain ⟨e,v⟩:=x
         cases e <;> first
          | exact ⟨j,Nat.lt_succ_self j,by omega,v,ys,rfl,by rw [← hu]; exact hn,h3,fun x hx=>hQ' x (h4 x hx)⟩
          | (simp only [Option.some.injEq] at h3; subst h3; exact hQ' _ (h4 _ (by simp)))
     | _=>simp [exec] at h
theorem evalX_ok (hm : P.follows .mixedOrders = true) {fs : List (FuncId × Nat)} (hfs : allOk P fs = true) {orc : Orc} (ho : orcOk P orc) {k : Nat} {F : FuncId} {args : List RV} {r : RV} (hF : fnOk P F = true) (h : evalX P fs orc k F args = some r) : ACalls P F args r:=by
 unfold evalX at h
 split at h
 · rename_i fn hf
   split at h
   · rename_i c hb
     exact callA_ok (exec_ok hm hfs ho k) hf hb hF h
   · cases h
 · cases h
theorem evalA_ok (hm : P.follows .mixedOrders = true) {fs : List (FuncId × Nat)} (hfs : allOk P fs = true) {k : Nat} {F : FuncId} {args : List RV} {r : RV} (hF : fnOk P F = true) (h : evalA P fs k F args = some r) : ACalls P F args r :=
 evalX_ok hm hfs (orc:=[]) trivial hF h
end
end Go.Oc

namespace Go.Proofs.Ytgkejinoaommeaa
open Go Go.Oc
set_option linter.unusedSimpArgs false
set_option linter.unusedVariables false
set_option maxRecDepth 8000
def lawL : List Am:=[⟨320,[⟨120,4,6⟩,⟨205,0,1⟩,⟨301,1,2⟩,⟨320,2,4⟩]⟩,⟨225,[⟨125,6,8⟩,⟨225,0,9⟩]⟩]
def lawT : List Am:=[⟨320,[⟨120,4,6⟩,⟨205,0,1⟩,⟨301,1,2⟩,⟨320,2,4⟩]⟩,⟨225,[⟨125,6,8⟩,⟨225,2,4⟩]⟩]
theorem lawL_wf : WfL 10 lawL:=by
 simp [WfL,WfA,Wf,lawL,I64]
theorem lawT_eq : lawL.map (tightA 10) = lawT:=by kernel_rfl
theorem lawL_chk : checkV 10 lawL = 0:=by kernel_rfl
theorem lawL_spans : spansV 10 lawL = [(236,343),(300,350)]:=by kernel_rfl
theorem lawL_pick : pickE 10 lawL 0 [20,10,3,60] = 0:=by kernel_rfl
theorem lawL_truth : truthV 10 lawL 0 [20,10,3,60] true = [5,0,1,4]:=by kernel_rfl
theorem lawL_is : bestL isP (spansV 10 lawL) = []:=by rw [lawL_spans]; kernel_rfl
theorem lawL_may : bestL mayP (spansV 10 lawL) = [0,1]:=by rw [lawL_spans]; kernel_rfl
def fitA : Am:=⟨320,[⟨0,0,0⟩,⟨101,0,0⟩,⟨105,0,0⟩,⟨120,0,0⟩,⟨320,0,0⟩]⟩
def fitB : Am:=⟨320,[⟨0,0,2⟩,⟨101,1,1⟩,⟨105,0,0⟩,⟨120,3,6⟩,⟨320,2,3⟩]⟩
def fitL : List Vi:=[⟨[320,120,101],0⟩,⟨[],100⟩,⟨[],60⟩]
theorem fitA_wf : WfA fitA:=by simp [WfA,Wf,fitA,I64]
theorem fit_eq : fitV fitA fitL = (fitB,9,0,0):=by kernel_rfl
theorem kTight : ACalls Try.prog 16 [lawV 10 lawL] (.tu [lawV 10 lawT,i64 0]):=by
 have:=Tight_ok 10 lawL lawL_wf
 rw [lawL_chk,lawT_eq,if_pos rfl] at this
 exact this
theorem kScore : ACalls Try.prog 21 [lawV 10 lawL] (.tu [spansR [(236,343),(300,350)],i64 0]):=by
 have:=Score_ok 10 lawL lawL_wf
 rw [lawL_chk,lawL_spans] at this
 exact this
theorem kTruth : ACalls Try.prog 40 [lawV 10 lawL,i64 0,ints [20,10,3,60],.bo true] (.tu [ints [5,0,1,4],i64 0]):=by
 have:=Truth_ok 10 lawL 0 [20,10,3,60] true lawL_wf
 rw [lawL_truth,lawL_pick] at this
 exact this
theorem kBest : ACalls Try.prog 22 [lawV 10 lawL] (.tu [ints [],ints [0,1],i64 0]):=by
 have:=Best_ok 10 lawL lawL_wf
 rw [lawL_chk,lawL_is,lawL_may] at this
 exact this
theorem kFit : ACalls Try.prog 28 [aimV fitA,visR fitL] (.tu [aimV fitB,i64 9,i64 0,i64 0]):=by
 have:=fit_ok fitA fitL fitA_wf
 rw [fit_eq] at this
 exact this
def kOrc : Orc:=[(16,[lawV 10 lawL],.tu [lawV 10 lawT,i64 0]),(21,[lawV 10 lawL],.tu [spansR [(236,343),(300,350)],i64 0]),(40,[lawV 10 lawL,i64 0,ints [20,10,3,60],.bo true],.tu [ints [5,0,1,4],i64 0]),
 (22,[lawV 10 lawL],.tu [ints [],ints [0,1],i64 0]),(28,[aimV fitA,visR fitL],.tu [aimV fitB,i64 9,i64 0,i64 0])]
theorem kOrc_ok : orcOk Try.prog kOrc:=⟨kTight,kScore,kTruth,kBest,kFit,trivial⟩
def fsK : List (FuncId × Nat):=[(47,0),(38,0),(24,0)]
theorem fsK_ok : allOk Try.prog fsK = true:=by kernel_rfl
theorem known14_ok : ACalls Try.prog 14 [] (.bo true):=evalX_ok follows fsK_ok kOrc_ok (k:=200) (by kernel_rfl) (by kernel_rfl)
end Go.Proofs.Ytgkejinoaommeaa

namespace Go.Proofs.Ytgkejinoaommeaa
open Go Go.Oc
set_option linter.unusedSimpArgs false
set_option linter.unusedVariables false
set_option maxRecDepth 8000
instance : DecidableEq Bd:=fun a b=>decidable_of_iff (a.b = b.b ∧ a.lo = b.lo ∧ a.hi = b.hi) (by cases a; cases b; simp)
instance : DecidableEq Am:=fun a b=>decidable_of_iff (a.at_ = b.at_ ∧ a.beds = b.beds) (by cases a; cases b; simp)
theorem any_step {α : Type} {p : α → Bool} {l : List α} {k : Nat} {y : α} (hy : l[k]? = some y) : (l.take (k + 1)).any p = ((l.take k).any p || p y):=by rw [take_of_opt hy]; simp
theorem any_of {α : Type} {p : α → Bool} {l : List α} {k : Nat} {y : α} (hy : l[k]? = some y) (h : p y = true) : l.any p = true:=List.any_eq_true.2 ⟨y,mem_of_opt hy,h⟩
def greatL (l : List Am) : Bool:=decide (22 < l.length) || l.any fun a=>decide (12 < a.beds.length)
theorem great_ok (d : Int) (l : List Am) : ACalls Try.prog 13 [lawV d l] (.bo (greatL l)):=by
 refine acalls_st (rs:=[.bo (greatL l)]) [.tmp 2] Try.func13 rfl (by kernel_rfl) Try.ntmps13 rfl (by simp) rfl fun C vs=>?_
 repeat refine zq ?_
 refine zb (by kernel_rfl) fun K hK=>?_
 simp only [go_sem]
 (try simp (disch:=omega) only [zI])
 repeat first | intro _ | refine ⟨by omega,?_⟩ | refine ⟨⟨by omega,by omega⟩,?_⟩
 refine hK _ ?_
 clear hK K
 refine zw (sub_frzP 1 1 [i64 d,aimsR l] (by omega) rfl rfl) ?_
 refine zw (zk [1]) ?_
 simp only [go_sem]
 repeat refine zq ?_
 refine zb (by kernel_rfl) fun K hK=>?_
 simp only [go_sem]
 (try simp (disch:=omega) only [zI])
 intro hl0
 repeat first | intro _ | refine ⟨by omega,?_⟩ | refine ⟨⟨by omega,by omega⟩,?_⟩
 refine hK _ ?_
 clear hK K
 refine zw (zk [1,7]) ?_
 simp only [go_sem]
 repeat refine zq ?_
 refine zc rfl (fun hc=>?_) (fun hc=>?_) <;> (try simp only [go_sem] at hc)
 · skip
   repeat refine zq ?_
   refine zb (by kernel_rfl) fun K hK=>?_
   simp only [go_sem]
   (try simp (disch:=omega) only [zI])
   repeat first | intro _ | refine ⟨by omega,?_⟩ | refine ⟨⟨by omega,by omega⟩,?_⟩
   refine hK _ ?_
   clear hK K
   refine zw (zk [2]) ?_
   simp only [go_sem]
   refine ze ?_
   simp only [go_sem]
   have : 22 < l.length:=by omega
   simp [greatL,this]
 · skip
   have hl : l.length ≤ 22:=by omega
   refine zx ?_
   try simp only [go_sem]
   repeat refine zq ?_
   refine zb (by kernel_rfl) fun K hK=>?_
   simp only [go_sem]
   (try simp (disch:=omega) only [zI])
   repeat first | intro _ | refine ⟨by omega,?_⟩ | refine ⟨⟨by omega,by omega⟩,?_⟩
   refine hK _ ?_
   clear hK K
   refine zw (zk [1,3]) ?_
   simp only [go_sem]
   repeat refine zq ?_
   refine zd ?_
   refine awp_upto (n:=23) l.length (fun i vs=>[(1,.r (.rp [i64 d,aimsR l])),(3,.r (i64 i))])
    (fun i=>[]) (fun i=>(l.take i).any (fun a=>decide (12 < a.beds.length)) = false) 0 (fit_of [] ?_ ?_) (Nat.zero_le _) rfl ?_
   · try simp only [go_sem]
   · try simp only [go_sem]
   · intro i vs hi hI
     repeat refine zq ?_
     refine zb (by kernel_rfl) fun K hK=>?_
     simp only [go_sem]
     (try simp (disch:=omega) only [zI])
     repeat first | intro _ | refine ⟨by omega,?_⟩ | refine ⟨⟨by omega,by omega⟩,?_⟩
     refine hK _ ?_
     clear hK K
     refine zw (zk [1,3,12]) ?_
     simp only [go_sem]
     repeat refine zq ?_
     refine zc rfl (fun hc=>?_) (fun hc=>?_) <;> (try simp only [go_sem] at hc)
     · skip
       have hci:=hc
       obtain ⟨x,hx⟩:=opt_of_lt hc
       refine zx ?_
       try simp only [go_sem]
       repeat refine zq ?_
       refine zd ?_
       repeat refine zq ?_
       refine zb (by kernel_rfl) fun K hK=>?_
       simp only [go_sem,hx,hci,aimR]
       (try simp (disch:=omega) only [zI])
       intro hl1
       repeat first | intro _ | refine ⟨by omega,?_⟩ | refine ⟨⟨by omega,by omega⟩,?_⟩
       refine hK _ ?_
       clear hK K
       refine zw (zk [1,3,22]) ?_
       simp only [go_sem]
       repeat refine zq ?_
       refine zc rfl (fun hc=>?_) (fun hc=>?_) <;> (try simp only [go_sem] at hc)
       · skip
         repeat refine zq ?_
         refine zb (by kernel_rfl) fun K hK=>?_
         simp only [go_sem]
         (try simp (disch:=omega) only [zI])
         repeat first | intro _ | refine ⟨by omega,?_⟩ | refine ⟨⟨by omega,by omega⟩,?_⟩
         refine hK _ ?_
         clear hK K
         refine zw (zk [2]) ?_
         simp only [go_sem]
         refine ze ?_
         simp only [go_sem]
         have : 12 < x.beds.length:=by omega
         simp [greatL,any_of hx (p:=fun a=>decide (12 < a.beds.length)) (by simpa using this)]
       · skip
         refine zx ?_
         try simp only [go_sem]
         repeat refine zq ?_
         refine zb (by kernel_rfl) fun K hK=>?_
         simp only [go_sem]
         (try simp (disch:=omega) only [zI])
         repeat first | intro _ | refine ⟨by omega,?_⟩ | refine ⟨⟨by omega,by omega⟩,?_⟩
         refine hK _ ?_
         clear hK K
         try simp only [go_sem]
         refine ⟨hci,?_,fit_of [] ?_ ?_⟩
         · rw [any_step hx,hI]
           simp
           omega
         · try simp only [go_sem]
         · try simp only [go_sem]
     · skip
       refine zf ?_
       simp only [go_sem]
       repeat refine zq ?_
       refine zb (by kernel_rfl) fun K hK=>?_
       simp only [go_sem]
       (try simp (disch:=omega) only [zI])
       repeat first | intro _ | refine ⟨by omega,?_⟩ | refine ⟨⟨by omega,by omega⟩,?_⟩
       refine hK _ ?_
       clear hK K
       refine zw (zk [2]) ?_
       simp only [go_sem]
       refine ze ?_
       simp only [go_sem]
       have : i = l.length:=by omega
       rw [this,List.take_length] at hI
       have h2 : ¬ 22 < l.length:=by omega
       simp [greatL,hI,h2]
theorem alike_ok (a b : List Int) : ACalls Try.prog 24 [ints a,ints b] (.bo (decide (a = b))):=by
 refine acalls_st (rs:=[.bo (decide (a = b))]) [.tmp 4] Try.func24 rfl (by kernel_rfl) Try.ntmps24 rfl (by simp) rfl fun C vs=>?_
 repeat refine zq ?_
 refine zb (by kernel_rfl) fun K hK=>?_
 simp only [go_sem]
 (try simp (disch:=omega) only [zI])
 repeat first | intro _ | refine ⟨by omega,?_⟩ | refine ⟨⟨by omega,by omega⟩,?_⟩
 refine hK _ ?_
 clear hK K
 refine zw (zk [0,1]) ?_
 simp only [go_sem]
 repeat refine zq ?_
 refine zb (by kernel_rfl) fun K hK=>?_
 simp only [go_sem]
 (try simp (disch:=omega) only [zI])
 intro hla hlb
 by_cases h1 : a.length = b.length
 case neg =>
  have e4 : ((a.length : Int) != b.length) = true:=by simp; omega
  rw [e4]
  repeat first | intro _ | refine ⟨by omega,?_⟩ | refine ⟨⟨by omega,by omega⟩,?_⟩
  refine hK _ ?_
  clear hK K
  repeat refine zq ?_
  refine zc rfl (fun hc=>?_) (fun hc=>?_) <;> (try simp only [go_sem] at hc)
  repeat refine zq ?_
  refine zb (by kernel_rfl) fun K hK=>?_
  simp only [go_sem]
  (try simp (disch:=omega) only [zI])
  repeat first | intro _ | refine ⟨by omega,?_⟩ | refine ⟨⟨by omega,by omega⟩,?_⟩
  refine hK _ ?_
  clear hK K
  refine ze ?_
  simp only [go_sem]
  simp
  exact fun h=>h1 (by rw [h])
 have e4 : ((a.length : Int) != b.length) = false:=by simp [h1]
 rw [e4]
 repeat first | intro _ | refine ⟨by omega,?_⟩ | refine ⟨⟨by omega,by omega⟩,?_⟩
 refine hK _ ?_
 clear hK K
 refine zw (zk [0,1,10]) ?_
 simp only [go_sem]
 repeat refine zq ?_
 refine zc rfl (fun hc=>?_) (fun hc=>?_) <;> (try simp only [go_sem] at hc)
 refine zx ?_
 try simp only [go_sem]
 repeat refine zq ?_
 refine zb (by kernel_rfl) fun K hK=>?_
 simp only [go_sem]
 (try simp (disch:=omega) only [zI])
 repeat first | intro _ | refine ⟨by omega,?_⟩ | refine ⟨⟨by omega,by omega⟩,?_⟩
 refine hK _ ?_
 clear hK K
 refine zw (zk [0,1,5]) ?_
 simp only [go_sem]
 repeat refine zq ?_
 refine zd ?_
 refine awp_upto (n:=26) a.length (fun i vs=>[(0,.r (ints a)),(1,.r (ints b)),(5,.r (i64 i))])
  (fun i=>[]) (fun i=>a.take i = b.take i) 0 (fit_of [] ?_ ?_) (Nat.zero_le _) (by simp) ?_
 · try simp only [go_sem]
 · try simp only [go_sem]
 · intro i vs hi hI
   repeat refine zq ?_
   refine zb (by kernel_rfl) fun K hK=>?_
   simp only [go_sem]
   (try simp (disch:=omega) only [zI])
   repeat first | intro _ | refine ⟨by omega,?_⟩ | refine ⟨⟨by omega,by omega⟩,?_⟩
   refine hK _ ?_
   clear hK K
   refine zw (zk [0,1,5,14]) ?_
   simp only [go_sem]
   repeat refine zq ?_
   refine zc rfl (fun hc=>?_) (fun hc=>?_) <;> (try simp only [go_sem] at hc)
   · skip
     have hci : i < a.length:=by omega
     have hc2 : i < b.length:=by omega
     obtain ⟨u,hu⟩:=opt_of_lt hci
     obtain ⟨v,hv⟩:=opt_of_lt hc2
     refine zx ?_
     try simp only [go_sem]
     repeat refine zq ?_
     refine zd ?_
     repeat refine zq ?_
     refine zg follows (by decide +kernel) (by kernel_rfl) fun K hK=>?_
     simp only [go_sem,hu,hv,hci,hc2]
     (try simp (disch:=omega) only [zI])
     repeat first | intro _ | refine ⟨by omega,?_⟩ | refine ⟨⟨by omega,by omega⟩,?_⟩
     refine hK _ ?_
     clear hK K
     by_cases huv : u = v
     · have e6 : (u != v) = false:=by simp [huv]
       rw [e6]
       repeat refine zq ?_
       refine zc rfl (fun hc=>?_) (fun hc=>?_) <;> (try simp only [go_sem] at hc)
       refine zx ?_
       try simp only [go_sem]
       repeat refine zq ?_
       refine zb (by kernel_rfl) fun K hK=>?_
       simp only [go_sem]
       (try simp (disch:=omega) only [zI])
       repeat first | intro _ | refine ⟨by omega,?_⟩ | refine ⟨⟨by omega,by omega⟩,?_⟩
       refine hK _ ?_
       clear hK K
       try simp only [go_sem]
       refine ⟨hci,?_,fit_of [] ?_ ?_⟩
       · rw [take_of_opt hu,take_of_opt hv,hI,huv]
       · try simp only [go_sem]
       · try simp only [go_sem]
     · have e6 : (u != v) = true:=by simp [huv]
       rw [e6]
       repeat refine zq ?_
       refine zc rfl (fun hc=>?_) (fun hc=>?_) <;> (try simp only [go_sem] at hc)
       repeat refine zq ?_
       refine zb (by kernel_rfl) fun K hK=>?_
       simp only [go_sem]
       (try simp (disch:=omega) only [zI])
       repeat first | intro _ | refine ⟨by omega,?_⟩ | refine ⟨⟨by omega,by omega⟩,?_⟩
       refine hK _ ?_
       clear hK K
       refine ze ?_
       simp only [go_sem]
       simp
       rintro rfl
       rw [hu] at hv
       injection hv with hv
       exact huv hv
   · skip
     refine zf ?_
     simp only [go_sem]
     repeat refine zq ?_
     refine zb (by kernel_rfl) fun K hK=>?_
     simp only [go_sem]
     (try simp (disch:=omega) only [zI])
     repeat first | intro _ | refine ⟨by omega,?_⟩ | refine ⟨⟨by omega,by omega⟩,?_⟩
     refine hK _ ?_
     clear hK K
     refine zw (zk [4]) ?_
     simp only [go_sem]
     refine ze ?_
     simp only [go_sem]
     have : i = a.length:=by omega
     subst this
     have hab : a = b:=by rwa [List.take_length,h1,List.take_length] at hI
     simp [hab]
theorem eqT67 : eqN Try.prog 67 = some 3:=by kernel_rfl
theorem same_ok (a b : Am) : ACalls Try.prog 30 [aimV a,aimV b] (.bo (decide (a = b))):=by
 refine acalls_st (rs:=[.bo (decide (a = b))]) [.tmp 4] Try.func30 rfl (by kernel_rfl) Try.ntmps30 rfl (by simp) rfl fun C vs=>?_
 repeat refine zq ?_
 refine zb (by kernel_rfl) fun K hK=>?_
 simp only [go_sem]
 (try simp (disch:=omega) only [zI])
 repeat first | intro _ | refine ⟨by omega,?_⟩ | refine ⟨⟨by omega,by omega⟩,?_⟩
 refine hK _ ?_
 clear hK K
 refine zw (sub_frzP 2 2 (aimR a) (by omega) rfl rfl) ?_
 refine zw (sub_frzP 3 3 (aimR b) (by omega) rfl rfl) ?_
 refine zw (zk [2,3]) ?_
 simp only [go_sem]
 by_cases h0 : a.at_ = b.at_
 case neg =>
  have e0 : (a.at_ != b.at_) = true:=by simpa using h0
  repeat refine zq ?_
  refine zb (by kernel_rfl) fun K hK=>?_
  simp only [go_sem,e0,aimR]
  (try simp (disch:=omega) only [zI])
  repeat first | intro _ | refine ⟨by omega,?_⟩ | refine ⟨⟨by omega,by omega⟩,?_⟩
  refine hK _ ?_
  clear hK K
  repeat refine zq ?_
  refine zc rfl (fun hc=>?_) (fun hc=>?_) <;> (try simp only [go_sem] at hc)
  repeat refine zq ?_
  refine zb (by kernel_rfl) fun K hK=>?_
  simp only [go_sem]
  (try simp (disch:=omega) only [zI])
  repeat first | intro _ | refine ⟨by omega,?_⟩ | refine ⟨⟨by omega,by omega⟩,?_⟩
  refine hK _ ?_
  clear hK K
  refine ze ?_
  simp only [go_sem]
  simp
  exact fun h=>h0 (by rw [h])
 have e0 : (a.at_ != b.at_) = false:=by simpa using h0
 by_cases h1 : a.beds.length = b.beds.length
 case neg =>
  have e4 : ((a.beds.length : Int) != b.beds.length) = true:=by simp; omega
  repeat refine zq ?_
  refine zb (by kernel_rfl) fun K hK=>?_
  simp only [go_sem,e0,e4,aimR]
  (try simp (disch:=omega) only [zI])
  repeat first | intro _ | refine ⟨by omega,?_⟩ | refine ⟨⟨by omega,by omega⟩,?_⟩
  refine hK _ ?_
  clear hK K
  repeat refine zq ?_
  refine zc rfl (fun hc=>?_) (fun hc=>?_) <;> (try simp only [go_sem] at hc)
  repeat refine zq ?_
  refine zb (by kernel_rfl) fun K hK=>?_
  simp only [go_sem]
  (try simp (disch:=omega) only [zI])
  repeat first | intro _ | refine ⟨by omega,?_⟩ | refine ⟨⟨by omega,by omega⟩,?_⟩
  refine hK _ ?_
  clear hK K
  refine ze ?_
  simp only [go_sem]
  simp
  exact fun h=>h1 (by rw [h])
 have e4 : ((a.beds.length : Int) != b.beds.length) = false:=by simp [h1]
 repeat refine zq ?_
 refine zb (by kernel_rfl) fun K hK=>?_
 simp only [go_sem,e0,e4,aimR]
 (try simp (disch:=omega) only [zI])
 intro hla hlb
 repeat first | intro _ | refine ⟨by omega,?_⟩ | refine ⟨⟨by omega,by omega⟩,?_⟩
 refine hK _ ?_
 clear hK K
 refine zw (zk [2,3,19]) ?_
 simp only [go_sem]
 repeat refine zq ?_
 refine zc rfl (fun hc=>?_) (fun hc=>?_) <;> (try simp only [go_sem] at hc)
 refine zx ?_
 try simp only [go_sem]
 repeat refine zq ?_
 refine zb (by kernel_rfl) fun K hK=>?_
 simp only [go_sem]
 (try simp (disch:=omega) only [zI])
 repeat first | intro _ | refine ⟨by omega,?_⟩ | refine ⟨⟨by omega,by omega⟩,?_⟩
 refine hK _ ?_
 clear hK K
 refine zw (zk [2,3,5]) ?_
 simp only [go_sem]
 repeat refine zq ?_
 refine zd ?_
 refine awp_upto (n:=38) a.beds.length (fun i vs=>[(2,.r (.rp [i64 a.at_,bedsR a.beds])),(3,.r (.rp [i64 b.at_,bedsR b.beds])),(5,.r (i64 i))])
  (fun i=>[]) (fun i=>a.beds.take i = b.beds.take i) 0 (fit_of [] ?_ ?_) (Nat.zero_le _) (by simp) ?_
 · try simp only [go_sem]
 · try simp only [go_sem]
 · intro i vs hi hI
   repeat refine zq ?_
   refine zb (by kernel_rfl) fun K hK=>?_
   simp only [go_sem,aimR]
   (try simp (disch:=omega) only [zI])
   repeat first | intro _ | refine ⟨by omega,?_⟩ | refine ⟨⟨by omega,by omega⟩,?_⟩
   refine hK _ ?_
   clear hK K
   refine zw (zk [2,3,5,24]) ?_
   simp only [go_sem]
   repeat refine zq ?_
   refine zc rfl (fun hc=>?_) (fun hc=>?_) <;> (try simp only [go_sem] at hc)
   · skip
     have hci : i < a.beds.length:=by omega
     have hc2 : i < b.beds.length:=by omega
     obtain ⟨u,hu⟩:=opt_of_lt hci
     obtain ⟨v,hv⟩:=opt_of_lt hc2
     refine zx ?_
     try simp only [go_sem]
     repeat refine zq ?_
     refine zd ?_
     have hT:=eqT67
     repeat refine zq ?_
     refine zg follows (by decide +kernel) (by kernel_rfl) fun K hK=>?_
     simp only [go_sem,hu,hv,hci,hc2,aimR,bedR,hT,cmpL,eq_self,if_true,List.length_cons,List.length_nil]
     (try simp (disch:=omega) only [zI])
     repeat first | intro _ | refine ⟨by omega,?_⟩ | refine ⟨⟨by omega,by omega⟩,?_⟩
     refine hK _ ?_
     clear hK K
     refine zw (zk [2,3,5,37]) ?_
     simp only [go_sem]
     repeat refine zq ?_
     refine zc rfl (fun hc=>?_) (fun hc=>?_) <;> (try simp only [go_sem] at hc)
     · skip
       repeat refine zq ?_
       refine zb (by kernel_rfl) fun K hK=>?_
       simp only [go_sem]
       (try simp (disch:=omega) only [zI])
       repeat first | intro _ | refine ⟨by omega,?_⟩ | refine ⟨⟨by omega,by omega⟩,?_⟩
       refine hK _ ?_
       clear hK K
       refine zw (zk [4]) ?_
       simp only [go_sem]
       refine ze ?_
       simp only [go_sem]
       simp
       intro hab
       subst hab
       rw [hu] at hv
       injection hv with hv
       subst hv
       simp at hc
     · skip
       have huv : u = v:=by
        obtain ⟨u1,u2,u3⟩:=u
        obtain ⟨v1,v2,v3⟩:=v
        simp at hc
        simp [hc]
       refine zx ?_
       try simp only [go_sem]
       repeat refine zq ?_
       refine zb (by kernel_rfl) fun K hK=>?_
       simp only [go_sem]
       (try simp (disch:=omega) only [zI])
       repeat first | intro _ | refine ⟨by omega,?_⟩ | refine ⟨⟨by omega,by omega⟩,?_⟩
       refine hK _ ?_
       clear hK K
       try simp only [go_sem]
       refine ⟨hci,?_,fit_of [] ?_ ?_⟩
       · rw [take_of_opt hu,take_of_opt hv,hI,huv]
       · try simp only [go_sem]
       · try simp only [go_sem]
   · skip
     refine zf ?_
     simp only [go_sem]
     repeat refine zq ?_
     refine zb (by kernel_rfl) fun K hK=>?_
     simp only [go_sem]
     (try simp (disch:=omega) only [zI])
     repeat first | intro _ | refine ⟨by omega,?_⟩ | refine ⟨⟨by omega,by omega⟩,?_⟩
     refine hK _ ?_
     clear hK K
     refine zw (zk [4]) ?_
     simp only [go_sem]
     refine ze ?_
     simp only [go_sem]
     have : i = a.beds.length:=by omega
     subst this
     have hab : a.beds = b.beds:=by rwa [List.take_length,h1,List.take_length] at hI
     have : a = b:=by cases a; cases b; simp at h0 hab; simp [h0,hab]
     simp [this]
theorem equal_ok (d e : Int) (l m : List Am) : ACalls Try.prog 18 [lawV d l,lawV e m] (.bo (decide (d = e ∧ l = m))):=by
 refine acalls_st (rs:=[.bo (decide (d = e ∧ l = m))]) [.tmp 4] Try.func18 rfl (by kernel_rfl) Try.ntmps18 rfl (by simp) rfl fun C vs=>?_
 repeat refine zq ?_
 refine zb (by kernel_rfl) fun K hK=>?_
 simp only [go_sem]
 (try simp (disch:=omega) only [zI])
 repeat first | intro _ | refine ⟨by omega,?_⟩ | refine ⟨⟨by omega,by omega⟩,?_⟩
 refine hK _ ?_
 clear hK K
 refine zw (sub_frzP 2 2 [i64 d,aimsR l] (by omega) rfl rfl) ?_
 refine zw (sub_frzP 3 3 [i64 e,aimsR m] (by omega) rfl rfl) ?_
 refine zw (zk [2,3]) ?_
 simp only [go_sem]
 by_cases h0 : d = e
 case neg =>
  have e0 : (d != e) = true:=by simpa using h0
  repeat refine zq ?_
  refine zb (by kernel_rfl) fun K hK=>?_
  simp only [go_sem,e0]
  (try simp (disch:=omega) only [zI])
  repeat first | intro _ | refine ⟨by omega,?_⟩ | refine ⟨⟨by omega,by omega⟩,?_⟩
  refine hK _ ?_
  clear hK K
  repeat refine zq ?_
  refine zc rfl (fun hc=>?_) (fun hc=>?_) <;> (try simp only [go_sem] at hc)
  repeat refine zq ?_
  refine zb (by kernel_rfl) fun K hK=>?_
  simp only [go_sem]
  (try simp (disch:=omega) only [zI])
  repeat first | intro _ | refine ⟨by omega,?_⟩ | refine ⟨⟨by omega,by omega⟩,?_⟩
  refine hK _ ?_
  clear hK K
  refine ze ?_
  simp only [go_sem]
  simp
  exact fun h _=>h0 h
 have e0 : (d != e) = false:=by simpa using h0
 by_cases h1 : l.length = m.length
 case neg =>
  have e4 : ((l.length : Int) != m.length) = true:=by simp; omega
  repeat refine zq ?_
  refine zb (by kernel_rfl) fun K hK=>?_
  simp only [go_sem,e0,e4]
  (try simp (disch:=omega) only [zI])
  repeat first | intro _ | refine ⟨by omega,?_⟩ | refine ⟨⟨by omega,by omega⟩,?_⟩
  refine hK _ ?_
  clear hK K
  repeat refine zq ?_
  refine zc rfl (fun hc=>?_) (fun hc=>?_) <;> (try simp only [go_sem] at hc)
  repeat refine zq ?_
  refine zb (by kernel_rfl) fun K hK=>?_
  simp only [go_sem]
  (try simp (disch:=omega) only [zI])
  repeat first | intro _ | refine ⟨by omega,?_⟩ | refine ⟨⟨by omega,by omega⟩,?_⟩
  refine hK _ ?_
  clear hK K
  refine ze ?_
  simp only [go_sem]
  simp
  exact fun _ h=>h1 (by rw [h])
 have e4 : ((l.length : Int) != m.length) = false:=by simp [h1]
 repeat refine zq ?_
 refine zb (by kernel_rfl) fun K hK=>?_
 simp only [go_sem,e0,e4]
 (try simp (disch:=omega) only [zI])
 intro hla hlb
 repeat first | intro _ | refine ⟨by omega,?_⟩ | refine ⟨⟨by omega,by omega⟩,?_⟩
 refine hK _ ?_
 clear hK K
 refine zw (zk [2,3,19]) ?_
 simp only [go_sem]
 repeat refine zq ?_
 refine zc rfl (fun hc=>?_) (fun hc=>?_) <;> (try simp only [go_sem] at hc)
 refine zx ?_
 try simp only [go_sem]
 repeat refine zq ?_
 refine zb (by kernel_rfl) fun K hK=>?_
 simp only [go_sem]
 (try simp (disch:=omega) only [zI])
 repeat first | intro _ | refine ⟨by omega,?_⟩ | refine ⟨⟨by omega,by omega⟩,?_⟩
 refine hK _ ?_
 clear hK K
 refine zw (zk [2,3,5]) ?_
 simp only [go_sem]
 repeat refine zq ?_
 refine zd ?_
 refine awp_upto (n:=39) l.length (fun i vs=>[(2,.r (.rp [i64 d,aimsR l])),(3,.r (.rp [i64 e,aimsR m])),(5,.r (i64 i))])
  (fun i=>[]) (fun i=>l.take i = m.take i) 0 (fit_of [] ?_ ?_) (Nat.zero_le _) (by simp) ?_
 · try simp only [go_sem]
 · try simp only [go_sem]
 · intro i vs hi hI
   repeat refine zq ?_
   refine zb (by kernel_rfl) fun K hK=>?_
   simp only [go_sem]
   (try simp (disch:=omega) only [zI])
   repeat first | intro _ | refine ⟨by omega,?_⟩ | refine ⟨⟨by omega,by omega⟩,?_⟩
   refine hK _ ?_
   clear hK K
   refine zw (zk [2,3,5,24]) ?_
   simp only [go_sem]
   repeat refine zq ?_
   refine zc rfl (fun hc=>?_) (fun hc=>?_) <;> (try simp only [go_sem] at hc)
   · skip
     have hci : i < l.length:=by omega
     have hc2 : i < m.length:=by omega
     obtain ⟨u,hu⟩:=opt_of_lt hci
     obtain ⟨v,hv⟩:=opt_of_lt hc2
     refine zx ?_
     try simp only [go_sem]
     repeat refine zq ?_
     refine zd ?_
     repeat refine zq ?_
     refine zg follows (by decide +kernel) (by kernel_rfl) fun K hK=>?_
     simp only [go_sem,hu,hv,hci,hc2,aimR]
     (try simp (disch:=omega) only [zI])
     refine zh (same_ok u v) rfl (by simp only [go_sem,i64,ints]) (by simp only [go_sem,i64,ints]) (by first | exact .inl rfl | exact .inr rfl) ?_
     (try simp only [go_sem])
     (try simp (disch:=omega) only [zI])
     by_cases huv : u = v
     · have e6 : decide (u = v) = true:=by simp [huv]
       rw [e6]
       repeat first | intro _ | refine ⟨by omega,?_⟩ | refine ⟨⟨by omega,by omega⟩,?_⟩
       refine hK _ ?_
       clear hK K
       refine zw (zk [2,3,5,38]) ?_
       simp only [go_sem]
       repeat refine zq ?_
       refine zc rfl (fun hc=>?_) (fun hc=>?_) <;> (try simp only [go_sem] at hc)
       refine zx ?_
       try simp only [go_sem]
       repeat refine zq ?_
       refine zb (by kernel_rfl) fun K hK=>?_
       simp only [go_sem]
       (try simp (disch:=omega) only [zI])
       repeat first | intro _ | refine ⟨by omega,?_⟩ | refine ⟨⟨by omega,by omega⟩,?_⟩
       refine hK _ ?_
       clear hK K
       try simp only [go_sem]
       refine ⟨hci,?_,fit_of [] ?_ ?_⟩
       · rw [take_of_opt hu,take_of_opt hv,hI,huv]
       · try simp only [go_sem]
       · try simp only [go_sem]
     · have e6 : decide (u = v) = false:=by simp [huv]
       rw [e6]
       repeat first | intro _ | refine ⟨by omega,?_⟩ | refine ⟨⟨by omega,by omega⟩,?_⟩
       refine hK _ ?_
       clear hK K
       refine zw (zk [2,3,5,38]) ?_
       simp only [go_sem]
       repeat refine zq ?_
       refine zc rfl (fun hc=>?_) (fun hc=>?_) <;> (try simp only [go_sem] at hc)
       repeat refine zq ?_
       refine zb (by kernel_rfl) fun K hK=>?_
       simp only [go_sem]
       (try simp (disch:=omega) only [zI])
       repeat first | intro _ | refine ⟨by omega,?_⟩ | refine ⟨⟨by omega,by omega⟩,?_⟩
       refine hK _ ?_
       clear hK K
       refine ze ?_
       simp only [go_sem]
       simp
       rintro rfl rfl
       rw [hu] at hv
       injection hv with hv
       exact huv hv
   · skip
     refine zf ?_
     simp only [go_sem]
     repeat refine zq ?_
     refine zb (by kernel_rfl) fun K hK=>?_
     simp only [go_sem]
     (try simp (disch:=omega) only [zI])
     repeat first | intro _ | refine ⟨by omega,?_⟩ | refine ⟨⟨by omega,by omega⟩,?_⟩
     refine hK _ ?_
     clear hK K
     refine zw (zk [4]) ?_
     simp only [go_sem]
     refine ze ?_
     simp only [go_sem]
     have : i = l.length:=by omega
     subst this
     have hab : l = m:=by rwa [List.take_length,h1,List.take_length] at hI
     simp [h0,hab]
end Go.Proofs.Ytgkejinoaommeaa

namespace Go.Proofs.Ytgkejinoaommeaa
open Go Go.Oc
set_option linter.unusedSimpArgs false
set_option linter.unusedVariables false
set_option maxRecDepth 8000
theorem aim_ok (a : Am) (hl : a.beds.length ≤ 1000) : ACalls Try.prog 26 [aimV a] (aimV a):=by
 refine acalls_st (rs:=[aimV a]) [.cell 2 36] Try.func26 rfl (by kernel_rfl) Try.ntmps26 rfl (by simp) rfl fun C vs=>?_
 repeat refine zq ?_
 refine zb (by kernel_rfl) fun K hK=>?_
 simp only [go_sem]
 (try simp (disch:=omega) only [zI])
 repeat first | intro _ | refine ⟨by omega,?_⟩ | refine ⟨⟨by omega,by omega⟩,?_⟩
 refine hK _ ?_
 clear hK K
 refine zw (sub_frzP 1 1 [i64 a.at_,bedsR a.beds] (by omega) rfl rfl) ?_
 refine zw (zk [1,2]) ?_
 simp only [go_sem]
 repeat refine zq ?_
 refine awp_dreg2 [(1,none),(2,some 2)] follows (by decide +kernel) (by kernel_rfl) (by simp only [keysOk,List.mem_cons,List.not_mem_nil,forall_eq_or_imp,Oc.keyOf,go_sem]; simp) fun K hK=>?_
 simp only [go_sem]
 (try simp (disch:=omega) only [zI])
 repeat first | intro _ | refine ⟨by omega,?_⟩ | refine ⟨⟨by omega,by omega⟩,?_⟩
 refine hK _ ?_
 clear hK K
 refine zw (zk [2]) ?_
 simp only [go_sem]
 refine ze ?_
 simp only [go_sem]
theorem own_ok (d : Int) (l : List Am) (hl : l.length ≤ 1000) (hb : ∀ a ∈ l,a.beds.length ≤ 1000) : ACalls Try.prog 15 [lawV d l] (lawV d l):=by
 refine acalls_st (rs:=[lawV d l]) [.cell 2 24] Try.func15 rfl (by kernel_rfl) Try.ntmps15 rfl (by simp) rfl fun C vs=>?_
 repeat refine zq ?_
 refine zb (by kernel_rfl) fun K hK=>?_
 simp only [go_sem]
 (try simp (disch:=omega) only [zI])
 repeat first | intro _ | refine ⟨by omega,?_⟩ | refine ⟨⟨by omega,by omega⟩,?_⟩
 refine hK _ ?_
 clear hK K
 refine zw (sub_frzP 1 1 [i64 d,aimsR l] (by omega) rfl rfl) ?_
 refine zw (zk [1,2]) ?_
 simp only [go_sem]
 repeat refine zq ?_
 refine zb (by kernel_rfl) fun K hK=>?_
 simp only [go_sem]
 (try simp (disch:=omega) only [zI])
 repeat first | intro _ | refine ⟨by omega,?_⟩ | refine ⟨⟨by omega,by omega⟩,?_⟩
 refine hK _ ?_
 clear hK K
 refine zw (zk [1,2,3]) ?_
 simp only [go_sem]
 repeat refine zq ?_
 refine zb (by kernel_rfl) fun K hK=>?_
 simp only [go_sem]
 (try simp (disch:=omega) only [zI])
 repeat first | intro _ | refine ⟨by omega,?_⟩ | refine ⟨⟨by omega,by omega⟩,?_⟩
 refine hK _ ?_
 clear hK K
 refine zw (zk [1,2,3,4]) ?_
 simp only [go_sem]
 repeat refine zq ?_
 refine zd ?_
 refine zw (sub_ownB 3 1 30 36 2 (by omega) (by omega) rfl rfl) ?_
 try simp only [go_sem]
 refine awp_uptoV (n:=27) l.length (fun i vs=>[(1,.r (.rp [i64 d,aimsR l])),(2,.pt 2 (vs 2) 0),(3,.pt 3 (vs 3) 0),(4,.r (i64 i))])
  (fun i vs=>[(2,.box [.r (i64 0),.r .ns]),(3,.box [.r (i64 d),.os 30 (vs 30) 2 0 i]),(30,.arr 36 2 ((l.take i).map aimR))]) (fun _=>True) 0 (zj [] ?_ ?_) (Nat.zero_le _) trivial ?_
 · try simp only [go_sem]
 · try simp only [go_sem]
 · intro i vs hi _
   repeat refine zq ?_
   refine zb (by kernel_rfl) fun K hK=>?_
   simp only [go_sem]
   (try simp (disch:=omega) only [zI])
   repeat first | intro _ | refine ⟨by omega,?_⟩ | refine ⟨⟨by omega,by omega⟩,?_⟩
   refine hK _ ?_
   clear hK K
   refine zw (zk [1,2,3,4,12]) ?_
   simp only [go_sem]
   repeat refine zq ?_
   refine zc rfl (fun hc=>?_) (fun hc=>?_) <;> (try simp only [go_sem] at hc)
   · skip
     have hci:=hc
     obtain ⟨x,hx⟩:=opt_of_lt hc
     have hlt : (l.take i).length = i:=by rw [List.length_take]; omega
     refine zx ?_
     try simp only [go_sem]
     repeat refine zq ?_
     refine zd ?_
     repeat refine zq ?_
     refine awp_dreg3 [(1,none),(2,some 2),(3,some 3),(4,none)] [3] follows (by decide +kernel) (by kernel_rfl) (by simp only [keysOk,List.mem_cons,List.not_mem_nil,forall_eq_or_imp,Oc.keyOf,go_sem]; simp) (by intro k hk; simp only [List.mem_cons,List.not_mem_nil,or_false] at hk; first | (subst hk; exact ⟨_,rfl⟩) | (rcases hk with rfl | rfl <;> exact ⟨_,rfl⟩) | (rcases hk with rfl | rfl | rfl <;> exact ⟨_,rfl⟩)) fun K hK=>?_
     simp only [go_sem,hx,hci,aimR,hlt]
     (try simp (disch:=omega) only [zI])
     refine zh (aim_ok x (hb x (mem_of_opt hx))) rfl (by simp only [go_sem,i64,ints,hlt,aimR]) (by simp only [go_sem,i64,ints,hlt,aimR]) (by first | exact .inl rfl | exact .inr rfl) ?_
     (try simp only [go_sem,hlt,aimR])
     (try simp (disch:=omega) only [zI])
     repeat first | intro _ | refine ⟨by omega,?_⟩ | refine ⟨⟨by omega,by omega⟩,?_⟩
     refine hK _ ?_
     clear hK K
     refine zw (zk [1,2,3,4]) ?_
     simp only [go_sem]
     repeat refine zq ?_
     refine zb (by kernel_rfl) fun K hK=>?_
     simp only [go_sem]
     (try simp (disch:=omega) only [zI])
     repeat first | intro _ | refine ⟨by omega,?_⟩ | refine ⟨⟨by omega,by omega⟩,?_⟩
     refine hK _ ?_
     clear hK K
     try simp only [go_sem]
     refine ⟨hci,zj [] ?_ ?_⟩
     · try simp only [go_sem]
     · try simp only [go_sem]
       rw [take_of_opt hx]
       simp [aimR]
   · skip
     refine zf ?_
     simp only [go_sem]
     repeat refine zq ?_
     refine zb (by kernel_rfl) fun K hK=>?_
     simp only [go_sem]
     (try simp (disch:=omega) only [zI])
     repeat first | intro _ | refine ⟨by omega,?_⟩ | refine ⟨⟨by omega,by omega⟩,?_⟩
     refine hK _ ?_
     clear hK K
     refine zw (zk [2]) ?_
     simp only [go_sem]
     refine ze ?_
     simp only [go_sem]
     have : i = l.length:=by omega
     subst this
     simp [List.take_of_length_le]
end Go.Proofs.Ytgkejinoaommeaa

namespace Go.Proofs.Ytgkejinoaommeaa
open Go Go.Oc
set_option linter.unusedSimpArgs false
set_option linter.unusedVariables false
set_option maxRecDepth 8000
set_option maxHeartbeats 4000000
theorem eqS46' : eqN Try.prog 46 = some 2:=by kernel_rfl
def valsV (bs : List Int) (n : Nat) : List Int:=(List.range n).map fun k=>1000 * byteL bs (k + 3) - 100000
theorem valsV_len (bs : List Int) (n : Nat) : (valsV bs n).length = n:=by simp [valsV]
theorem valsV_le {bs : List Int} (hb : ∀ n ∈ bs,0 ≤ n ∧ n ≤ 255) (n : Nat) : Vals (valsV bs n):=fun v hv=>by
 obtain ⟨k,_,rfl⟩:=List.mem_map.1 hv
 have:=byteL_le hb (k + 3)
 omega
theorem pickE_zero' {D : Int} {l : List Am} {i : Nat} {a : Am} {vals : List Int} (hc : checkV D l = 0) (ha : l[i]? = some a) (hl : vals.length = a.beds.length) (hv : Vals vals) : pickE D l i vals = 0:=by
 have hil:=(List.getElem?_eq_some_iff.1 ha).1
 have hax : aimAt l i = a:=by simp [aimAt,ha]
 have hw : withinL (-1000000000000) 1000000000000 vals = true:=List.all_eq_true.2 fun v h=>by
  have:=hv v h
  simp only [Bool.and_eq_true,decide_eq_true_eq]; omega
 unfold pickE
 rw [if_neg (by simp [hc]),if_neg (by omega),hax,if_neg (by omega),hw]
 simp
theorem truths_law (x : Lw) (hx : WfLw x) (bs : List Int) (hb : ∀ n ∈ bs,0 ≤ n ∧ n ≤ 255) (t : Int) (ht : 0 ≤ t ∧ t ≤ 255) : ACalls Try.prog 10 [.ag (lwC x),u8s bs,.it .u8 t] (.bo true):=by
 have hkn:=known14_ok
 have hT46:=eqS46'
 have hmk:=make1_ok x hx 60 (by omega)
 obtain ⟨hD,hL,hmade,hcv,hwf⟩:=made_ok hx (most:=60) (by omega)
 generalize denM x 60 = D at *
 generalize aimsM x 60 = l at *
 have hown:=own_ok D l (by omega) fun a ha=>by have:=(hmade a ha).len; omega
 have hchk:=check_ok D l hwf
 have htig:=Tight_ok D l hwf
 simp only [hcv,if_true] at hchk htig
 obtain ⟨n,rfl⟩:=Int.eq_ofNat_of_zero_le ht.1
 have hil : n % l.length < l.length:=Nat.mod_lt _ (by omega)
 have htm : (n : Int).tmod (l.length : Int) = ((n % l.length : Nat) : Int):=(Int.ofNat_tmod _ _).symm
 generalize n % l.length = i at *
 obtain ⟨a,ha⟩:=opt_of_lt hil
 have hax : aimAt l i = a:=by simp [aimAt,ha]
 have hmd:=hmade a (mem_of_opt ha)
 have hlen:=hmd.len
 have hok:=hmd.ok
 simp only [aimOk,Bool.and_eq_true,decide_eq_true_eq] at hok
 obtain ⟨⟨⟨⟨⟨o1,o2⟩,o3⟩,o4⟩,o5⟩,o6⟩:=hok
 simp only [chOk,List.all_eq_true,Bool.and_eq_true,decide_eq_true_eq] at o4
 have hc : ∀ c ∈ a.beds,0 ≤ c.lo ∧ c.lo ≤ c.hi ∧ c.hi ≤ 3000:=fun c hc=>by have:=o4 c hc; omega
 have hlh : ∀ c ∈ a.beds,c.lo ≤ c.hi:=fun c h=>(hc c h).2.1
 have hmade2 : ∀ b ∈ l.map (tightA D),MadeI D b:=fun b hb=>by
  obtain ⟨b0,h0,rfl⟩:=List.mem_map.1 hb
  exact tight_made (by omega) (hmade b0 h0)
 obtain ⟨hcv2,hwf2⟩:=check_made (d:=D) (l:=l.map (tightA D)) (by omega) (by simp; omega) hmade2
 have hown2:=own_ok D (l.map (tightA D)) (by simp; omega) fun a ha=>by have:=(hmade2 a ha).len; omega
 have htig2:=Tight_ok D (l.map (tightA D)) hwf2
 simp only [hcv2,if_true] at htig2
 have htt : (l.map (tightA D)).map (tightA D) = l.map (tightA D):=by
  rw [List.map_map]
  refine List.map_congr_left fun b hb=>?_
  have:=(hmade b hb).ok
  simp only [aimOk,Bool.and_eq_true,decide_eq_true_eq,chOk,List.all_eq_true] at this
  obtain ⟨⟨⟨⟨_,_⟩,p4⟩,p5⟩,p6⟩:=this
  simp only [Function.comp_def,tightA]
  rw [tight_tight (fun c hc=>(p4 c hc).1.2) p5 p6]
 rw [htt] at htig2
 have hta : (l.map (tightA D))[i]? = some (tightA D a):=by simp [ha]
 have htl : (l.map (tightA D)).length = l.length:=by simp
 have hti : i < (l.map (tightA D)).length:=by omega
 have hmd2:=hmade2 _ (mem_of_opt hta)
 have hok2:=hmd2.ok
 simp only [aimOk,Bool.and_eq_true,decide_eq_true_eq,chOk,List.all_eq_true] at hok2
 obtain ⟨⟨⟨⟨_,_⟩,q4⟩,_⟩,_⟩:=hok2
 have htbl : (tightA D a).beds.length = a.beds.length:=tight_len D a.beds
 generalize hgl : l.map (tightA D) = tl at *
 have htr:=truthU_ok a D bs hb o5 (by omega) (by omega) hc o6
 have hI:=TI.it (bs:=bs) hb hlen.1 o5 hlh 31
 have hz:=itU_done (bs:=bs) hb hlen.1 o5 hlh o6
 have hty : TruthN D a.beds (truthU a.beds D bs):=⟨hI.len,hI.each,by have:=hI.sum; unfold truthU; omega⟩
 generalize truthU a.beds D bs = y at *
 have hvl:=valsV_len bs a.beds.length
 have hvv:=valsV_le hb a.beds.length
 have hmean:=Mean_ok D l i (valsV bs a.beds.length) hwf
 have hlst:=Truth_ok D l i (valsV bs a.beds.length) false hwf
 have hmst:=Truth_ok D l i (valsV bs a.beds.length) true hwf
 have hpk:=pickE_zero' hcv ha hvl hvv
 have hfb:=filled_bound hvl hty
 have m2 : truthV D l i (valsV bs a.beds.length) false = filledV cmpI D a.beds (valsV bs a.beds.length):=by simp only [truthV,hpk,hax]; rfl
 have m3 : truthV D l i (valsV bs a.beds.length) true = filledV (fun x y=>cmpI y x) D a.beds (valsV bs a.beds.length):=by simp only [truthV,hpk,hax]; rfl
 rw [m2] at hlst
 rw [m3] at hmst
 simp only [meanV,hpk,hax,if_true] at hmean hlst hmst
 have htl1:=filled_truth (cm:=cmpI) (vals:=valsV bs a.beds.length) hlh o5 o6
 have htm1:=filled_truth (cm:=fun x y=>cmpI y x) (vals:=valsV bs a.beds.length) hlh o5 o6
 unfold meanLo meanHi at hmean hfb
 have hmid : ∀ {y : List Int},TruthN D a.beds y → ACalls Try.prog 44 [.ag [i64 a.at_,bedsR a.beds],i64 D,ints y] (.bo true) ∧ ACalls Try.prog 36 [ints y,ints (valsV bs a.beds.length)] (i64 (dotV y (valsV bs a.beds.length))) ∧ ∀ v ∈ y,0 ≤ v ∧ v ≤ 6000:=fun {y} hy=>by
  have hyb : ∀ v ∈ y,0 ≤ v ∧ v ≤ 6000:=fun v hv=>by
   obtain ⟨k,hk⟩:=List.getElem?_of_mem hv
   have hkl:=(List.getElem?_eq_some_iff.1 hk).1
   have hyl:=hy.len
   have e:=hy.each k (by omega)
   have g:=hc _ (bAt_mem (show k < a.beds.length by omega))
   rw [List.getD_eq_getElem?_getD,hk] at e
   simp only [Option.getD_some] at e
   omega
  exact ⟨isTruth_ok a D y hy (fun c h=>by have:=hc c h; omega) (by omega) (by omega),meanX_ok y _ (by rw [hy.len,hvl]) hyb hvv (by rw [hy.len]; omega),hyb⟩
 have hit:=isTruth_ok (tightA D a) D y (truth_tight hty) (fun c h=>by have:=q4 c h; omega) (by omega) (by omega)
 obtain ⟨hy1,hy2,hy3⟩:=hmid hty
 obtain ⟨hl1,hl2,hl3⟩:=hmid htl1
 obtain ⟨hm1,hm2,hm3⟩:=hmid htm1
 generalize filledV cmpI D a.beds (valsV bs a.beds.length) = least at *
 generalize filledV (fun x y=>cmpI y x) D a.beds (valsV bs a.beds.length) = most at *
 have hone : ∀ k,k < a.beds.length → ∃ c c',a.beds[k]? = some c ∧ (tightA D a).beds[k]? = some c' ∧ c'.b = c.b ∧ ACalls Try.prog 39 [lawV D l,i64 (i : Int),ints (oneV a.beds.length k)] (.tu [.ag [i64 c'.lo,i64 c'.hi],i64 0]):=fun k hk=>by
  obtain ⟨c,hc1⟩:=opt_of_lt hk
  have e : bAt a.beds k = c:=by unfold bAt; rw [List.getD_eq_getElem?_getD,hc1]; rfl
  have hv1 : Vals (oneV a.beds.length k):=fun v hv=>by
   unfold oneV at hv
   rcases List.mem_or_eq_of_mem_set hv with h | rfl
   · have:=(List.mem_replicate.1 h).2; omega
   · omega
  have h0:=pickE_zero' hcv ha (oneV_len a.beds.length k) hv1
  have hM:=Mean_ok D l i (oneV a.beds.length k) hwf
  obtain ⟨t1,t2⟩:=tight_mean hlh o5 o6 hk
  simp only [meanV,h0,hax,if_true,t1,t2] at hM
  refine ⟨c,bAt (tightL D a.beds) k,hc1,?_,?_,hM⟩
  · unfold bAt
    rw [List.getD_eq_getElem?_getD,List.getElem?_eq_getElem (show k < (tightL D a.beds).length by rw [tight_len]; exact hk)]; simp only [tightA,Option.getD_some]
    exact List.getElem?_eq_getElem _
  · rw [bAt_tight hk,e]; rfl
 generalize tightA D a = ta at *
 generalize hvs : valsV bs a.beds.length = vals at *
 refine acalls_st (rs:=[.bo true]) [.tmp 6] Try.func10 rfl (by kernel_rfl) Try.ntmps10 rfl (by simp) rfl fun C vs=>?_
 repeat refine zq ?_
 refine zb (by kernel_rfl) fun K hK=>?_
 simp only [go_sem]
 (try simp (disch:=omega) only [zI])
 repeat first | intro _ | refine ⟨by omega,?_⟩ | refine ⟨⟨by omega,by omega⟩,?_⟩
 refine hK _ ?_
 clear hK K
 refine zw (zk [1,2,3]) ?_
 simp only [go_sem]
 repeat refine zq ?_
 refine zb (by kernel_rfl) fun K hK=>?_
 simp only [go_sem]
 (try simp (disch:=omega) only [zI])
 refine zh (hmk) rfl (by simp only [go_sem,i64,ints]) (by simp only [go_sem,i64,ints]) (by first | exact .inl rfl | exact .inr rfl) ?_
 (try simp only [go_sem])
 (try simp (disch:=omega) only [zI])
 repeat first | intro _ | refine ⟨by omega,?_⟩ | refine ⟨⟨by omega,by omega⟩,?_⟩
 refine hK _ ?_
 clear hK K
 refine zw (sub_frzP 7 7 [i64 D,aimsR l] (by omega) rfl rfl) ?_
 refine zw (zk [1,2,7]) ?_
 simp only [go_sem]
 repeat refine zq ?_
 refine zb (by kernel_rfl) fun K hK=>?_
 simp only [go_sem,bne_self_eq_false]
 (try simp (disch:=omega) only [zI])
 refine zh (hown) rfl (by simp only [go_sem,i64,ints]) (by simp only [go_sem,i64,ints]) (by first | exact .inl rfl | exact .inr rfl) ?_
 (try simp only [go_sem])
 (try simp (disch:=omega) only [zI])
 refine zh (hchk) rfl (by simp only [go_sem,i64,ints,bne_self_eq_false]) (by simp only [go_sem,i64,ints,bne_self_eq_false]) (by first | exact .inl rfl | exact .inr rfl) ?_
 (try simp only [go_sem,bne_self_eq_false])
 (try simp (disch:=omega) only [zI])
 repeat first | intro _ | refine ⟨by omega,?_⟩ | refine ⟨⟨by omega,by omega⟩,?_⟩
 refine hK _ ?_
 clear hK K
 refine zw (zk [1,2,7,32]) ?_
 simp only [go_sem]
 repeat refine zq ?_
 refine zc rfl (fun hc=>?_) (fun hc=>?_) <;> (try simp only [go_sem] at hc)
 refine zx ?_
 try simp only [go_sem]
 repeat refine zq ?_
 refine zb (by kernel_rfl) fun K hK=>?_
 simp only [go_sem]
 (try simp (disch:=omega) only [zI])
 refine zh (hown) rfl (by simp only [go_sem,i64,ints]) (by simp only [go_sem,i64,ints]) (by first | exact .inl rfl | exact .inr rfl) ?_
 (try simp only [go_sem])
 (try simp (disch:=omega) only [zI])
 refine zh (htig) rfl (by simp only [go_sem,i64,ints]) (by simp only [go_sem,i64,ints]) (by first | exact .inl rfl | exact .inr rfl) ?_
 (try simp only [go_sem])
 (try simp (disch:=omega) only [zI])
 repeat first | intro _ | refine ⟨by omega,?_⟩ | refine ⟨⟨by omega,by omega⟩,?_⟩
 refine hK _ ?_
 clear hK K
 refine zw (sub_frzP 8 8 [i64 D,aimsR tl] (by omega) rfl rfl) ?_
 refine zw (zk [1,2,7,8,9]) ?_
 simp only [go_sem]
 repeat refine zq ?_
 refine zb (by kernel_rfl) fun K hK=>?_
 simp only [go_sem,htm]
 (try simp (disch:=omega) only [zI])
 repeat first | intro _ | refine ⟨by omega,?_⟩ | refine ⟨⟨by omega,by omega⟩,?_⟩
 refine hK _ ?_
 clear hK K
 refine zw (zk [1,7,8,9,10]) ?_
 simp only [go_sem]
 rw [htm]
 repeat refine zq ?_
 refine zb (by kernel_rfl) fun K hK=>?_
 simp only [go_sem,ha,hil,aimR]
 (try simp (disch:=omega) only [zI])
 repeat first | intro _ | refine ⟨by omega,?_⟩ | refine ⟨⟨by omega,by omega⟩,?_⟩
 refine hK _ ?_
 clear hK K
 refine zw (sub_frzP 11 11 [i64 a.at_,bedsR a.beds] (by omega) rfl rfl) ?_
 refine zw (sub_own 12 67 3 1 (by omega) rfl) ?_
 refine zw (zk [1,7,8,9,10,11,12]) ?_
 simp only [go_sem]
 repeat refine zq ?_
 refine zb (by kernel_rfl) fun K hK=>?_
 simp only [go_sem]
 (try simp (disch:=omega) only [zI])
 repeat first | intro _ | refine ⟨by omega,?_⟩ | refine ⟨⟨by omega,by omega⟩,?_⟩
 refine hK _ ?_
 clear hK K
 refine zw (zk [1,7,8,9,10,11,12,13]) ?_
 simp only [go_sem]
 repeat refine zq ?_
 refine zd ?_
 refine awp_uptoV (n:=264) a.beds.length (fun k vs=>[(1,.r (u8s bs)),(7,.r (.rp [i64 D,aimsR l])),(8,.r (.rp [i64 D,aimsR tl])),(9,.r (i64 0)),(10,.r (i64 (i : Int))),(11,.r (.rp [i64 a.at_,bedsR a.beds])),(12,.os 67 (vs 67) 1 0 k),(13,.r (i64 (k : Int)))])
  (fun k vs=>[(67,.arr 3 1 ((vals.take k).map fun x=>[i64 x]))]) (fun _=>True) 0 (zj [3] ?_ ?_) (Nat.zero_le _) trivial ?_
 · try simp only [go_sem]
 · try simp only [go_sem]
 · intro k vs' hk _
   repeat refine zq ?_
   refine zb (by kernel_rfl) fun K hK=>?_
   simp only [go_sem]
   (try simp (disch:=omega) only [zI])
   repeat first | intro _ | refine ⟨by omega,?_⟩ | refine ⟨⟨by omega,by omega⟩,?_⟩
   refine hK _ ?_
   clear hK K
   refine zw (zk [1,7,8,9,10,11,12,13,55]) ?_
   simp only [go_sem]
   repeat refine zq ?_
   refine zc rfl (fun hc=>?_) (fun hc=>?_) <;> (try simp only [go_sem] at hc)
   · have hck : k < a.beds.length:=by omega
     have hkv : k < vals.length:=by omega
     obtain ⟨v,hv⟩:=opt_of_lt hkv
     have hve : v = 1000 * byteL bs (k + 3) - 100000:=by
      rw [← hvs] at hv
      unfold valsV at hv
      rw [List.getElem?_map,List.getElem?_range hck] at hv
      simpa using hv.symm
     have hbl:=byteL_le hb (k + 3)
     have hby:=mbyteOf_ok bs (k + 3)
     have ek : ((k + 3 : Nat) : Int) = (k : Int) + 3:=by omega
     rw [ek] at hby
     have hlk : (vals.take k).length = k:=by rw [List.length_take]; omega
     have htk : vals.take (k + 1) = vals.take k ++ [v]:=take_of_opt hv
     refine zx ?_
     try simp only [go_sem]
     repeat refine zq ?_
     refine zd ?_
     have hw1 : IntKind.i64.wrap (1000 * byteL bs (k + 3)) = 1000 * byteL bs (k + 3):=by rw [zI] <;> omega
     have hw2 : IntKind.i64.wrap (1000 * byteL bs (k + 3) - 100000) = 1000 * byteL bs (k + 3) - 100000:=by rw [zI] <;> omega
     repeat refine zq ?_
     refine zb (by kernel_rfl) fun K hK=>?_
     simp only [go_sem,hlk,hw1,hw2]
     (try simp (disch:=omega) only [zI])
     refine zh (hby) rfl (by simp only [go_sem,i64,ints,hlk,hw1,hw2]) (by simp only [go_sem,i64,ints,hlk,hw1,hw2]) (by first | exact .inl rfl | exact .inr rfl) ?_
     (try simp only [go_sem,hlk,hw1,hw2])
     (try simp (disch:=omega) only [zI])
     rw [← hve]
     repeat first | intro _ | refine ⟨by omega,?_⟩ | refine ⟨⟨by omega,by omega⟩,?_⟩
     refine hK _ ?_
     clear hK K
     refine zw (zk [1,7,8,9,10,11,12,13]) ?_
     simp only [go_sem]
     repeat refine zq ?_
     refine zb (by kernel_rfl) fun K hK=>?_
     simp only [go_sem]
     (try simp (disch:=omega) only [zI])
     repeat first | intro _ | refine ⟨by omega,?_⟩ | refine ⟨⟨by omega,by omega⟩,?_⟩
     refine hK _ ?_
     clear hK K
     try simp only [go_sem]
     refine ⟨by omega,zj [] ?_ ?_⟩
     · try simp only [go_sem]
     · try simp only [go_sem]
       rw [htk]
       simp
   · have hke : k = a.beds.length:=by omega
     subst hke
     have tk : vals.take a.beds.length = vals:=List.take_of_length_le (by omega)
     rw [tk]
     refine zf ?_
     simp only [go_sem]
     refine zw (sub_frz 12 67 (ty:=3) (sz:=1) (off:=0) (m:=a.beds.length) (es:=vals.map fun x=>[i64 x]) (by omega) rfl (by rfl) (by simp [hvl])) ?_
     have e0 : ((vals.map fun x=>[i64 x]).drop 0).take a.beds.length = vals.map fun x=>[i64 x]:=by
      rw [List.drop_zero,List.take_of_length_le (by simp [hvl])]
     rw [e0]
     have e1 : ((vals.map fun x=>[i64 x]).drop 0).take vals.length = vals.map fun x=>[i64 x]:=by
      rw [List.drop_zero,List.take_of_length_le (by simp)]
     refine zw (zk [1,7,8,9,10,11,12]) ?_
     simp only [go_sem]
     have hv1 : 1 ≤ vals.length:=by omega
     repeat refine zq ?_
     refine zb (by kernel_rfl) fun K hK=>?_
     simp only [go_sem]
     (try simp (disch:=omega) only [zI])
     refine zh (htr) rfl (by simp only [go_sem,i64,ints]) (by simp only [go_sem,i64,ints]) (by first | exact .inl rfl | exact .inr rfl) ?_
     (try simp only [go_sem])
     (try simp (disch:=omega) only [zI])
     repeat first | intro _ | refine ⟨by omega,?_⟩ | refine ⟨⟨by omega,by omega⟩,?_⟩
     refine hK _ ?_
     clear hK K
     refine zw (zk [7,8,9,10,11,12,14]) ?_
     simp only [go_sem]
     repeat refine zq ?_
     refine awp_long ?_
     refine sops_take 6 (by kernel_rfl) fun K hK=>?_
     simp only [go_sem,List.take_succ_cons,List.take_zero,List.drop_succ_cons,List.drop_zero,List.append_eq,List.cons_append,List.nil_append]
     (try simp (disch:=omega) only [zI])
     refine zh (hown) rfl (by simp only [go_sem,i64,ints]) (by simp only [go_sem,i64,ints]) (by first | exact .inl rfl | exact .inr rfl) ?_
     (try simp only [go_sem])
     (try simp (disch:=omega) only [zI])
     repeat first | intro _ | refine ⟨by omega,?_⟩ | refine ⟨⟨by omega,by omega⟩,?_⟩
     refine hK _ rfl ?_
     clear hK K
     refine sops_sub (sub_frz 79 79 (ty:=3) (sz:=1) (off:=0) (m:=vals.length) (es:=vals.map fun x=>[i64 x]) (by omega) rfl (by rfl) (by simp)) ?_
     rw [e1]
     refine sops_sub (zk [7,8,9,10,11,12,14,75,76,79]) ?_
     simp only [go_sem]
     refine sops_end (by kernel_rfl) fun K hK=>?_
     simp only [go_sem,List.drop_succ_cons,List.drop_zero,List.append_eq,List.cons_append,List.nil_append]
     (try simp (disch:=omega) only [zI])
     refine zh (hmean) rfl (by simp only [go_sem,i64,ints]) (by simp only [go_sem,i64,ints]) (by first | exact .inl rfl | exact .inr rfl) ?_
     (try simp only [go_sem])
     (try simp (disch:=omega) only [zI])
     repeat first | intro _ | refine ⟨by omega,?_⟩ | refine ⟨⟨by omega,by omega⟩,?_⟩
     refine hK _ ?_
     clear hK K
     refine zw (sub_frzP 15 15 [i64 (dotV least vals),i64 (dotV most vals)] (by omega) rfl rfl) ?_
     refine zw (zk [7,8,9,10,11,12,14,15,16]) ?_
     simp only [go_sem]
     repeat refine zq ?_
     refine awp_long ?_
     refine sops_take 6 (by kernel_rfl) fun K hK=>?_
     simp only [go_sem,List.take_succ_cons,List.take_zero,List.drop_succ_cons,List.drop_zero,List.append_eq,List.cons_append,List.nil_append]
     (try simp (disch:=omega) only [zI])
     refine zh (hown) rfl (by simp only [go_sem,i64,ints]) (by simp only [go_sem,i64,ints]) (by first | exact .inl rfl | exact .inr rfl) ?_
     (try simp only [go_sem])
     (try simp (disch:=omega) only [zI])
     repeat first | intro _ | refine ⟨by omega,?_⟩ | refine ⟨⟨by omega,by omega⟩,?_⟩
     refine hK _ rfl ?_
     clear hK K
     refine sops_sub (sub_frz 89 89 (ty:=3) (sz:=1) (off:=0) (m:=vals.length) (es:=vals.map fun x=>[i64 x]) (by omega) rfl (by rfl) (by simp)) ?_
     rw [e1]
     refine sops_sub (zk [7,8,9,10,11,12,14,15,16,17,18,85,86,89]) ?_
     simp only [go_sem]
     refine sops_end (by kernel_rfl) fun K hK=>?_
     simp only [go_sem,List.drop_succ_cons,List.drop_zero,List.append_eq,List.cons_append,List.nil_append]
     (try simp (disch:=omega) only [zI])
     refine zh (hlst) rfl (by simp only [go_sem,i64,ints]) (by simp only [go_sem,i64,ints]) (by first | exact .inl rfl | exact .inr rfl) ?_
     (try simp only [go_sem])
     (try simp (disch:=omega) only [zI])
     repeat first | intro _ | refine ⟨by omega,?_⟩ | refine ⟨⟨by omega,by omega⟩,?_⟩
     refine hK _ ?_
     clear hK K
     refine zw (zk [7,8,9,10,11,12,14,15,16,17,18]) ?_
     simp only [go_sem]
     repeat refine zq ?_
     refine awp_long ?_
     refine sops_take 6 (by kernel_rfl) fun K hK=>?_
     simp only [go_sem,List.take_succ_cons,List.take_zero,List.drop_succ_cons,List.drop_zero,List.append_eq,List.cons_append,List.nil_append]
     (try simp (disch:=omega) only [zI])
     refine zh (hown) rfl (by simp only [go_sem,i64,ints]) (by simp only [go_sem,i64,ints]) (by first | exact .inl rfl | exact .inr rfl) ?_
     (try simp only [go_sem])
     (try simp (disch:=omega) only [zI])
     repeat first | intro _ | refine ⟨by omega,?_⟩ | refine ⟨⟨by omega,by omega⟩,?_⟩
     refine hK _ rfl ?_
     clear hK K
     refine sops_sub (sub_frz 99 99 (ty:=3) (sz:=1) (off:=0) (m:=vals.length) (es:=vals.map fun x=>[i64 x]) (by omega) rfl (by rfl) (by simp)) ?_
     rw [e1]
     refine sops_sub (zk [7,8,9,10,11,12,14,15,16,17,18,95,96,99]) ?_
     simp only [go_sem]
     refine sops_end (by kernel_rfl) fun K hK=>?_
     simp only [go_sem,List.drop_succ_cons,List.drop_zero,List.append_eq,List.cons_append,List.nil_append]
     (try simp (disch:=omega) only [zI])
     refine zh (hmst) rfl (by simp only [go_sem,i64,ints]) (by simp only [go_sem,i64,ints]) (by first | exact .inl rfl | exact .inr rfl) ?_
     (try simp only [go_sem])
     (try simp (disch:=omega) only [zI])
     repeat first | intro _ | refine ⟨by omega,?_⟩ | refine ⟨⟨by omega,by omega⟩,?_⟩
     refine hK _ ?_
     clear hK K
     refine zw (zk [7,8,9,10,11,12,14,15,16,17,18,19,20]) ?_
     simp only [go_sem]
     repeat refine zq ?_
     refine zg follows (by decide +kernel) (by kernel_rfl) fun K hK=>?_
     simp only [go_sem,bne_self_eq_false,htl,hta,hti,aimR]
     (try simp (disch:=omega) only [zI])
     refine zh (hy1) rfl (by simp only [go_sem,i64,ints,bne_self_eq_false,htl,hta,hti,aimR]) (by simp only [go_sem,i64,ints,bne_self_eq_false,htl,hta,hti,aimR]) (by first | exact .inl rfl | exact .inr rfl) ?_
     (try simp only [go_sem,bne_self_eq_false,htl,hta,hti,aimR])
     (try simp (disch:=omega) only [zI])
     refine zh (hl1) rfl (by simp only [go_sem,i64,ints,bne_self_eq_false,htl,hta,hti,aimR]) (by simp only [go_sem,i64,ints,bne_self_eq_false,htl,hta,hti,aimR]) (by first | exact .inl rfl | exact .inr rfl) ?_
     (try simp only [go_sem,bne_self_eq_false,htl,hta,hti,aimR])
     (try simp (disch:=omega) only [zI])
     refine zh (hm1) rfl (by simp only [go_sem,i64,ints,bne_self_eq_false,htl,hta,hti,aimR]) (by simp only [go_sem,i64,ints,bne_self_eq_false,htl,hta,hti,aimR]) (by first | exact .inl rfl | exact .inr rfl) ?_
     (try simp only [go_sem,bne_self_eq_false,htl,hta,hti,aimR])
     (try simp (disch:=omega) only [zI])
     repeat first | intro _ | refine ⟨by omega,?_⟩ | refine ⟨⟨by omega,by omega⟩,?_⟩
     refine zh (hit) rfl (by simp only [go_sem,i64,ints,bne_self_eq_false,htl,hta,hti,aimR]) (by simp only [go_sem,i64,ints,bne_self_eq_false,htl,hta,hti,aimR]) (by first | exact .inl rfl | exact .inr rfl) ?_
     (try simp only [go_sem,bne_self_eq_false,htl,hta,hti,aimR])
     (try simp (disch:=omega) only [zI])
     repeat first | intro _ | refine ⟨by omega,?_⟩ | refine ⟨⟨by omega,by omega⟩,?_⟩
     refine hK _ ?_
     clear hK K
     refine zw (zk [7,8,10,11,12,14,15,17,19,161]) ?_
     simp only [go_sem]
     repeat refine zq ?_
     refine zc rfl (fun hc=>?_) (fun hc=>?_) <;> (try simp only [go_sem] at hc)
     refine zx ?_
     try simp only [go_sem]
     repeat refine zq ?_
     refine zb (by kernel_rfl) fun K hK=>?_
     simp only [go_sem]
     (try simp (disch:=omega) only [zI])
     refine zh (hy2) rfl (by simp only [go_sem,i64,ints]) (by simp only [go_sem,i64,ints]) (by first | exact .inl rfl | exact .inr rfl) ?_
     (try simp only [go_sem])
     (try simp (disch:=omega) only [zI])
     repeat first | intro _ | refine ⟨by omega,?_⟩ | refine ⟨⟨by omega,by omega⟩,?_⟩
     refine hK _ ?_
     clear hK K
     refine zw (zk [7,8,10,11,12,15,17,19,21]) ?_
     simp only [go_sem]
     have d1 : decide (dotV y vals < dotV least vals) = false:=decide_eq_false (by omega)
     have d1' : ¬ dotV y vals < dotV least vals:=by omega
     have d2 : decide (dotV most vals < dotV y vals) = false:=decide_eq_false (by omega)
     have d2' : ¬ dotV most vals < dotV y vals:=by omega
     repeat refine zq ?_
     refine zg follows (by decide +kernel) (by kernel_rfl) fun K hK=>?_
     simp only [go_sem,bne_self_eq_false,d1,d1',d2,d2']
     (try simp (disch:=omega) only [zI])
     refine zh (hl2) rfl (by simp only [go_sem,i64,ints,bne_self_eq_false]) (by simp only [go_sem,i64,ints,bne_self_eq_false]) (by first | exact .inl rfl | exact .inr rfl) ?_
     (try simp only [go_sem,bne_self_eq_false])
     (try simp (disch:=omega) only [zI])
     refine zh (hm2) rfl (by simp only [go_sem,i64,ints,bne_self_eq_false]) (by simp only [go_sem,i64,ints,bne_self_eq_false]) (by first | exact .inl rfl | exact .inr rfl) ?_
     (try simp only [go_sem,bne_self_eq_false])
     (try simp (disch:=omega) only [zI])
     repeat first | intro _ | refine ⟨by omega,?_⟩ | refine ⟨⟨by omega,by omega⟩,?_⟩
     refine hK _ ?_
     clear hK K
     refine zw (zk [7,8,10,11,190]) ?_
     simp only [go_sem]
     repeat refine zq ?_
     refine zc rfl (fun hc=>?_) (fun hc=>?_) <;> (try simp only [go_sem] at hc)
     refine zx ?_
     try simp only [go_sem]
     repeat refine zq ?_
     refine zb (by kernel_rfl) fun K hK=>?_
     simp only [go_sem]
     (try simp (disch:=omega) only [zI])
     repeat first | intro _ | refine ⟨by omega,?_⟩ | refine ⟨⟨by omega,by omega⟩,?_⟩
     refine hK _ ?_
     clear hK K
     refine zw (zk [7,8,10,11,22]) ?_
     simp only [go_sem]
     repeat refine zq ?_
     refine zd ?_
     refine awp_uptoV (n:=264) a.beds.length (fun k vs=>[(7,.r (.rp [i64 D,aimsR l])),(8,.r (.rp [i64 D,aimsR tl])),(10,.r (i64 (i : Int))),(11,.r (.rp [i64 a.at_,bedsR a.beds])),(22,.r (i64 (k : Int)))])
      (fun k vs=>[]) (fun _=>True) 0 (zj [] ?_ ?_) (Nat.zero_le _) trivial ?_
     · try simp only [go_sem]
     · try simp only [go_sem]
     · intro k vs' hk _
       repeat refine zq ?_
       refine zb (by kernel_rfl) fun K hK=>?_
       simp only [go_sem]
       (try simp (disch:=omega) only [zI])
       repeat first | intro _ | refine ⟨by omega,?_⟩ | refine ⟨⟨by omega,by omega⟩,?_⟩
       refine hK _ ?_
       clear hK K
       refine zw (zk [7,8,10,11,22,195]) ?_
       simp only [go_sem]
       repeat refine zq ?_
       refine zc rfl (fun hc=>?_) (fun hc=>?_) <;> (try simp only [go_sem] at hc)
       · have hck : k < a.beds.length:=by omega
         have hckt : k < ta.beds.length:=by omega
         obtain ⟨c,c',hc1,hc2,hcb,hon⟩:=hone k hck
         refine zx ?_
         try simp only [go_sem]
         repeat refine zq ?_
         refine zd ?_
         repeat refine zq ?_
         refine zb (by kernel_rfl) fun K hK=>?_
         simp only [go_sem]
         (try simp (disch:=omega) only [zI])
         repeat first | intro _ | refine ⟨by omega,?_⟩ | refine ⟨⟨by omega,by omega⟩,?_⟩
         refine hK _ ?_
         clear hK K
         refine zw (zk [7,8,10,11,22,23]) ?_
         simp only [go_sem]
         have hrl : (List.replicate a.beds.length [i64 0]).length = a.beds.length:=by simp
         have hgd : (List.replicate a.beds.length [i64 0]).getD k [] = [i64 0]:=by rw [List.getD_eq_getElem?_getD,List.getElem?_replicate,if_pos hck]; rfl
         have hrl' : k < (List.replicate a.beds.length [i64 0]).length:=by simp; omega
         repeat refine zq ?_
         refine zb (by kernel_rfl) fun K hK=>?_
         simp only [go_sem,hrl,List.length_replicate,hgd,List.drop_succ_cons,List.drop_zero]
         (try simp (disch:=omega) only [zI])
         repeat first | intro _ | refine ⟨by omega,?_⟩ | refine ⟨⟨by omega,by omega⟩,?_⟩
         refine hK _ ?_
         clear hK K
         refine zw (zk [7,8,10,11,22,23]) ?_
         simp only [go_sem]
         refine zw (sub_frz 23 201 (ty:=3) (sz:=1) (off:=0) (m:=a.beds.length) (es:=(List.replicate a.beds.length [i64 0]).set k [i64 1]) (by omega) rfl (by rfl) (by simp)) ?_
         have e2 : (((List.replicate a.beds.length [i64 0]).set k [i64 1]).drop 0).take a.beds.length = (oneV a.beds.length k).map fun x=>[i64 x]:=by
          rw [List.drop_zero,List.take_of_length_le (by simp),oneV,List.map_set,List.map_replicate]
         rw [e2]
         refine zw (zk [7,8,10,11,22,23]) ?_
         simp only [go_sem]
         repeat refine zq ?_
         refine zb (by kernel_rfl) fun K hK=>?_
         simp only [go_sem]
         (try simp (disch:=omega) only [zI])
         refine zh (hown) rfl (by simp only [go_sem,i64,ints]) (by simp only [go_sem,i64,ints]) (by first | exact .inl rfl | exact .inr rfl) ?_
         (try simp only [go_sem])
         (try simp (disch:=omega) only [zI])
         refine zh (hon) rfl (by simp only [go_sem,i64,ints]) (by simp only [go_sem,i64,ints]) (by first | exact .inl rfl | exact .inr rfl) ?_
         (try simp only [go_sem])
         (try simp (disch:=omega) only [zI])
         repeat first | intro _ | refine ⟨by omega,?_⟩ | refine ⟨⟨by omega,by omega⟩,?_⟩
         refine hK _ ?_
         clear hK K
         refine zw (sub_frzP 24 24 [i64 c'.lo,i64 c'.hi] (by omega) rfl rfl) ?_
         refine zw (zk [7,8,10,11,22,24,25]) ?_
         simp only [go_sem]
         have hb2 : (c'.b != c.b) = false:=by simp [hcb]
         repeat refine zq ?_
         refine zg follows (by decide +kernel) (by kernel_rfl) fun K hK=>?_
         simp only [go_sem,bne_self_eq_false,hT46,cmpL,eq_self,if_true,beq_self_eq_true,Bool.and_true,Bool.not_true,List.length_cons,List.length_nil,hta,hti,aimR,hc1,hc2,hck,hckt,bedR,hb2]
         (try simp (disch:=omega) only [zI])
         repeat first | intro _ | refine ⟨by omega,?_⟩ | refine ⟨⟨by omega,by omega⟩,?_⟩
         refine hK _ ?_
         clear hK K
         refine zw (zk [7,8,10,11,22,247]) ?_
         simp only [go_sem]
         repeat refine zq ?_
         refine zc rfl (fun hc=>?_) (fun hc=>?_) <;> (try simp only [go_sem] at hc)
         refine zx ?_
         try simp only [go_sem]
         repeat refine zq ?_
         refine zb (by kernel_rfl) fun K hK=>?_
         simp only [go_sem]
         (try simp (disch:=omega) only [zI])
         repeat first | intro _ | refine ⟨by omega,?_⟩ | refine ⟨⟨by omega,by omega⟩,?_⟩
         refine hK _ ?_
         clear hK K
         try simp only [go_sem]
         refine ⟨by omega,zj [] ?_ ?_⟩
         · try simp only [go_sem]
         · try simp only [go_sem]
       · have hke : k = a.beds.length:=by omega
         subst hke
         refine zf ?_
         simp only [go_sem]
         repeat refine zq ?_
         refine zb (by kernel_rfl) fun K hK=>?_
         simp only [go_sem]
         (try simp (disch:=omega) only [zI])
         refine zh (hown2) rfl (by simp only [go_sem,i64,ints]) (by simp only [go_sem,i64,ints]) (by first | exact .inl rfl | exact .inr rfl) ?_
         (try simp only [go_sem])
         (try simp (disch:=omega) only [zI])
         refine zh (htig2) rfl (by simp only [go_sem,i64,ints]) (by simp only [go_sem,i64,ints]) (by first | exact .inl rfl | exact .inr rfl) ?_
         (try simp only [go_sem])
         (try simp (disch:=omega) only [zI])
         repeat first | intro _ | refine ⟨by omega,?_⟩ | refine ⟨⟨by omega,by omega⟩,?_⟩
         refine hK _ ?_
         clear hK K
         refine zw (sub_frzP 26 26 [i64 D,aimsR tl] (by omega) rfl rfl) ?_
         refine zw (zk [8,9,26]) ?_
         simp only [go_sem]
         have heq:=equal_ok D D tl tl
         rw [decide_eq_true (show D = D ∧ tl = tl from ⟨rfl,rfl⟩)] at heq
         repeat refine zq ?_
         refine zb (by kernel_rfl) fun K hK=>?_
         simp only [go_sem]
         (try simp (disch:=omega) only [zI])
         refine zh (heq) rfl (by simp only [go_sem,i64,ints]) (by simp only [go_sem,i64,ints]) (by first | exact .inl rfl | exact .inr rfl) ?_
         (try simp only [go_sem])
         (try simp (disch:=omega) only [zI])
         refine zh (hkn) rfl (by simp only [go_sem,i64,ints]) (by simp only [go_sem,i64,ints]) (by first | exact .inl rfl | exact .inr rfl) ?_
         (try simp only [go_sem])
         (try simp (disch:=omega) only [zI])
         repeat first | intro _ | refine ⟨by omega,?_⟩ | refine ⟨⟨by omega,by omega⟩,?_⟩
         refine hK _ ?_
         clear hK K
         refine zw (zk [6]) ?_
         simp only [go_sem]
         refine ze ?_
         simp only [go_sem]
end Go.Proofs.Ytgkejinoaommeaa

namespace Go.Oc
open Go Go.RowKit Go.ChangeShapes Go.WideShapes
inductive Sh where
 | int (k : IntKind)
 | bool
 | sl (es : List Sh)
def fieldsSh (P : Program) (sh : TypeId → Option (List Sh)) : List Field → Nat → Option (List Sh)
 | [],_=>some []
 | f :: fs, o =>
   match sh f.type with
   | some ss=>if f.offset == o && ss.length == P.cellsOf f.type then match fieldsSh P sh fs (o + ss.length) with | some q=>some (ss ++ q) | none=>none else none
   | none=>none
def shape (P : Program) : Nat → TypeId → Option (List Sh)
 | 0,_=>none
 | n + 1, t =>
   match P.underlying t with
   | some (.int k)=>some [.int k]
   | some .bool=>some [.bool]
   | some (.slice e) =>
     match shape P n e with
     | some ss=>if ss.length == P.cellsOf e && decide (0 < ss.length) then some [.sl ss] else none
     | none=>none
   | some (.array m e) =>
     match shape P n e with
     | some ss=>if ss.length == P.cellsOf e && P.cellsOf t == m * ss.length then some (List.replicate m ss).flatten else none
     | none=>none
   | some (.struct fs) =>
     match fieldsSh P (shape P n) fs.toList 0 with
     | some ss=>if ss.length == P.cellsOf t then some ss else none
     | none=>none
   | _=>none
mutual
def Fits : Sh → RV → Prop
 | .int k,x=>∃ n,x = .it k n ∧ (Lit.int k n).wf = true
 | .bool,x=>∃ b,x = .bo b
 | .sl ss,x=>∃ es,x = .sl ss.length es ∧ FitsE ss es
def FitsL : List Sh → List RV → Prop
 | [],xs=>xs = []
 | s :: ss,xs=>∃ y ys,xs = y :: ys ∧ Fits s y ∧ FitsL ss ys
def FitsE (ss : List Sh) : List (List RV) → Prop
 | []=>True
 | e :: es=>FitsL ss e ∧ FitsE ss es
end
theorem fitsL_append : ∀ {s1 s2 : List Sh} {x1 x2 : List RV},FitsL s1 x1 → FitsL s2 x2 → FitsL (s1 ++ s2) (x1 ++ x2)
 | [],_,_,_,h1,h2=>by simp only [FitsL] at h1; subst h1; simpa using h2
 | s :: ss, s2, x1, x2, h1, h2 => by
   simp only [FitsL] at h1
   obtain ⟨y,ys,rfl,h3,h4⟩:=h1
   simp only [List.cons_append,FitsL]
   exact ⟨y,_,rfl,h3,fitsL_append h4 h2⟩
theorem fitsL_length : ∀ {ss : List Sh} {xs : List RV},FitsL ss xs → xs.length = ss.length
 | [],_,h=>by simp only [FitsL] at h; subst h; rfl
 | s :: ss, _, h => by
   simp only [FitsL] at h
   obtain ⟨y,ys,rfl,_,h⟩:=h
   simp [fitsL_length h]
theorem fitsE_of : ∀ {ss : List Sh} {es : List (List RV)},(∀ e ∈ es,FitsL ss e) → FitsE ss es
 | _,[],_=>by simp only [FitsE]
 | ss,e :: es,h=>by simp only [FitsE]; exact ⟨h e (by simp),fitsE_of fun x hx=>h x (by simp [hx])⟩
theorem choice {α : Type} {Q : Nat → α → Prop} : ∀ (n : Nat),(∀ i,i < n → ∃ x,Q i x) → ∃ xs : List α,xs.length = n ∧ ∀ i x,xs[i]? = some x → Q i x
 | 0,_=>⟨[],rfl,by simp⟩
 | n + 1, h => by
   obtain ⟨xs,hl,hx⟩:=choice n fun i hi=>h i (by omega)
   obtain ⟨y,hy⟩:=h n (by omega)
   refine ⟨xs ++ [y],by simp [hl],fun i x hi=>?_⟩
   by_cases h1 : i < n
   · rw [List.getElem?_append_left (by omega)] at hi; exact hx i x hi
   · rw [List.getElem?_append_right (by omega)] at hi
     have : i = n:=by have:=(List.getElem?_eq_some_iff.1 hi).1; simp at this; omega
     subst this
     simp [hl] at hi
     exact hi ▸ hy
section
variable {w : World} {P : Program}
theorem cells?_get {base n : Nat} {a : Addr} {cs : List Value} (h : w.cells? base a n = some cs) : cs.length = n ∧ ∀ i,i < n → w.cell? (a.add i) = cs[i]?:=by
 unfold World.cells? at h
 split at h
 · exact ⟨by simpa using mapM_some_length h,fun i hi=>mapM_some_get h i i (by simp [hi])⟩
 · cases h
theorem cell_lt {a : Addr} {v : Value} (h : w.cell? a = some v) : a.block < w.heap.size:=by
 refine Decidable.byContradiction fun hn=>?_
 have : w.heap[a.block]? = none:=by simp; omega
 simp [World.cell?,this] at h
def old (w : World) : Nat → Prop:=fun b=>b < w.heap.size
theorem relC_of_cells {xs : List RV} {cs : List Value} {ad : Addr} (hV : RV.relV w (old w) xs cs) (hone : ∀ u ∈ cs,u.oneCell' = true) (hc : ∀ i,i < cs.length → w.cell? (ad.add i) = cs[i]?) : RV.relC w (old w) xs ad 0:=by
 refine RV.relC_of_get fun i x hx=>?_
 obtain ⟨u,hu,hr⟩:=RV.relV_get hV hx
 have hi:=(List.getElem?_eq_some_iff.1 hu).1
 refine ⟨u,?_,hone u (List.mem_of_getElem? hu),hr⟩
 rw [Nat.zero_add,hc i hi,hu]
variable {H : Type} {enc : TypeId × Value → H} {base : Nat} {spare : Nat → Bool} {held : Bool}
def Good3 (w : World) (ss : List Sh) (cs : List Value) : Prop:=∃ xs,FitsL ss xs ∧ RV.relV w (old w) xs cs ∧ ∀ u ∈ cs,u.oneCell' = true
theorem good3_append {s1 s2 : List Sh} {c1 c2 : List Value} (h1 : Good3 w s1 c1) (h2 : Good3 w s2 c2) : Good3 w (s1 ++ s2) (c1 ++ c2):=by
 obtain ⟨x1,f1,r1,o1⟩:=h1
 obtain ⟨x2,f2,r2,o2⟩:=h2
 refine ⟨x1 ++ x2,fitsL_append f1 f2,RV.relV_append r1 r2,fun u hu=>?_⟩
 rcases List.mem_append.1 hu with hu | hu
 · exact o1 u hu
 · exact o2 u hu
theorem good3_length {ss : List Sh} {cs : List Value} (h : Good3 w ss cs) : cs.length = ss.length:=by
 obtain ⟨xs,f,r,_⟩:=h
 rw [RV.relV_length r,fitsL_length f]
theorem trod_fits : ∀ (fuel n : Nat) (t : TypeId) (cs : List Value) (x : DataW H × List MemPlace) (ss : List Sh),DataW.trod enc P w base spare held fuel t cs = some x → shape P n t = some ss → Good3 w ss cs:=by
 intro fuel
 induction fuel with
 | zero=>intro n t cs x ss h; simp [DataW.trod] at h
 | succ fuel ih =>
   intro n t cs x ss h hs
   cases n with
   | zero=>simp [shape] at hs
   | succ n =>
     unfold shape at hs
     split at hs
     · rename_i k ht
       injection hs with hs; subst hs
       obtain ⟨m,rfl,_,hw⟩:=DataW.trod_int ht h
       exact ⟨[.it k m],by simp only [FitsL,Fits]; exact ⟨_,[],rfl,⟨m,rfl,hw⟩,rfl⟩,by simp only [RV.relV,RV.rel]; exact ⟨_,[],rfl,rfl,rfl⟩,by simp [Value.oneCell']⟩
     · rename_i ht
       injection hs with hs; subst hs
       obtain ⟨b,rfl,_⟩:=DataW.trod_bool ht h
       exact ⟨[.bo b],by simp only [FitsL,Fits]; exact ⟨_,[],rfl,⟨b,rfl⟩,rfl⟩,by simp only [RV.relV,RV.rel]; exact ⟨_,[],rfl,rfl,rfl⟩,by simp [Value.oneCell']⟩
     · rename_i e ht
       split at hs
       · rename_i es hes
         split at hs
         · rename_i hc
           simp only [Bool.and_eq_true,beq_iff_eq,decide_eq_true_eq] at hc
           injection hs with hs; subst hs
           rcases DataW.trod_slice ht h with ⟨rfl,_⟩ | ⟨a,len,cap,elems,rest,m,hm,rfl,_,_,hlc,hcm,hel,hget,_⟩
           · refine ⟨[.sl es.length []],?_,?_,by simp [Value.oneCell']⟩
             · simp only [FitsL,Fits]
               exact ⟨_,[],rfl,⟨[],rfl,by simp only [FitsE]⟩,rfl⟩
             · simp only [RV.relV,RV.rel]
               exact ⟨_,[],rfl,⟨none,0,rfl,Nat.le_refl _,Nat.zero_le _,fun h=>absurd rfl h⟩,rfl⟩
           · injection hm with hm; subst hm
             have hall : ∀ i,i < len → ∃ e',FitsL es e' ∧ e'.length = es.length ∧ RV.relC w (old w) e' (a.add (i * es.length)) 0 ∧ a.block < w.heap.size:=fun i hi=>by
              have h1:=hget i hi
              have h2 : i < elems.length:=by omega
              rw [List.getElem?_eq_getElem h2] at h1
              obtain ⟨ci,hci,htr⟩:=Option.bind_eq_some_iff.1 h1
              rw [← hc.1] at hci
              obtain ⟨hl,hcell⟩:=cells?_get hci
              obtain ⟨xs,f,r,o⟩:=ih n e ci _ es htr hes
              refine ⟨xs,f,fitsL_length f,relC_of_cells r o (fun j hj=>hcell j (by omega)),?_⟩
              have h3:=hcell 0 hc.2
              have h4 : 0 < ci.length:=by omega
              rw [List.getElem?_eq_getElem h4] at h3
              have:=cell_lt h3
              rwa [block_add,block_add] at this
             obtain ⟨els,hlen,hels⟩:=choice len hall
             refine ⟨[.sl es.length els],?_,?_,by simp [Value.oneCell']⟩
             · simp only [FitsL,Fits]
               refine ⟨_,[],rfl,⟨els,rfl,fitsE_of fun e' he'=>?_⟩,rfl⟩
               obtain ⟨i,hi⟩:=List.getElem?_of_mem he'
               exact (hels i e' hi).1
             · simp only [RV.relV,RV.rel]
               refine ⟨_,[],rfl,⟨some a,cap,by rw [hlen],by omega,hcm,fun hne=>?_⟩,rfl⟩
               obtain ⟨e0,he0⟩ : ∃ e0,els[0]? = some e0:=by
                cases els with
                | nil=>exact absurd rfl hne
                | cons a l=>exact ⟨a,rfl⟩
               refine ⟨a,rfl,(hels 0 e0 he0).2.2.2,RV.relE_of_get fun i e' he'=>?_⟩
               obtain ⟨_,q1,q2,_⟩:=hels i e' he'
               exact ⟨q1,RV.relC_unbase _ q2⟩
         · cases hs
       · cases hs
     · rename_i m e ht
       split at hs
       · rename_i es hes
         split at hs
         · rename_i hc
           simp only [Bool.and_eq_true,beq_iff_eq] at hc
           injection hs with hs; subst hs
           obtain ⟨xs,fm,hm,_,hcl,hxl,hget⟩:=DataW.trod_array ht h
           injection hm with hm; subst hm
           have key : ∀ j,j ≤ m → Good3 w (List.replicate j es).flatten (cs.take (j * es.length)):=by
            intro j
            induction j with
            | zero=>intro _; exact ⟨[],by simp [FitsL],by simp [RV.relV],by simp⟩
            | succ j ihj =>
              intro hj
              have h1:=hget j (by omega)
              have h2 : j < xs.length:=by omega
              rw [List.getElem?_eq_getElem h2,← hc.1] at h1
              have h3:=ih n e _ _ es h1 hes
              have:=good3_append (ihj (by omega)) h3
              rw [← List.take_add] at this
              rw [List.replicate_succ',List.flatten_append,Nat.add_mul]
              simpa using this
           have:=key m (Nat.le_refl _)
           rwa [← hc.2,← hcl,List.take_length] at this
         · cases hs
       · cases hs
     · rename_i fs ht
       split at hs
       · rename_i q hq
         split at hs
         · rename_i hc
           simp only [beq_iff_eq] at hc
           injection hs with hs; subst hs
           obtain ⟨xs,fm,hm,_,hcl,hxl,hget⟩:=DataW.trod_struct ht h
           injection hm with hm; subst hm
           have key : ∀ (l : List Field) (o : Nat) (q : List Sh),(∀ f ∈ l,∃ y,DataW.trod enc P w base spare held fuel f.type ((cs.drop f.offset).take (P.cellsOf f.type)) = some y) → fieldsSh P (shape P n) l o = some q → Good3 w q ((cs.drop o).take q.length):=by
            intro l
            induction l with
            | nil =>
              intro o q _ hq
              simp only [fieldsSh,Option.some.injEq] at hq
              subst hq
              exact ⟨[],by simp [FitsL],by simp [RV.relV],by simp⟩
            | cons f l ihl =>
              intro o q hall hq
              simp only [fieldsSh] at hq
              split at hq
              · rename_i s1 hs1
                split at hq
                · rename_i hc1
                  simp only [Bool.and_eq_true,beq_iff_eq] at hc1
                  split at hq
                  · rename_i q2 hq2
                    injection hq with hq; subst hq
                    obtain ⟨y,hy⟩:=hall f (by simp)
                    have g1:=ih n f.type _ _ s1 hy hs1
                    have g2:=ihl (o + s1.length) q2 (fun f' hf'=>hall f' (by simp [hf'])) hq2
                    rw [hc1.1,← hc1.2] at g1
                    have:=good3_append g1 g2
                    rw [← List.drop_drop,← List.take_add] at this
                    simpa using this
                  · cases hq
                · cases hq
              · cases hq
           have:=key fs.toList 0 q (fun f hf=>by
            obtain ⟨i,hi⟩:=List.getElem?_of_mem hf
            have hi' : fs[i]? = some f:=by simpa using hi
            have h1:=hget i f hi'
            have h2 : i < xs.length:=by have:=(Array.getElem?_eq_some_iff.1 hi').1; omega
            exact ⟨xs[i],by rw [h1]; exact List.getElem?_eq_getElem h2⟩) hq
           rwa [List.drop_zero,hc,← hcl,List.take_length] at this
         · cases hs
       · cases hs
     · cases hs
def FitsT (P : Program) (n : Nat) (t : TypeId) (x : RV) : Prop:=∃ ss,shape P n t = some ss ∧ if aggOf P t then ∃ xs,x = .ag xs ∧ FitsL ss xs else FitsL ss [x]
theorem arg_fits {n : Nat} {t : TypeId} {v : Value} {d : DataW H} {ps : List MemPlace} {r : Reach} {b0 : Nat} (hs : (shape P n t).isSome = true) (hval : Value.okWide P w r b0 t v) (h : DataW.Trod enc P w base spare held t v d ps) :
 ∃ x,FitsT P n t x ∧ x.rel w (old w) v:=by
 obtain ⟨ss,hss⟩:=Option.isSome_iff_exists.1 hs
 obtain ⟨fuel,hf⟩:=h
 obtain ⟨xs,f,r,o⟩:=trod_fits fuel n t _ _ ss hf hss
 have one : aggOf P t = false → v.cells.toList = [v] → ∃ x,FitsT P n t x ∧ x.rel w (old w) v:=fun ha hc=>by
  rw [hc] at r
  match xs,r with
  | [x], r =>
    simp only [RV.relV] at r
    obtain ⟨u,us,e,hr,_⟩:=r
    injection e with e1 e2
    subst e1
    exact ⟨x,⟨ss,hss,by rw [ha]; exact f⟩,hr⟩
  | [],r=>simp [RV.relV] at r
  | _ :: _ :: _, r =>
    simp only [RV.relV] at r
    obtain ⟨u,us,e,_,u2,us2,e2,_⟩:=r
    injection e with _ e
    rw [e2] at e; cases e
 cases n with
 | zero=>simp [shape] at hss
 | succ n =>
   have hss':=hss
   unfold shape at hss'
   split at hss'
   · rename_i k ht
     obtain ⟨m,rfl⟩:=okWide_int ht hval
     exact one (by simp [aggOf,ht]) rfl
   · rename_i ht
     obtain ⟨b,rfl⟩:=okWide_bool ht hval
     exact one (by simp [aggOf,ht]) rfl
   · rename_i e ht
     obtain ⟨a,l,c,rfl⟩:=okWide_slice ht hval
     exact one (by simp [aggOf,ht]) rfl
   · rename_i m e ht
     obtain ⟨cs,rfl⟩ : ∃ cs,v = .agg cs:=by
      simp only [Value.okWide,ht] at hval
      obtain ⟨cs,h1,_⟩:=hval
      exact ⟨cs,h1⟩
     exact ⟨.ag xs,⟨ss,hss,by simp only [aggOf,ht,if_true]; exact ⟨xs,rfl,f⟩⟩,by simp only [RV.rel]; exact ⟨cs,rfl,o,r⟩⟩
   · rename_i fs ht
     obtain ⟨cs,rfl,_⟩:=okWide_struct ht hval
     exact ⟨.ag xs,⟨ss,hss,by simp only [aggOf,ht,if_true]; exact ⟨xs,rfl,f⟩⟩,by simp only [RV.rel]; exact ⟨cs,rfl,o,r⟩⟩
   · cases hss'
theorem wf_i64 {n : Int} (h : (Lit.int .i64 n).wf = true) : -9223372036854775808 ≤ n ∧ n ≤ 9223372036854775807:=by
 simp only [Lit.wf,Bool.and_eq_true,decide_eq_true_eq] at h
 have h1 : IntKind.min .i64 = -9223372036854775808:=by decide
 have h2 : IntKind.max .i64 = 9223372036854775807:=by decide
 rw [h1,h2] at h
 exact h
theorem fitsE_ints : ∀ {es : List (List RV)},FitsE [.int .i64] es → ∃ l : List Int,es = l.map (fun x=>[.it .i64 x]) ∧ ∀ x ∈ l,-9223372036854775808 ≤ x ∧ x ≤ 9223372036854775807
 | [],_=>⟨[],rfl,by simp⟩
 | e :: es, h => by
   simp only [FitsE,FitsL,Fits] at h
   obtain ⟨⟨y,ys,rfl,⟨n,rfl,hn⟩,rfl⟩,h⟩:=h
   obtain ⟨l,rfl,hl⟩:=fitsE_ints h
   refine ⟨n :: l,rfl,fun x hx=>?_⟩
   rcases List.mem_cons.1 hx with rfl | hx
   · exact wf_i64 hn
   · exact hl x hx
theorem fitsT_ag {n : Nat} {t : TypeId} {x : RV} {ss : List Sh} (h : FitsT P n t x) (hs : shape P n t = some ss) (ha : aggOf P t = true) : ∃ xs,x = .ag xs ∧ FitsL ss xs:=by
 obtain ⟨s',h1,h2⟩:=h
 rw [hs] at h1; injection h1 with h1; subst h1
 rw [ha] at h2
 exact h2
theorem fitsT_one {n : Nat} {t : TypeId} {x : RV} {s : Sh} (h : FitsT P n t x) (hs : shape P n t = some [s]) (ha : aggOf P t = false) : Fits s x:=by
 obtain ⟨s',h1,h2⟩:=h
 rw [hs] at h1; injection h1 with h1; subst h1
 rw [ha] at h2
 simp only [Bool.false_eq_true,if_false,FitsL] at h2
 obtain ⟨y,ys,e,h3,_⟩:=h2
 injection e with e1 e2
 subst e1
 exact h3
theorem fitsT_int {n : Nat} {t : TypeId} {x : RV} (h : FitsT P n t x) (hs : shape P n t = some [.int .i64]) (ha : aggOf P t = false) : ∃ m,x = .it .i64 m ∧ -9223372036854775808 ≤ m ∧ m ≤ 9223372036854775807:=by
 have:=fitsT_one h hs ha
 simp only [Fits] at this
 obtain ⟨m,h1,h2⟩:=this
 exact ⟨m,h1,wf_i64 h2⟩
theorem fitsT_ints {n : Nat} {t : TypeId} {x : RV} (h : FitsT P n t x) (hs : shape P n t = some [.sl [.int .i64]]) (ha : aggOf P t = false) : ∃ l : List Int,x = .sl 1 (l.map (fun x=>[.it .i64 x])) ∧ ∀ x ∈ l,-9223372036854775808 ≤ x ∧ x ≤ 9223372036854775807:=by
 have:=fitsT_one h hs ha
 simp only [Fits] at this
 obtain ⟨es,h1,h2⟩:=this
 obtain ⟨l,rfl,hl⟩:=fitsE_ints h2
 exact ⟨l,h1,hl⟩
end
end Go.Oc

namespace Go.Oc
open Go Go.RowKit
theorem wf_u8 {n : Int} (h : (Lit.int .u8 n).wf = true) : 0 ≤ n ∧ n ≤ 255:=by
 simp only [Lit.wf,Bool.and_eq_true,decide_eq_true_eq] at h
 have h1 : IntKind.min .u8 = 0:=by decide
 have h2 : IntKind.max .u8 = 255:=by decide
 rw [h1,h2] at h
 exact h
theorem wf_u16 {n : Int} (h : (Lit.int .u16 n).wf = true) : 0 ≤ n ∧ n ≤ 65535:=by
 simp only [Lit.wf,Bool.and_eq_true,decide_eq_true_eq] at h
 have h1 : IntKind.min .u16 = 0:=by decide
 have h2 : IntKind.max .u16 = 65535:=by decide
 rw [h1,h2] at h
 exact h
theorem wf_u32 {n : Int} (h : (Lit.int .u32 n).wf = true) : 0 ≤ n ∧ n ≤ 4294967295:=by
 simp only [Lit.wf,Bool.and_eq_true,decide_eq_true_eq] at h
 have h1 : IntKind.min .u32 = 0:=by decide
 have h2 : IntKind.max .u32 = 4294967295:=by decide
 rw [h1,h2] at h
 exact h
theorem fitsE_u8 : ∀ {es : List (List RV)},FitsE [.int .u8] es → ∃ l : List Int,es = l.map (fun x=>[.it .u8 x]) ∧ ∀ x ∈ l,0 ≤ x ∧ x ≤ 255
 | [],_=>⟨[],rfl,by simp⟩
 | e :: es, h => by
   simp only [FitsE,FitsL,Fits] at h
   obtain ⟨⟨y,ys,rfl,⟨n,rfl,hn⟩,rfl⟩,h⟩:=h
   obtain ⟨l,rfl,hl⟩:=fitsE_u8 h
   refine ⟨n :: l,rfl,fun x hx=>?_⟩
   rcases List.mem_cons.1 hx with rfl | hx
   · exact wf_u8 hn
   · exact hl x hx
theorem fitsE_u16 : ∀ {es : List (List RV)},FitsE [.int .u16] es → ∃ l : List Int,es = l.map (fun x=>[.it .u16 x]) ∧ ∀ x ∈ l,0 ≤ x ∧ x ≤ 65535
 | [],_=>⟨[],rfl,by simp⟩
 | e :: es, h => by
   simp only [FitsE,FitsL,Fits] at h
   obtain ⟨⟨y,ys,rfl,⟨n,rfl,hn⟩,rfl⟩,h⟩:=h
   obtain ⟨l,rfl,hl⟩:=fitsE_u16 h
   refine ⟨n :: l,rfl,fun x hx=>?_⟩
   rcases List.mem_cons.1 hx with rfl | hx
   · exact wf_u16 hn
   · exact hl x hx
end Go.Oc

namespace Go.Proofs.Ytgkejinoaommeaa
open Go Go.Oc Go.ChangeShapes Go.RowKit
theorem fits60 {x : RV} (h : FitsT Try.prog 9 60 x) : ∃ l : List Int,x = u8s l ∧ ∀ y ∈ l,0 ≤ y ∧ y ≤ 255:=by
 have h1:=fitsT_one (s:=.sl [.int .u8]) h (by kernel_rfl) (by kernel_rfl)
 simp only [Oc.Fits] at h1
 obtain ⟨es,rfl,hx⟩:=h1
 obtain ⟨l,rfl,hl⟩:=fitsE_u8 hx
 exact ⟨l,rfl,hl⟩
theorem fitsE_u16 : ∀ {es : List (List RV)},FitsE [.int .u16] es → ∃ l : List Int,es = l.map (fun x=>[.it .u16 x]) ∧ ∀ x ∈ l,0 ≤ x ∧ x ≤ 65535
 | [],_=>⟨[],rfl,by simp⟩
 | e :: es, h => by
   simp only [FitsE,FitsL,Oc.Fits] at h
   obtain ⟨⟨y,ys,rfl,⟨n,rfl,hn⟩,rfl⟩,h⟩:=h
   obtain ⟨l,rfl,hl⟩:=fitsE_u16 h
   refine ⟨n :: l,rfl,fun x hx=>?_⟩
   rcases List.mem_cons.1 hx with rfl | hx
   · exact wf_u16 hn
   · exact hl x hx
theorem fits62 {x : RV} (h : FitsT Try.prog 9 62 x) : ∃ y,x = .ag (lwC y) ∧ WfLw y:=by
 obtain ⟨xs,rfl,hx⟩:=fitsT_ag (ss:=[.sl [.int .u16],.sl [.int .u8],.sl [.int .u8],.int .u8]) h (by kernel_rfl) (by kernel_rfl)
 simp only [Oc.FitsL,Oc.Fits] at hx
 obtain ⟨_,_,rfl,⟨es,rfl,hes⟩,_,_,rfl,⟨es1,rfl,hes1⟩,_,_,rfl,⟨es2,rfl,hes2⟩,_,_,rfl,⟨r,rfl,hr⟩,rfl⟩:=hx
 obtain ⟨l,rfl,hl⟩:=fitsE_u16 hes
 obtain ⟨l1,rfl,hl1⟩:=fitsE_u8 hes1
 obtain ⟨l2,rfl,hl2⟩:=fitsE_u8 hes2
 exact ⟨⟨l,l1,l2,r⟩,rfl,⟨hl,hl1,hl2,wf_u8 hr⟩⟩
theorem reach_sl {H : Type} {enc : TypeId × Value → H} {P : Program} {w : World} {R : Nat → Prop} {base : Nat} {spare : Nat → Bool} {held : Bool} {t e : TypeId} {n : Nat} {es : List (List RV)} {v : Value} {d : DataW H} {ps : List MemPlace}
 (ht : P.underlying t = some (.slice e)) (h : DataW.Trod enc P w base spare held t v d ps) (hr : RV.rel w R (.sl n es) v) (hw : (d.weights P t).all (fun x=>x ≤ reachBytes) = true) (hb : 1 ≤ P.bytesOf e) : es.length ≤ 140737488351232:=by
 simp only [RV.rel] at hr
 obtain ⟨A,c,rfl,h1,h2,h3⟩:=hr
 obtain ⟨fuel,hf⟩:=h
 have hc : (Value.slice A es.length c).cells.toList = [.slice A es.length c]:=rfl
 rw [hc] at hf
 rcases DataW.trod_slice ht hf with ⟨e1,_⟩ | ⟨a,len,cap,elems,rest,m,_,e1,e2,_,_,_,e3,_⟩
 · injection e1 with e1 _
   injection e1 with _ e1 _
   omega
 · injection e1 with e1 _
   injection e1 with _ e1 _
   injection e2 with e2 _
   subst e2
   simp only [DataW.weights,ht,List.all_cons,Bool.and_eq_true,decide_eq_true_eq,List.length_map] at hw
   have h4:=hw.1
   have h5 : elems.length + rest.length ≤ (elems.length + rest.length) * P.bytesOf e:=Nat.le_mul_of_pos_right _ hb
   have h6 : reachBytes = 140737488351232 - 0:=by unfold reachBytes; rfl
   omega
end Go.Proofs.Ytgkejinoaommeaa

namespace Go.Proofs.Ytgkejinoaommeaa
open Go Go.Oc
theorem law10' {x0 x1 x2 : RV} (h0 : FitsT Try.prog 9 62 x0) (h1 : FitsT Try.prog 9 60 x1) (h2 : FitsT Try.prog 9 5 x2) : ACalls Try.prog 10 [x0,x1,x2] (.bo true):=by
 obtain ⟨x,rfl,hx⟩:=fits62 h0
 obtain ⟨bs,rfl,hb⟩:=fits60 h1
 have g2:=fitsT_one (s:=.int .u8) h2 (by kernel_rfl) (by kernel_rfl)
 simp only [Oc.Fits] at g2
 obtain ⟨w,rfl,hw⟩:=g2
 exact truths_law x hx bs hb w (wf_u8 hw)
end Go.Proofs.Ytgkejinoaommeaa


namespace Go.Proofs.Ytgkejinoaommeaa
open Go Go.Oc Go.ChangeShapes Go.WideShapes Go.RowKit
set_option linter.unusedVariables false
theorem own : ownKnob Try.prog.godebug = none := by kernel_rfl
theorem laidOut : laidOutB Try.prog = true := by kernel_rfl
set_option maxRecDepth 100000 in
theorem lifted (os : Os) (started : os.Started) (H : Type) (enc : TypeId × Value → H) :
    ReturnsInHanded {} Try.checked os 10 .any (Rows.throwTruthsSpec.pre6 enc Try.prog Try.f10 Rows.throwTruthsRow.domain false) (Rows.throwTruthsSpec.post enc Try.prog Try.f10 false true false false) := by
  refine returnsInHanded_of_change (C := Try.checked) own started (by kernel_rfl) Try.func10
    (ChangeSpec.witness6 (enc := enc) (C := Try.checked) false ⟨#[], #[.agg #[.slice none 0 0, .slice none 0 0, .slice none 0 0, .int .u8 0], .slice none 0 0, .int .u8 0], []⟩ 8 (by kernel_rfl) (by kernel_rfl) (by kernel_rfl) (by kernel_rfl)) ?_
  intro W base args ds gs before hval0 hW hcnd _
  have hval : ∀ (j : Nat) t v, Try.f10.params[j]? = some t → args[j]? = some v → Value.okWide Try.prog W .any base t v := hval0
  have hW' := hW
  obtain ⟨p, q, hA0, hV, rfl, hfz, hnd⟩ := hW
  have hA : DataW.TrodAll enc Try.prog W 0 (fun _ => true) true Try.f10.params.toList args.toList ds p := hA0
  rw [Try.params10] at hA hval
  obtain ⟨v0, vs0, d0, ds0, p0, q0, hargs, rfl, rfl, h0, r0⟩ := trodAll_cons hA
  obtain ⟨v1, vs1, d1, ds1, p1, q1, rfl, rfl, rfl, h1, r1⟩ := trodAll_cons r0
  obtain ⟨v2, vs2, d2, ds2, p2, q2, rfl, rfl, rfl, h2, r2⟩ := trodAll_cons r1
  obtain ⟨rfl, rfl, rfl⟩ := trodAll_nil r2
  obtain rfl : args = #[v0, v1, v2] := by cases args; simp_all
  obtain ⟨rfl, rfl⟩ := trodVars_none hV
  have lt0 : ∀ x ∈ p0, x.block < W.heap.size := by obtain ⟨m, hm⟩ := h0; exact DataW.trod_lt m _ _ _ hm
  have lt1 : ∀ x ∈ p1, x.block < W.heap.size := by obtain ⟨m, hm⟩ := h1; exact DataW.trod_lt m _ _ _ hm
  have lt2 : ∀ x ∈ p2, x.block < W.heap.size := by obtain ⟨m, hm⟩ := h2; exact DataW.trod_lt m _ _ _ hm
  obtain ⟨x0, g0, e0⟩ := arg_fits (n := 9) (by kernel_rfl) (hval 0 62 v0 rfl rfl) h0
  obtain ⟨x1, g1, e1⟩ := arg_fits (n := 9) (by kernel_rfl) (hval 1 60 v1 rfl rfl) h1
  obtain ⟨x2, g2, e2⟩ := arg_fits (n := 9) (by kernel_rfl) (hval 2 5 v2 rfl rfl) h2
  clear hA0 hval0
  refine ((law10' g0 g1 g2).2 W (old W) #[v0, v1, v2] (fun _ h => h) (by simp only [RV.relV]; exact ⟨_, _, rfl, e0, _, _, rfl, e1, _, _, rfl, e2, rfl⟩)).mono fun e W' he => ?_
  obtain ⟨v, R', rfl, bel, _, _, _, hr⟩ := he
  simp only [RV.rel] at hr
  subst hr
  exact ⟨_, rfl, _, _, _, [], _, [], hW', trodAll_mk1 (shut_bool Try.underlying4 _), (trodAll_cons_mk (Below.trod laidOut (by kernel_rfl) (of_decide_eq_true (by kernel_rfl)) h0 bel lt0) (trodAll_cons_mk (Below.trod laidOut (by kernel_rfl) (of_decide_eq_true (by kernel_rfl)) h1 bel lt1) (trodAll_cons_mk (Below.trod laidOut (by kernel_rfl) (of_decide_eq_true (by kernel_rfl)) h2 bel lt2) trodAll_mk0))), rfl, bel.frame _, fun h => by cases h⟩
theorem over : Rows.throwTruthsRow.holds Try.pinned (OpenSpec.ofChange Rows.throwTruthsSpec) :=
  OpenClaim.holds_of_wide 10 Try.f10 rfl rfl rfl rfl rfl rfl rfl ⟨rfl, rfl, rfl, rfl, rfl⟩ rfl rfl rfl rfl rfl (by kernel_rfl) Try.func10 (by kernel_rfl)
    (of_decide_eq_true (by kernel_rfl)) (by unfold Func.isWrapper; first | (rw [if_pos (by decide +kernel)]; kernel_rfl) | (rw [if_neg (by decide +kernel)]; exact ⟨rfl, rfl⟩))
    (fun os started H enc _ => lifted os started H enc)
theorem throwTruths_holds : Rows.ThrowTruthsSaid := over
#print axioms throwTruths_holds
end Go.Proofs.Ytgkejinoaommeaa
