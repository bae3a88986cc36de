/- Part 10 of the texts of this claim. -/
import Derived.Test.YtlljkgiomkmjbaaVA9
import Derived.Test.YtlljkgiomkmjbaaVA4
import Derived.Test.YtlljkgiomkmjbaaVA5
import Derived.Test.YtlljkgiomkmjbaaVA8
namespace Go.Oc
open Go Go.RowKit
instance {c : Prop} [h : Decidable c] {v : AV} : Decidable (Res.when c v).pre:=h
instance {v : AV} : Decidable (Res.val v).pre:=.isTrue trivial
instance : Decidable Res.bad.pre:=.isFalse id
instance {c a : Prop} [h : Decidable c] {y : Yi} : Decidable (Res.mk c a y).pre:=h
def nilB {α : Type} (l : List α) : Decidable (l = []):=match l with
 | []=>.isTrue rfl
 | _ :: _=>.isFalse (by simp)
instance {α : Type} {l : List α} : Decidable (l = []):=nilB l
def RowC.isDead : RowC → Bool
 | .dead=>true
 | _=>false
theorem isDead_iff {c : RowC} : c = .dead ↔ c.isDead = true:=by cases c <;> simp [RowC.isDead]
instance {c : RowC} : Decidable (c = .dead):=decidable_of_iff _ isDead_iff.symm
def decNews {s : AS} {y : AV} {c : Prop} {sz : Nat} {es : List (List RV)} (h : news? s y = some (c,sz,es)) : Decidable c:=by
 unfold news? at h
 split at h
 · exact .isTrue (by injection h with h; injection h with h1 _; rw [← h1]; trivial)
 · exact .isTrue (by injection h with h; injection h with h1 _; rw [← h1]; trivial)
 · split at h
   · rename_i k n sz off m _ n' t sz' es' _
     exact decidable_of_iff (n = n' ∧ sz = sz' ∧ off + m ≤ es'.length) (by injection h with h; injection h with h1 _; rw [← h1])
   · cases h
 · cases h
def decLen {s : AS} {y : AV} {c : Prop} {m : Nat} (h : lenA s y = some (c,m)) : Decidable c:=by
 unfold lenA at h
 split at h
 · exact .isTrue (by injection h with h; injection h with h1 _; rw [← h1]; trivial)
 · exact .isTrue (by injection h with h; injection h with h1 _; rw [← h1]; trivial)
 · rename_i k n sz off m
   exact decidable_of_iff (n = s.ver k) (by injection h with h; injection h with h1 _; rw [← h1])
 · cases h
section
variable {P : Program} {s : AS}
instance {c a b : AV} : Decidable (sPick c a b).pre:=by delta sPick; split <;> infer_instance
instance {op : BinOp} {t : TypeId} {x y : AV} : Decidable (sEq P op t x y).pre:=by delta sEq; split <;> (try split) <;> (try split) <;> infer_instance
instance {op : BinOp} {t : TypeId} {x y : AV} : Decidable (sBin P op t x y).pre:=by delta sBin; split <;> (try split) <;> infer_instance
instance {op : UnOp} {x : AV} : Decidable (sUn op x).pre:=by delta sUn; split <;> infer_instance
instance {a b : TypeId} {x : AV} : Decidable (sConv P a b x).pre:=by delta sConv; split <;> infer_instance
instance {t : TypeId} {a : AV} : Decidable (sLoad P s t a).pre:=by delta sLoad; split <;> (try split) <;> infer_instance
instance {t : TypeId} {a x : AV} : Decidable (sStore P s t a x).pre:=by delta sStore; split <;> (try split) <;> infer_instance
instance {d : Nat} {x : AV} : Decidable (sBox s d x).pre:=by delta sBox; split <;> infer_instance
instance {d : Nat} {t : TypeId} : Decidable (sAlloc P s d t).pre:=by delta sAlloc; split <;> infer_instance
instance {t : TypeId} {a : AV} {f : Nat} : Decidable (sField P s t a f).pre:=by delta sField; split <;> (try split) <;> (try split) <;> infer_instance
instance {cs : AV} {o sz : Nat} {agg : Bool} {c : Prop} [Decidable c] : Decidable (sPart cs o sz agg c).pre:=by delta sPart; split <;> infer_instance
instance {t : TypeId} {x : AV} {f : Nat} : Decidable (sFieldV P t x f).pre:=by delta sFieldV; split <;> (try split) <;> infer_instance
instance {t : TypeId} {x i : AV} : Decidable (sIndexV P t x i).pre:=by delta sIndexV; split <;> infer_instance
instance {t : TypeId} {x i : AV} : Decidable (sIndex P s t x i).pre:=by delta sIndex; split <;> (try split) <;> infer_instance
instance {x mx : AV} {lo hi : Option AV} : Decidable (sSlice3 s x lo hi mx).pre:=by
 delta sSlice3
 split
 · have:=decLen ‹lenA _ _ = some (_,_)›
   infer_instance
 · infer_instance
instance {n esz : Nat} {x : AV} {lo hi mx : Option AV} : Decidable (sSliceA n esz x lo hi mx).pre:=by delta sSliceA; split <;> infer_instance
instance {t : TypeId} {x : AV} {lo hi mx : Option AV} : Decidable (sSlice P s t x lo hi mx).pre:=by delta sSlice; split <;> (try split) <;> (try split) <;> infer_instance
instance {t : TypeId} {ps : List (Nat × AV)} : Decidable (sBuild P s t ps).pre:=by delta sBuild; split <;> (try split) <;> infer_instance
instance {t : TypeId} {n : Nat} {ps : List (Nat × AV)} : Decidable (sBuildSlice P s t n ps).pre:=by delta sBuildSlice; split <;> (try split) <;> (try split) <;> infer_instance
instance {d : Nat} {t : TypeId} {l c : AV} : Decidable (sMakeSlice P s d t l c).pre:=by delta sMakeSlice; split <;> infer_instance
instance {d : Nat} {t t' : TypeId} {x y : AV} : Decidable (sAppend P s d t t' x y).pre:=by
 delta sAppend
 split
 · rename_i h
   have:=decNews h
   infer_instance
 · rename_i h
   have:=decNews h
   infer_instance
 · rename_i h
   have:=decNews h
   split
   · infer_instance
   · split <;> infer_instance
   · infer_instance
 · infer_instance
instance {d : Nat} {t t' : TypeId} {x y : AV} : Decidable (sAppendZ P s d t t' x y).pre:=by delta sAppendZ; split <;> infer_instance
instance {t : TypeId} {x : AV} : Decidable (sCap P t x).pre:=by delta sCap; split <;> infer_instance
instance {t : TypeId} {x : AV} : Decidable (sClear P s t x).pre:=by delta sClear; split <;> (try split) <;> infer_instance
instance {t : TypeId} {x : AV} : Decidable (sLen P s t x).pre:=by delta sLen; split <;> (try split) <;> infer_instance
instance {r : Option RV} : Decidable (sMinMax r).pre:=by delta sMinMax; split <;> infer_instance
instance {x : AV} {i : Nat} : Decidable (sExtract x i).pre:=by delta sExtract; split <;> (try split) <;> infer_instance
instance {x : AV} : Decidable (sNil s x).pre:=by delta sNil; split <;> infer_instance
instance {d : Nat} {t : TypeId} : Decidable (sMakeMap P s d t).pre:=by delta sMakeMap; split <;> infer_instance
instance {t : TypeId} {x key : AV} {ok : Bool} : Decidable (sLookup P s t x key ok).pre:=by delta sLookup; split <;> (try split) <;> (try split) <;> infer_instance
instance {t : TypeId} {x key : AV} : Decidable (sMapEntry P s t x key).pre:=by delta sMapEntry; split <;> (try split) <;> (try split) <;> infer_instance
instance {x st v : AV} : Decidable (sEntryStore s x st v).pre:=by delta sEntryStore; split <;> (try split) <;> (try split) <;> infer_instance
instance {t : TypeId} {x key v : AV} : Decidable (sMapUpdate P s t x key v).pre:=by delta sMapUpdate; split <;> (try split) <;> (try split) <;> infer_instance
instance {d : Nat} {t : TypeId} {x : AV} : Decidable (sRange P s d t x).pre:=by delta sRange; split <;> (try split) <;> infer_instance
instance {x : AV} : Decidable (sEntry s x).pre:=by delta sEntry; split <;> (try split) <;> infer_instance
instance {d : Nat} {b : Builtin} {ts : List TypeId} {xs : List AV} : Decidable (sBuiltin P s d b ts xs).pre:=by delta sBuiltin; split <;> (try split) <;> infer_instance
instance decStep {o : Oper} : Decidable (step P o s).pre:=by delta step; split <;> (try split) <;> infer_instance
end
def nth : List AV → Nat → AV
 | [],_=>.r .un
 | x :: _,0=>x
 | _ :: l,t + 1=>nth l t
def setAt : List AV → Nat → AV → List AV
 | [],0,v=>[v]
 | [],d + 1,v=>.r .un :: setAt [] d v
 | _ :: l,0,v=>v :: l
 | x :: l,d + 1,v=>x :: setAt l d v
theorem nth_setAt : ∀ (l : List AV) (d : Nat) (v : AV) (t : Nat),nth (setAt l d v) t = if t = d then v else nth l t
 | [],0,v,0=>by simp [setAt,nth]
 | [],0,v,t + 1=>by simp [setAt,nth]
 | [],d + 1,v,0=>by simp [setAt,nth]
 | [],d + 1,v,t + 1=>by simp only [setAt,nth,nth_setAt [] d v t,Nat.add_right_cancel_iff]
 | x :: l,0,v,0=>by simp [setAt,nth]
 | x :: l,0,v,t + 1=>by simp [setAt,nth]
 | x :: l,d + 1,v,0=>by simp [setAt,nth]
 | x :: l,d + 1,v,t + 1=>by simp only [setAt,nth,nth_setAt l d v t,Nat.add_right_cancel_iff]
def rowAt : List (Nat × Row) → Nat → Row
 | [],_=>⟨0,.dead⟩
 | (j,r) :: l,k=>if k = j then r else rowAt l k
def setRow : List (Nat × Row) → Nat → Row → List (Nat × Row)
 | [],k,r=>[(k,r)]
 | (j,q) :: l,k,r=>if k = j then (j,r) :: l else (j,q) :: setRow l k r
theorem rowAt_setRow : ∀ (l : List (Nat × Row)) (k : Nat) (r : Row) (j : Nat),rowAt (setRow l k r) j = if j = k then r else rowAt l j
 | [],k,r,j=>rfl
 | (i, q) :: l, k, r, j => by
   unfold setRow
   split
   · rename_i e; subst e
     simp only [rowAt]
     split <;> rfl
   · rename_i e
     simp only [rowAt,rowAt_setRow l k r j]
     by_cases e1 : j = i
     · have : ¬ j = k:=by omega
       simp [e1]; omega
     · simp [e1]
structure CS where
 n : Nat
 tm : List AV
 rows : List (Nat × Row)
def CS.as (s : CS) : AS:=⟨s.n,nth s.tm,rowAt s.rows⟩
def CS.put (s : CS) (d : Option Nat) (v : AV) : CS:=match d with | some d=>⟨s.n,setAt s.tm d v,s.rows⟩ | none=>s
def CS.row (s : CS) (k : Nat) (r : Row) : CS:=⟨s.n,s.tm,setRow s.rows k r⟩
def CS.effs (s : CS) : List (Nat × Row) → CS
 | []=>s
 | (k,r) :: l=>(s.row k r).effs l
def CS.app (s : CS) (d : Option Nat) (y : Yi) : CS:=(s.effs y.eff).put d y.av
theorem as_put (s : CS) (d : Option Nat) (v : AV) : (s.put d v).as = s.as.put d v:=by
 cases d with
 | none=>rfl
 | some d =>
   simp only [CS.put,CS.as,AS.put,AS.mk.injEq,true_and,and_true]
   funext t
   rw [nth_setAt]; rfl
theorem as_row (s : CS) (k : Nat) (r : Row) : (s.row k r).as = s.as.row k r:=by
 simp only [CS.row,CS.as,AS.row,AS.mk.injEq,true_and]
 funext j
 rw [rowAt_setRow]; rfl
theorem as_effs : ∀ (l : List (Nat × Row)) (s : CS),(s.effs l).as = { s.as with rows:=l.foldl (fun f p=>upd f p.1 p.2) s.as.rows }
 | [],s=>rfl
 | (k, r) :: l, s => by
   simp only [CS.effs,as_effs l,as_row,List.foldl_cons]
   rfl
theorem as_app (s : CS) (d : Option Nat) (y : Yi) : (s.app d y).as = s.as.app d y:=by
 unfold CS.app AS.app
 rw [as_put,as_effs]
 rfl
theorem put_num (s : CS) (d : Option Nat) (v : AV) : (s.put d v).n = s.n:=by cases d <;> rfl
theorem effs_num : ∀ (l : List (Nat × Row)) (s : CS),(s.effs l).n = s.n
 | [],s=>rfl
 | (k,r) :: l,s=>by simp only [CS.effs,effs_num l]; rfl
theorem app_num (s : CS) (d : Option Nat) (y : Yi) : (s.app d y).n = s.n:=by simp only [CS.app,put_num,effs_num]
def bindL {α β : Type} (x : Option (List α)) (f : α → Option (List β)) : Option (List β) :=
 match x with
 | none=>none
 | some l=>go l
 where go : List α → Option (List β)
 | []=>some []
 | a :: l => match f a with
   | none=>none
   | some ys => match go l with
     | none=>none
     | some zs=>some (ys ++ zs)
theorem bindL_go {α β : Type} {f : α → Option (List β)} : ∀ {l : List α} {zs : List β},bindL.go f l = some zs → ∀ a ∈ l,∃ ys,f a = some ys ∧ ∀ y ∈ ys,y ∈ zs
 | [],_,_,a,ha=>by simp at ha
 | b :: l, zs, h, a, ha => by
   unfold bindL.go at h
   split at h
   · cases h
   · rename_i ys hys
     split at h
     · cases h
     · rename_i ws hws
       injection h with h; subst h
       rcases List.mem_cons.1 ha with rfl | ha
       · exact ⟨ys,hys,fun y hy=>by simp [hy]⟩
       · obtain ⟨y2,h1,h2⟩:=bindL_go hws a ha
         exact ⟨y2,h1,fun y hy=>by simp [h2 y hy]⟩
theorem bindL_spec {α β : Type} {x : Option (List α)} {f : α → Option (List β)} {zs : List β} (h : bindL x f = some zs) : ∃ l,x = some l ∧ ∀ a ∈ l,∃ ys,f a = some ys ∧ ∀ y ∈ ys,y ∈ zs:=by
 unfold bindL at h
 split at h
 · cases h
 · exact ⟨_,rfl,bindL_go h⟩
abbrev Caller:=Bool → CS → Option Nat → AV → List AV → Option CS
def Caller.ok (P : Program) (call : Caller) : Prop :=
 ∀ D s d f xs t,call D s d f xs = some t → t.n = s.n ∧ ∀ K : AS → Prop,K t.as → acall P s.as f xs (fun r=>K (s.as.put d (.r r))) ∨ (D = false ∧ (mcall P s.as d f xs K ∨ ocall P s.as d f xs K))
def each {α : Type} (f : Nat → α → CS) : List α → Nat → List CS
 | [],_=>[]
 | e :: l,i=>f i e :: each f l (i + 1)
theorem each_mem {α : Type} {f : Nat → α → CS} : ∀ {l : List α} {i j : Nat} {e : α},l[j]? = some e → f (i + j) e ∈ each f l i
 | [],_,_,_,h=>by simp at h
 | x :: l,i,0,e,h=>by simp at h; subst h; simp [each]
 | x :: l, i, j + 1, e, h => by
   simp at h
   have:=each_mem (f:=f) (i:=i + 1) h
   rw [show i + 1 + j = i + (j + 1) from by omega] at this
   simp [each,this]
theorem each_num {α : Type} {f : Nat → α → CS} {n : Nat} (h : ∀ i e,(f i e).n = n) : ∀ {l : List α} {i : Nat},∀ t ∈ each f l i,t.n = n
 | [],_,t,ht=>by simp [each] at ht
 | x :: l, i, t, ht => by
   simp only [each,List.mem_cons] at ht
   rcases ht with rfl | ht
   · exact h _ _
   · exact each_num h t ht
def nextC (s : CS) (d : Option Nat) (x : AV) : Option (List CS) :=
 match x with
 | .mi k n =>
   match rowAt s.rows k with
   | ⟨n', .mi km nm left _⟩ =>
     if n = n' ∧ nm = (rowAt s.rows km).ver ∧ k ≠ km then
      match left with
      | []=>some [s.put d (.r (.tu [.bo false]))]
      | e :: l=>some (each (fun i e'=>CS.put (s.row k ⟨n',.mi km nm ((e :: l).eraseIdx i) (some e')⟩) d (.r (.tu [.bo true,e'.1,e'.2]))) (e :: l) 0)
     else none
   | _=>none
 | _=>none
theorem nextC_ok {s : CS} {d : Option Nat} {x : AV} {L : List CS} (h : nextC s d x = some L) {K : AS → Prop} (hK : ∀ t ∈ L,K t.as) : sNext s.as d x K ∧ ∀ t ∈ L,t.n = s.n:=by
 unfold nextC at h
 split at h
 · rename_i k n
   split at h
   · rename_i n' km nm left cur hr
     split at h
     · rename_i hc
       have hr' : s.as.rows k = ⟨n',.mi km nm left cur⟩:=hr
       unfold sNext
       simp only [hr']
       split at h
       · injection h with h; subst h
         refine ⟨⟨hc.1,hc.2.1,hc.2.2,fun _=>?_,fun i e he=>by simp at he⟩,fun t ht=>?_⟩
         · rw [← as_put]; exact hK _ (by simp)
         · simp only [List.mem_singleton] at ht; rw [ht,put_num]
       · rename_i e l
         injection h with h; subst h
         refine ⟨⟨hc.1,hc.2.1,hc.2.2,fun h=>by simp at h,fun i e' he=>?_⟩,fun t ht=>?_⟩
         · rw [← as_row,← as_put]
           have:=each_mem (f:=fun i e'=>CS.put (s.row k ⟨n',.mi km nm ((e :: l).eraseIdx i) (some e')⟩) d (.r (.tu [.bo true,e'.1,e'.2]))) (i:=0) he
           rw [Nat.zero_add] at this
           exact hK _ this
         · exact each_num (fun i e=>by rw [put_num]; rfl) t ht
     · cases h
   · cases h
 · cases h
def opC (P : Program) (call : Caller) (D : Bool) (o : Oper) (s : CS) : Option (List CS) :=
 match o.op with
 | .call ⟨.value f, args, _⟩ =>
   match call D s o.dst (s.as.ev f) (args.toList.map s.as.ev) with
   | some t=>some [t]
   | none=>none
 | .next x false=>if D then none else nextC s o.dst (s.as.ev x)
 | _ =>
   if (step P o s.as).pre then
    if D && cls o == 2 && !((rowAt s.rows (o.dst.getD 0)).c.isDead && o.dst.isSome) then none
    else some [s.app o.dst (step P o s.as).y]
   else none
theorem opC_ok {P : Program} {call : Caller} (hcall : call.ok P) {D : Bool} {o : Oper} {s : CS} {L : List CS} (h : opC P call D o s = some L) {K : AS → Prop} (hK : ∀ t ∈ L,K t.as) : xop P D o K s.as ∧ ∀ t ∈ L,t.n = s.n:=by
 unfold opC at h
 split at h
 · rename_i f args ts ho
   split at h
   · rename_i t ht
     injection h with h; subst h
     obtain ⟨hn,hc⟩:=hcall _ _ _ _ _ _ ht
     have hc:=hc K (hK t (by simp))
     refine ⟨?_,fun t' ht'=>by simp only [List.mem_singleton] at ht'; rw [ht']; exact hn⟩
     unfold xop
     split
     · rename_i hD
       unfold aop
       rw [ho]
       rcases hc with hc | ⟨hc,_⟩
       · exact .inl hc
       · rw [hD] at hc; cases hc
     · rw [ho]
       rcases hc with hc | ⟨_,hc⟩
       · exact .inl hc
       · exact .inr (hc.imp id .inl)
   · cases h
 · rename_i x ho
   split at h
   · cases h
   · rename_i hD
     have:=nextC_ok h hK
     refine ⟨?_,this.2⟩
     unfold xop
     rw [if_neg hD,ho]
     exact this.1
 · rename_i h1 h2
   split at h
   · rename_i hp
     split at h
     · cases h
     · rename_i hdead
       injection h with h; subst h
       refine ⟨?_,fun t ht=>by simp only [List.mem_singleton] at ht; rw [ht,app_num]⟩
       have key : ∀ D',(D' = true → D = true) → aop P D' o K s.as:=fun D' hD'=>by
        unfold aop
        split
        · rename_i f args ts ho; exact (h1 f args ts ho).elim
        · rename_i x ho; exact (h2 x ho).elim
        · refine ⟨hp,fun hD hc=>?_,fun _=>?_⟩
          · have hD:=hD' hD
            cases e : ((rowAt s.rows (o.dst.getD 0)).c.isDead && o.dst.isSome) with
            | false=>exact (hdead (by simp only [hD,hc,e]; rfl)).elim
            | true =>
              simp only [Bool.and_eq_true] at e
              exact ⟨isDead_iff.2 e.1,e.2⟩
          · rw [← as_app]; exact hK _ (by simp)
       unfold xop
       split
       · rename_i hD; exact key true fun _=>hD
       · split
         · rename_i f args ts ho; exact (h1 f args ts ho).elim
         · rename_i x ho; exact (h2 x ho).elim
         · exact key false fun h=>by cases h
   · cases h
def runOps (P : Program) (call : Caller) (D : Bool) (ops : Array Oper) : List Oper → CS → Option (List CS)
 | [],s=>some [s]
 | o :: rest, s =>
   match o.guard with
   | none=>bindL (opC P call D o s) (runOps P call D ops rest)
   | some (g, want) =>
     match ((ops[g]?).bind (·.dst) : Option Nat) with
     | none=>runOps P call D ops rest (s.put o.dst (.r .ud))
     | some t =>
       match nth s.tm t with
       | .r (.bo b)=>if b == want then bindL (opC P call D o s) (runOps P call D ops rest) else runOps P call D ops rest (s.put o.dst (.r .ud))
       | .r .ud=>runOps P call D ops rest (s.put o.dst (.r .ud))
       | _=>none
theorem runOps_ok {P : Program} {call : Caller} (hcall : call.ok P) {D : Bool} {ops : Array Oper} {K : AS → Prop} : ∀ (l : List Oper) {s : CS} {L : List CS},runOps P call D ops l s = some L → (∀ t ∈ L,t.n = s.n → K t.as) → aops P D ops l K s.as
 | [], s, L, h, hK => by
   unfold runOps at h
   injection h with h; subst h
   exact hK s (by simp) rfl
 | o :: l, s, L, h, hK => by
   have go : ∀ {s1 : CS},s1.n = s.n → bindL (opC P call D o s1) (runOps P call D ops l) = some L → xop P D o (aops P D ops l K) s1.as:=fun hn h=>by
    obtain ⟨l1,h1,h2⟩:=bindL_spec h
    have hnum:=(opC_ok hcall h1 (K:=fun _=>True) fun _ _=>trivial).2
    refine (opC_ok hcall h1 fun t ht=>?_).1
    obtain ⟨ys,hys,hsub⟩:=h2 t ht
    exact runOps_ok hcall l hys fun t' ht' hn'=>hK t' (hsub t' ht') (by rw [hn',hnum t ht,hn])
   have sk : runOps P call D ops l (s.put o.dst (.r .ud)) = some L → aops P D ops l K (s.as.put o.dst (.r .ud)):=fun h=>by
    rw [← as_put]
    exact runOps_ok hcall l h fun t ht hn=>hK t ht (by rw [hn,put_num])
   unfold runOps at h
   unfold aops
   split at h
   · rename_i hg
     rw [hg]
     exact go rfl h
   · rename_i g want hg
     rw [hg]
     dsimp only
     split at h
     · rename_i ht; rw [ht]; exact sk h
     · rename_i t ht
       rw [ht]
       dsimp only
       split at h
       · rename_i b hb
         have hb' : s.as.tm t = .r (.bo b):=hb
         rw [hb']
         dsimp only
         split at h
         · rename_i e
           have e : b = want:=by simpa using e
           subst e
           refine ⟨fun _=>?_,fun e=>(by cases b <;> cases e)⟩
           rw [put_self hb']
           exact go rfl h
         · rename_i e
           have e : b = !want:=by cases b <;> cases want <;> simp_all
           subst e
           refine ⟨fun e=>(by cases want <;> cases e),fun _=>?_⟩
           rw [put_self hb']
           exact sk h
       · rename_i hb
         have hb' : s.as.tm t = .r .ud:=hb
         rw [hb']
         exact sk h
       · cases h
def codeOk (n : Nat) : Code → Bool
 | .region _ ops _=>dstOk ops n
 | .seq a b=>codeOk n a && codeOk n b
 | .cond _ a b=>codeOk n a && codeOk n b
 | .block _ c=>codeOk n c
 | .loop c=>codeOk n c
 | _=>true
structure Modes where
 fs : List (FuncId × Nat)
def modeOf : List (FuncId × Nat) → FuncId → Option Nat
 | [],_=>none
 | (g,m) :: l,f=>if f = g then some m else modeOf l f
def fnOk (P : Program) (f : FuncId) : Bool :=
 match P.funcs[f]? with
 | some fn => match fn.body with
   | some c=>codeOk fn.ntmps c && callable P f
   | none=>false
 | none=>false
def allOk (P : Program) : List (FuncId × Nat) → Bool
 | []=>true
 | (f,_) :: l=>fnOk P f && allOk P l
theorem allOk_get {P : Program} : ∀ {l : List (FuncId × Nat)} {f : FuncId} {m : Nat},allOk P l = true → modeOf l f = some m → fnOk P f = true
 | [],_,_,_,h=>by simp [modeOf] at h
 | (g, k) :: l, f, m, ha, h => by
   simp only [allOk,Bool.and_eq_true] at ha
   unfold modeOf at h
   split at h
   · rename_i e; subst e; exact ha.1
   · exact allOk_get ha.2 h
mutual
def snapB (rows : Nat → Row) : AV → Bool
 | .r _=>true
 | .os k n sz off m=>n == (rows k).ver && match (rows k).c with | .arr _ sz' es=>sz == sz' && decide (off + m ≤ es.length) | _=>false
 | .pt k n off=>n == (rows k).ver && match (rows k).c with | .box cs=>snap1B rows (cs.drop off) | _=>false
 | .pe k n sz idx _=>n == (rows k).ver && match (rows k).c with | .arr _ sz' es=>sz == sz' && decide (idx < es.length) | _=>false
 | .fn _ cs=>snapBL rows cs
 | .ag cs=>snapBL rows cs
 | .tu cs=>snapBL rows cs
 | .mp _ _=>false
 | .mi _ _=>false
 | .pu _ _ _=>false
def snapBL (rows : Nat → Row) : List AV → Bool
 | []=>true
 | x :: xs=>snapB rows x && snapBL rows xs
def snap1B (rows : Nat → Row) : List AV → Bool
 | []=>true
 | .os k n sz off m :: xs=>(n == (rows k).ver && match (rows k).c with | .arr _ sz' es=>sz == sz' && decide (off + m ≤ es.length) | _=>false) && snap1B rows xs
 | _ :: xs=>snap1B rows xs
end
end Go.Oc

namespace Go.Oc
open Go Go.RowKit
section
variable {rows : Nat → Row}
theorem osB {k n sz off m : Nat} (h : (n == (rows k).ver && match (rows k).c with | .arr _ sz' es=>sz == sz' && decide (off + m ≤ es.length) | _=>false) = true) :
 n = (rows k).ver ∧ match (rows k).c with | .arr _ sz' es=>sz = sz' ∧ off + m ≤ es.length | .arc _ sz' es _=>sz = sz' ∧ off + m ≤ es.length | _=>False:=by
 simp only [Bool.and_eq_true,beq_iff_eq] at h
 refine ⟨h.1,?_⟩
 have h:=h.2
 split at h
 · rename_i e; simp only [e]; simpa using h
 · cases h
theorem snap1B_ok : ∀ (xs : List AV),snap1B rows xs = true → snap1PL rows xs
 | [],_=>trivial
 | x :: xs, h => by
   cases x with
   | os k n sz off m =>
     simp only [snap1B,Bool.and_eq_true (_ && _)] at h
     exact ⟨osB h.1,snap1B_ok xs h.2⟩
   | _=>simp only [snap1B] at h; exact ⟨trivial,snap1B_ok xs h⟩
mutual
theorem snapB_ok : ∀ (x : AV),snapB rows x = true → snapP rows x
 | .r _,_=>by simp only [snapP]
 | .os k n sz off m,h=>by simp only [snapB] at h; simp only [snapP]; exact ⟨(osB h).1,osP (osB h).2⟩
 | .pt k n off, h => by
   simp only [snapB,Bool.and_eq_true,beq_iff_eq] at h
   simp only [snapP]
   refine ⟨h.1,?_⟩
   have h:=h.2
   generalize (rows k).c = c at h ⊢
   cases c <;> first | exact snap1B_ok _ h | cases h
 | .pe k n sz idx _, h => by
   simp only [snapB,Bool.and_eq_true,beq_iff_eq] at h
   simp only [snapP]
   refine ⟨h.1,?_⟩
   have h:=h.2
   generalize (rows k).c = c at h ⊢
   cases c <;> first | (simp only [Bool.and_eq_true,beq_iff_eq,decide_eq_true_eq] at h; exact h) | cases h
 | .fn _ cs,h=>by simp only [snapB] at h; simp only [snapP]; exact snapBL_ok cs h
 | .ag cs,h=>by simp only [snapB] at h; simp only [snapP]; exact snapBL_ok cs h
 | .tu cs,h=>by simp only [snapB] at h; simp only [snapP]; exact snapBL_ok cs h
 | .mp _ _,h=>by simp [snapB] at h
 | .mi _ _,h=>by simp [snapB] at h
 | .pu _ _ _,h=>by simp [snapB] at h
theorem snapBL_ok : ∀ (xs : List AV),snapBL rows xs = true → snapPL rows xs
 | [],_=>trivial
 | x :: xs, h => by
   simp only [snapBL,Bool.and_eq_true] at h
   exact ⟨snapB_ok x h.1,snapBL_ok xs h.2⟩
end
end
instance {P : Program} {s : AS} {v : ResultVar} : Decidable (resA P s v).pre:=match v with
 | .tmp _=>.isTrue trivial
 | .cell a t=>inferInstanceAs (Decidable (sLoad P s t (s.tm a)).pre)
def resList (P : Program) (s : AS) : List ResultVar → Option (List RV)
 | []=>some []
 | v :: vs =>
   if (resA P s v).pre then
    if snapB s.rows (resA P s v).y.av then
     match resList P s vs with
     | some rs=>some (snapV s.rows (resA P s v).y.av :: rs)
     | none=>none
    else none
   else none
theorem resList_ok {P : Program} {s : AS} : ∀ {vs : List ResultVar} {rs : List RV},resList P s vs = some rs → resOk P s vs rs
 | [],rs,h=>by injection h with h; exact h.symm
 | v :: vs, rs, h => by
   unfold resList at h
   split at h
   · rename_i hp
     split at h
     · rename_i hs
       split at h
       · rename_i rs' hr
         injection h with h; subst h
         exact ⟨hp,snapB_ok _ hs,_,rs',rfl,leL_refl.le_refl _,resList_ok hr⟩
       · cases h
     · cases h
   · cases h
abbrev Outs:=List (Exit × CS)
def endRs (P : Program) (res : List ResultVar) (x : Exit × CS) : Option (List RV) :=
 match x.1 with
 | .normal=>resList P x.2.as res
 | .ret=>resList P x.2.as res
 | _=>none
theorem endRs_ok {P : Program} {res : List ResultVar} {x : Exit × CS} {rs : List RV} (h : endRs P res x = some rs) : fpostL P res rs x.1 x.2.as:=by
 obtain ⟨e,t⟩:=x
 unfold endRs at h
 cases e <;> first | exact resList_ok h | cases h
def sameRs : List RV → List RV → Bool
 | [],[]=>true
 | .bo a :: l,.bo b :: l'=>(a == b) && sameRs l l'
 | .it .i64 a :: l,.it .i64 b :: l'=>(a == b) && sameRs l l'
 | _,_=>false
theorem sameRs_ok : ∀ {l l' : List RV},sameRs l l' = true → l = l':=fun {l l'} h=>by
 fun_induction sameRs l l' with
 | case1=>rfl
 | case2 a l b l' ih=>simp only [Bool.and_eq_true,beq_iff_eq] at h; rw [h.1,ih h.2]
 | case3 a l b l' ih=>simp only [Bool.and_eq_true,beq_iff_eq] at h; rw [h.1,ih h.2]
 | case4=>cases h
def agree (P : Program) (res : List ResultVar) : Outs → Option (List RV)
 | []=>none
 | [x]=>endRs P res x
 | x :: l => match endRs P res x, agree P res l with
   | some r,some r'=>if sameRs r r' then some r else none
   | _,_=>none
theorem agree_ok {P : Program} {res : List ResultVar} : ∀ {L : Outs} {rs : List RV},agree P res L = some rs → ∀ x ∈ L,fpostL P res rs x.1 x.2.as
 | [],_,h=>by simp [agree] at h
 | [x], rs, h => fun y hy => by
   simp only [List.mem_singleton] at hy
   subst hy
   exact endRs_ok (by simpa only [agree] using h)
 | x :: y :: l, rs, h => fun z hz => by
   simp only [agree] at h
   split at h
   · rename_i r r' h1 h2
     split at h
     · rename_i e
       injection h with h; subst h
       have e:=sameRs_ok e
       subst e
       rcases List.mem_cons.1 hz with rfl | hz
       · exact endRs_ok h1
       · exact agree_ok (L:=y :: l) h2 z hz
     · cases h
   · cases h
def isEnd : Exit → Bool
 | .normal=>true
 | .ret=>true
 | _=>false
def callA (P : Program) (ex : Code → CS → Option Outs) (fn : Func) (c : Code) (args : List RV) : Option RV :=
 if args.length ≤ fn.ntmps then
  match ex c ⟨fn.ntmps,args.map .r,[]⟩ with
  | some L => match agree P fn.results.toList L with
    | some rs=>some (resV rs)
    | none=>none
  | none=>none
 else none
def callO (P : Program) (ex : Code → CS → Option Outs) (fn : Func) (c : Code) (args : List RV) : Option (Nat × Nat × List (List RV) × Nat) :=
 if args.length ≤ fn.ntmps then
  match fn.results.toList,ex c ⟨fn.ntmps,args.map .r,[]⟩ with
  | [rv], some [(e, t)] =>
    if isEnd e then
    if (resA P t.as rv).pre then
     match (resA P t.as rv).y.av with
     | .os j n sz off m =>
       match rowAt t.rows j with
       | ⟨n',.arr ty sz' es⟩=>if n == n' && sz == sz' && off == 0 && es.all RV.flatL then some (ty,sz,es,m) else none
       | _=>none
     | _=>none
    else none
    else none
  | _,_=>none
 else none
mutual
def keysA : AV → List Nat
 | .pt k _ _=>[k]
 | .pe k _ _ _ _=>[k]
 | .os k _ _ _ _=>[k]
 | .mp k _=>[k]
 | .fn _ cs=>keysL cs
 | .ag cs=>keysL cs
 | .tu cs=>keysL cs
 | _=>[]
def keysL : List AV → List Nat
 | []=>[]
 | x :: xs=>keysA x ++ keysL xs
end
def keysB (rows : Nat → Row) : List Nat → List Nat
 | []=>[]
 | k :: ks=>k :: ((match (rows k).c with | .box cs=>keysL cs | _=>[]) ++ keysB rows ks)
def mkRho : List Nat → Nat → List (Nat × Nat)
 | [],_=>[]
 | k :: ks,i=>if (k :: ks).length > 1 && ks.contains k then mkRho ks i else (i,k) :: mkRho ks (i + 1)
def lendRows (ρ : List (Nat × Nat)) (s : AS) : List (Nat × Nat) → Option (List (Nat × RowC))
 | []=>some []
 | (pk, ck) :: l => match lendC ρ s.ver (s.rows ck).c, lendRows ρ s l with
   | some c,some L=>some ((pk,c) :: L)
   | _,_=>none
theorem lendRows_ok {ρ : List (Nat × Nat)} {s : AS} : ∀ {l : List (Nat × Nat)} {L : List (Nat × RowC)},lendRows ρ s l = some L → lendOk ρ s l L
 | [],L,h=>by injection h with h; subst h; trivial
 | (pk, ck) :: l, L, h => by
   unfold lendRows at h
   split at h
   · rename_i c L' h1 h2
     injection h with h; subst h
     exact ⟨rfl,h1,lendRows_ok h2⟩
   · cases h
def frzB (ks : List (Nat × RowC)) (rows : Nat → Row) : AV → Bool
 | .os j n sz off m=>if keyIn ks j then true else (decide (j < 1000) && snapB rows (.os j n sz off m))
 | _=>true
theorem frzB_ok {ks : List (Nat × RowC)} {rows : Nat → Row} {x : AV} (h : frzB ks rows x = true) : frzP1 ks rows x:=by
 cases x with
 | os j n sz off m =>
   simp only [frzB] at h
   simp only [frzP1]
   split at h
   · rename_i e; rw [if_pos e]; trivial
   · rename_i e
     rw [if_neg e]
     simp only [Bool.and_eq_true,decide_eq_true_eq] at h
     refine ⟨h.1,?_⟩
     have h2:=h.2
     simp only [snapB] at h2
     have h3:=osB h2
     refine ⟨h3.1,?_⟩
     have h4:=h3.2
     generalize (rows j).c = c at h4 ⊢
     cases c <;> exact h4
 | _=>simp only [frzP1]
def frzBL (ks : List (Nat × RowC)) (rows : Nat → Row) : List AV → Bool
 | []=>true
 | x :: xs=>frzB ks rows x && frzBL ks rows xs
theorem frzBL_ok {ks : List (Nat × RowC)} {rows : Nat → Row} : ∀ {xs : List AV},frzBL ks rows xs = true → frzPL ks rows xs
 | [],_=>trivial
 | x :: xs, h => by
   simp only [frzBL,Bool.and_eq_true] at h
   exact ⟨frzB_ok h.1,frzBL_ok h.2⟩
def frzBC (ks : List (Nat × RowC)) (rows : Nat → Row) : RowC → Bool
 | .box cs=>frzBL ks rows cs
 | _=>true
theorem frzBC_ok {ks : List (Nat × RowC)} {rows : Nat → Row} {c : RowC} (h : frzBC ks rows c = true) : frzPC ks rows c:=by
 cases c <;> first | exact frzBL_ok h | trivial
def finM (ks : List (Nat × RowC)) (rows : Nat → Row) : List (Nat × RowC) → Option (List (Nat × RowC))
 | []=>some []
 | (k,_) :: L=>if okC (rows k).c && frzBC ks rows (rows k).c then match finM ks rows L with | some L'=>some ((k,frzC ks rows (rows k).c) :: L') | none=>none else none
theorem finM_ok {ks : List (Nat × RowC)} {rows : Nat → Row} : ∀ {L L' : List (Nat × RowC)},finM ks rows L = some L' → mfin ks rows L L'
 | [],L',h=>by injection h with h; subst h; trivial
 | (k, c) :: L, L', h => by
   unfold finM at h
   split at h
   · rename_i hc
     simp only [Bool.and_eq_true] at hc
     split at h
     · rename_i L'' h2
       injection h with h; subst h
       exact ⟨rfl,hc.1,frzBC_ok hc.2,rfl,finM_ok h2⟩
     · cases h
   · cases h
def resListM (P : Program) (ks : List (Nat × RowC)) (s : AS) : List ResultVar → Option (List AV)
 | []=>some []
 | v :: vs =>
   if (resA P s v).pre then
    if frzB ks s.rows (resA P s v).y.av then
     match resListM P ks s vs with
     | some rs=>some (frz1 ks s.rows (resA P s v).y.av :: rs)
     | none=>none
    else none
   else none
theorem resListM_ok {P : Program} {ks : List (Nat × RowC)} {s : AS} : ∀ {vs : List ResultVar} {rs : List AV},resListM P ks s vs = some rs → resM P ks s vs rs
 | [],rs,h=>by injection h with h; exact h.symm
 | v :: vs, rs, h => by
   unfold resListM at h
   split at h
   · rename_i hp
     split at h
     · rename_i hs
       split at h
       · rename_i rs' hr
         injection h with h; subst h
         exact ⟨hp,frzB_ok hs,rs',rfl,resListM_ok hr⟩
       · cases h
     · cases h
   · cases h
def rowsOf : List (Nat × RowC) → List (Nat × Row)
 | []=>[]
 | (k,c) :: L=>(k,⟨0,c⟩) :: rowsOf L
def callM (P : Program) (ex : Code → CS → Option Outs) (fn : Func) (c : Code) (L : List (Nat × RowC)) (args : List AV) : Option (List (Nat × RowC) × AV) :=
 if args.length ≤ fn.ntmps && pinned L then
  match ex c ⟨fn.ntmps,args,rowsOf L⟩ with
  | some [(e, t)] =>
    if isEnd e then
     match finM L t.as.rows L,resListM P L t.as fn.results.toList with
     | some L',some rs=>some (L',resMV rs)
     | _,_=>none
    else none
  | _=>none
 else none
def putRows (s : CS) (L' : List (Nat × RowC)) (ver : Nat → Nat) (ρ : List (Nat × Nat)) : List (Nat × Nat) → CS
 | []=>s
 | (pk,ck) :: l=>putRows (s.row ck ⟨ver ck,backC ρ ver (lookc L' pk)⟩) L' ver ρ l
def callC (P : Program) (fs : List (FuncId × Nat)) (ex : Code → CS → Option Outs) : Caller:=fun D s d f xs =>
 match callee? f with
 | none=>none
 | some (F, cs) =>
   match modeOf fs F,P.funcs[F]? with
   | some m, some fn =>
     match fn.body with
     | none=>none
     | some c =>
       if m == 1 && !D then
        match d with
        | some dd =>
          if snapBL s.as.rows (xs ++ cs) && decide (dd < 1000) then
           match callO P ex fn c (snapVL s.as.rows (xs ++ cs)) with
           | some (t,sz,es,m)=>some ((s.row dd ⟨(s.as.rows dd).ver + 1,.arr t sz es⟩).put d (.os dd ((s.as.rows dd).ver + 1) sz 0 m))
           | none=>none
          else none
        | none=>none
       else if m == 2 && !D then
        let ρ:=mkRho (keysB s.as.rows (keysL (xs ++ cs))) 1000
        match lendL ρ s.as.ver (xs ++ cs),lendRows ρ s.as ρ with
        | some args, some L =>
          match callM P ex fn c L args with
          | some (L',r)=>if apart ρ && sameKeys ρ L' then some ((putRows s L' s.as.ver ρ ρ).put d (backA ρ s.as.ver r)) else none
          | none=>none
        | _,_=>none
       else if snapBL s.as.rows (xs ++ cs) then
        match callA P ex fn c (snapVL s.as.rows (xs ++ cs)) with
        | some r=>if r.flatB || AV.pureL (xs ++ cs) then some (s.put d (.r r)) else none
        | none=>none
       else none
   | _,_=>none
mutual
def RV.dl : RV → RV → Bool
 | .ns,.sl _ []=>true
 | .sl s es,.sl t fs=>s == t && RV.dlE es fs
 | .ag xs,.ag ys=>RV.dlL xs ys
 | .rp xs,.rp ys=>RV.dlL xs ys
 | .fn f xs,.fn g ys=>f == g && RV.dlL xs ys
 | .it .i64 n,.it .i64 m=>n == m
 | .bo a,.bo b=>a == b
 | .ns,.ns=>true
 | .np,.np=>true
 | .nf,.nf=>true
 | _,_=>false
def RV.dlL : List RV → List RV → Bool
 | [],[]=>true
 | x :: xs,y :: ys=>RV.dl x y && RV.dlL xs ys
 | _,_=>false
def RV.dlE : List (List RV) → List (List RV) → Bool
 | [],[]=>true
 | x :: xs,y :: ys=>RV.dlL x y && RV.dlE xs ys
 | _,_=>false
end
theorem dlL_len : ∀ {xs ys : List RV},RV.dlL xs ys = true → xs.length = ys.length
 | [],[],_=>rfl
 | x :: xs, y :: ys, h => by
   simp only [RV.dlL,Bool.and_eq_true] at h
   simp [dlL_len h.2]
 | [],_ :: _,h=>by simp [RV.dlL] at h
 | _ :: _,[],h=>by simp [RV.dlL] at h
theorem dlE_len : ∀ {xs ys : List (List RV)},RV.dlE xs ys = true → xs.length = ys.length
 | [],[],_=>rfl
 | x :: xs, y :: ys, h => by
   simp only [RV.dlE,Bool.and_eq_true] at h
   simp [dlE_len h.2]
 | [],_ :: _,h=>by simp [RV.dlE] at h
 | _ :: _,[],h=>by simp [RV.dlE] at h
section
variable {w : World} {R : Nat → Prop}
mutual
theorem dl_rel : ∀ (x y : RV) (v : Value),RV.dl x y = true → x.rel w R v → y.rel w R v
 | .ns, .sl sz [], v, _, h => by
   simp only [RV.rel] at h ⊢
   obtain ⟨A,rfl⟩:=h
   exact ⟨A,0,rfl,Nat.le_refl _,Nat.zero_le _,fun h=>absurd rfl h⟩
 | .sl s es, .sl t fs, v, hd, h => by
   simp only [RV.dl,Bool.and_eq_true,beq_iff_eq] at hd
   obtain ⟨rfl,hd⟩:=hd
   have hl:=dlE_len hd
   simp only [RV.rel] at h ⊢
   obtain ⟨A,c,hv,h1,h2,h3⟩:=h
   refine ⟨A,c,by rw [← hl]; exact hv,by rw [← hl]; exact h1,h2,fun hne=>?_⟩
   obtain ⟨ad,e,hr,hc⟩:=h3 (fun e=>hne (by rw [e] at hl; exact List.eq_nil_of_length_eq_zero hl.symm))
   exact ⟨ad,e,hr,dl_relE s es fs ad 0 hd hc⟩
 | .ag xs, .ag ys, v, hd, h => by
   simp only [RV.dl] at hd
   simp only [RV.rel] at h ⊢
   obtain ⟨vs,e,h1,hV⟩:=h
   exact ⟨vs,e,h1,dl_relV xs ys _ hd hV⟩
 | .rp xs, .rp ys, v, hd, h => by
   simp only [RV.dl] at hd
   simp only [RV.rel] at h ⊢
   obtain ⟨ad,e,hR,hC⟩:=h
   exact ⟨ad,e,hR,dl_relC xs ys _ _ hd hC⟩
 | .fn f xs, .fn g ys, v, hd, h => by
   simp only [RV.dl,Bool.and_eq_true,beq_iff_eq] at hd
   simp only [RV.rel] at h ⊢
   obtain ⟨vs,e,hV⟩:=h
   exact ⟨vs,by rw [← hd.1]; exact e,dl_relV xs ys _ hd.2 hV⟩
 | .it .i64 n, .it .i64 m, v, hd, h => by
   simp only [RV.dl,beq_iff_eq] at hd
   subst hd; exact h
 | .bo a, .bo b, v, hd, h => by
   simp only [RV.dl,beq_iff_eq] at hd
   subst hd; exact h
 | .ns,.ns,_,_,h=>h
 | .np,.np,_,_,h=>h
 | .nf,.nf,_,_,h=>h
theorem dl_relV : ∀ (xs ys : List RV) (vs : List Value),RV.dlL xs ys = true → RV.relV w R xs vs → RV.relV w R ys vs
 | [],[],_,_,h=>h
 | x :: xs, y :: ys, vs, hle, h => by
   simp only [RV.dlL,Bool.and_eq_true] at hle
   simp only [RV.relV] at h ⊢
   obtain ⟨u,us,e,h1,h2⟩:=h
   exact ⟨u,us,e,dl_rel x y u hle.1 h1,dl_relV xs ys us hle.2 h2⟩
 | [],_ :: _,_,hle,_=>by simp [RV.dlL] at hle
 | _ :: _,[],_,hle,_=>by simp [RV.dlL] at hle
theorem dl_relC : ∀ (xs ys : List RV) (ad : Addr) (j : Nat),RV.dlL xs ys = true → RV.relC w R xs ad j → RV.relC w R ys ad j
 | [],[],_,_,_,h=>h
 | x :: xs, y :: ys, ad, j, hle, h => by
   simp only [RV.dlL,Bool.and_eq_true] at hle
   simp only [RV.relC] at h ⊢
   obtain ⟨⟨u,hu,ho,h1⟩,h2⟩:=h
   exact ⟨⟨u,hu,ho,dl_rel x y u hle.1 h1⟩,dl_relC xs ys ad (j + 1) hle.2 h2⟩
 | [],_ :: _,_,_,hle,_=>by simp [RV.dlL] at hle
 | _ :: _,[],_,_,hle,_=>by simp [RV.dlL] at hle
theorem dl_relE : ∀ (sz : Nat) (xs ys : List (List RV)) (ad : Addr) (j : Nat),RV.dlE xs ys = true → RV.relE w R sz xs ad j → RV.relE w R sz ys ad j
 | _,[],[],_,_,_,h=>h
 | sz, x :: xs, y :: ys, ad, j, hle, h => by
   simp only [RV.dlE,Bool.and_eq_true] at hle
   simp only [RV.relE] at h ⊢
   exact ⟨by rw [← dlL_len hle.1]; exact h.1,dl_relC x y ad j hle.1 h.2.1,dl_relE sz xs ys ad (j + sz) hle.2 h.2.2⟩
 | _,[],_ :: _,_,_,hle,_=>by simp [RV.dlE] at hle
 | _,_ :: _,[],_,_,hle,_=>by simp [RV.dlE] at hle
end
end
theorem acalls_dl {P : Program} {f : FuncId} {xs ys : List RV} {r : RV} (h : ACalls P f ys r) (hd : RV.dlL xs ys = true) : ACalls P f xs r :=
 ⟨h.1,fun w R vs hR hv=>h.2 w R vs hR (dl_relV xs ys _ hd hv)⟩
abbrev Orc:=List (FuncId × List RV × RV)
def orcGet : Orc → FuncId → List RV → Option RV
 | [],_,_=>none
 | (g,ys,r) :: l,f,xs=>if f == g && RV.dlL xs ys then some r else orcGet l f xs
def orcOk (P : Program) : Orc → Prop
 | []=>True
 | (g,ys,r) :: l=>ACalls P g ys r ∧ orcOk P l
theorem orcGet_ok {P : Program} : ∀ {l : Orc} {f : FuncId} {xs : List RV} {r : RV},orcOk P l → orcGet l f xs = some r → ACalls P f xs r
 | [],_,_,_,_,h=>by simp [orcGet] at h
 | (g, ys, r') :: l, f, xs, r, ho, h => by
   unfold orcGet at h
   split at h
   · rename_i hc
     simp only [Bool.and_eq_true,beq_iff_eq] at hc
     injection h with h; subst h
     rw [hc.1]
     exact acalls_dl ho.1 hc.2
   · exact orcGet_ok ho.2 h
def callR (orc : Orc) : Caller:=fun _ s d f xs =>
 match callee? f with
 | none=>none
 | some (F, cs) =>
   if snapBL s.as.rows (xs ++ cs) then
    match orcGet orc F (snapVL s.as.rows (xs ++ cs)) with
    | some r=>if r.flatB || AV.pureL (xs ++ cs) then some (s.put d (.r r)) else none
    | none=>none
   else none
def callX (P : Program) (fs : List (FuncId × Nat)) (orc : Orc) (ex : Code → CS → Option Outs) : Caller:=fun D s d f xs =>
 match callC P fs ex D s d f xs with
 | some t=>some t
 | none=>callR orc D s d f xs
def norm : List CS → Outs
 | []=>[]
 | t :: l=>(.normal,t) :: norm l
def leave (id : Nat) : Exit → Exit
 | .exit id'=>if id' = id then .normal else .exit id'
 | e=>e
def blk (id : Nat) : Outs → Outs
 | []=>[]
 | (e,t) :: l=>(leave id e,t) :: blk id l
def killOps : List Oper → CS → CS
 | [],s=>s
 | o :: l,s=>if cls o == 2 && decide (o.dst.getD 0 < 1000) then killOps l (s.row (o.dst.getD 0) ⟨(rowAt s.rows (o.dst.getD 0)).ver + 1,.dead⟩) else killOps l s
def killD (D : Bool) (l : List Oper) (s : CS) : CS:=match D with | true=>killOps l s | false=>s
def slots : List Operand → List Nat
 | []=>[]
 | .tmp t :: l=>t :: slots l
 | _ :: l=>slots l
def kappa (ops : Array Oper) (s : CS) : List Oper → List (Nat × Option Nat)
 | []=>[]
 | o :: l=>(slots o.op.operands.toList).map (fun t=>(t,keyOf (nth s.tm t))) ++ kappa ops s l
def drawOk (D : Bool) (ops : Array Oper) (s : CS) : Bool:=!D || lexOk ops || lexOk2 ops (kappa ops s ops.toList)
def exec (P : Program) (fs : List (FuncId × Nat)) (orc : Orc) : Nat → Code → CS → Option Outs
 | 0,_,_=>none
 | k + 1,.region _ ops D,s=>if drawOk D ops (killD D ops.toList s) then match runOps P (callX P fs orc (exec P fs orc k)) D ops ops.toList (killD D ops.toList s) with | some L=>some (norm L) | none=>none else none
 | k + 1,.seq a b,s=>bindL (exec P fs orc k a s) fun x=>match x.1 with | .normal=>exec P fs orc k b x.2 | e=>some [(e,x.2)]
 | k + 1,.loop c,s=>bindL (exec P fs orc k c s) fun x=>match x.1 with | .normal=>exec P fs orc k (.loop c) x.2 | e=>some [(e,x.2)]
 | k + 1,.cond c a b,s=>match s.as.ev c with | .r (.bo t)=>bif t then exec P fs orc k a s else exec P fs orc k b s | _=>none
 | k + 1,.block id c,s=>match exec P fs orc k c s with | some L=>some (blk id L) | none=>none
 | _ + 1,.skip,s=>some [(.normal,s)]
 | _ + 1,.label _,s=>some [(.normal,s)]
 | _ + 1,.exit id,s=>some [(.exit id,s)]
 | _ + 1,.ret,s=>some [(.ret,s)]
 | _ + 1,_,_=>none
def evalX (P : Program) (fs : List (FuncId × Nat)) (orc : Orc) (k : Nat) (F : FuncId) (args : List RV) : Option RV :=
 match P.funcs[F]? with
 | some fn => match fn.body with
   | some c=>callA P (exec P fs orc k) fn c args
   | none=>none
 | none=>none
def evalA (P : Program) (fs : List (FuncId × Nat)) (k : Nat) (F : FuncId) (args : List RV) : Option RV:=evalX P fs [] k F args
end Go.Oc

namespace Go.Oc
open Go Go.RowKit
section
variable {P : Program}
theorem norm_mem : ∀ {L : List CS} {t : CS},t ∈ L → (Exit.normal,t) ∈ norm L
 | [],_,h=>by simp at h
 | x :: l, t, h => by
   rcases List.mem_cons.1 h with rfl | h
   · simp [norm]
   · simp [norm,norm_mem h]
theorem blk_mem {id : Nat} : ∀ {L : Outs} {e : Exit} {t : CS},(e,t) ∈ L → (leave id e,t) ∈ blk id L
 | [],_,_,h=>by simp at h
 | (e', t') :: l, e, t, h => by
   rcases List.mem_cons.1 h with h | h
   · injection h with h1 h2; subst h1 h2; simp [blk]
   · simp [blk,blk_mem h]
theorem nth_look : ∀ (xs : List AV) (k t : Nat),look (argA k xs) (k + t) = nth xs t
 | [],_,_=>by simp [argA,look_nil,nth]
 | x :: xs,k,0=>by simp [argA,look_cons,nth]
 | x :: xs, k, t + 1 => by
   have:=nth_look xs (k + 1) t
   rw [show k + 1 + t = k + (t + 1) from by omega] at this
   simp only [argA,look_cons,nth,this];rw [if_neg (by omega)]
theorem argL_A : ∀ (xs : List RV) (k : Nat),argL k xs = argA k (xs.map .r)
 | [],_=>rfl
 | x :: xs,k=>by simp only [argL,argA,List.map_cons,argL_A xs]
theorem rowsOf_at : ∀ (L : List (Nat × RowC)) (k : Nat),rowAt (rowsOf L) k = ⟨0,lookc L k⟩
 | [],_=>rfl
 | (j, c) :: L, k => by
   simp only [rowsOf,rowAt,lookc_cons,rowsOf_at L k]
   split <;> rfl
theorem start_as {n : Nat} {xs : List AV} {L : List (Nat × RowC)} : (CS.mk n xs (rowsOf L)).as = st n (argA 0 xs) (fun _=>0) L:=by
 simp only [CS.as,st,AS.mk.injEq,true_and]
 refine ⟨?_,funext fun k=>rowsOf_at L k⟩
 funext t
 have:=nth_look xs 0 t
 rw [Nat.zero_add] at this
 exact this.symm
theorem start_as0 {n : Nat} {xs : List RV} : (CS.mk n (xs.map .r) []).as = st n (argL 0 xs) (fun _=>0) []:=by
 rw [argL_A]
 exact start_as (L:=[])
theorem as_putRows {L' : List (Nat × RowC)} {ver : Nat → Nat} {ρ : List (Nat × Nat)} : ∀ (l : List (Nat × Nat)) (s : CS),(putRows s L' ver ρ l).as = { s.as with rows:=backRows ρ ver L' l s.as.rows }
 | [],s=>rfl
 | (pk, ck) :: l, s => by
   simp only [putRows,as_putRows l,as_row,backRows]
   rfl
theorem putRows_num {L' : List (Nat × RowC)} {ver : Nat → Nat} {ρ : List (Nat × Nat)} : ∀ (l : List (Nat × Nat)) (s : CS),(putRows s L' ver ρ l).n = s.n
 | [],s=>rfl
 | (pk,ck) :: l,s=>by simp only [putRows,putRows_num l]; rfl
theorem killOps_sub : ∀ (l : List Oper) (s : CS),Sub s.as (killOps l s).as ∧ (killOps l s).n = s.n
 | [],s=>⟨Sub.refl _,rfl⟩
 | o :: l, s => by
   unfold killOps
   split
   · rename_i h
     simp only [Bool.and_eq_true,decide_eq_true_eq] at h
     obtain ⟨h1,h2⟩:=killOps_sub l (s.row (o.dst.getD 0) ⟨(rowAt s.rows (o.dst.getD 0)).ver + 1,.dead⟩)
     refine ⟨Sub.trans ?_ h1,h2⟩
     rw [as_row]
     exact sub_kill s.as (o.dst.getD 0) h.2
   · exact killOps_sub l s
theorem killD_sub (D : Bool) (l : List Oper) (s : CS) : Sub s.as (killD D l s).as ∧ (killD D l s).n = s.n:=by
 cases D with
 | true=>exact killOps_sub l s
 | false=>exact ⟨Sub.refl _,rfl⟩
def Good (P : Program) (ex : Code → CS → Option Outs) : Prop:=∀ c t L,codeOk t.n c = true → ex c t = some L → (∀ x ∈ L,x.2.n = t.n) ∧ ∀ C Q,(∀ x ∈ L,Q x.1 x.2.as) → awp P C c Q t.as
theorem callA_ok {ex : Code → CS → Option Outs} (hex : Good P ex) {F : FuncId} {fn : Func} {c : Code} {args : List RV} {r : RV} (hF : P.funcs[F]? = some fn) (hb : fn.body = some c) (hok : fnOk P F = true) (h : callA P ex fn c args = some r) : ACalls P F args r:=by
 unfold fnOk at hok
 simp only [hF,hb,Bool.and_eq_true] at hok
 unfold callA at h
 split at h
 · rename_i hlen
   split at h
   · rename_i L hL
     split at h
     · rename_i rs hrs
       injection h with h
       have hag:=agree_ok hrs
       refine acalls_of hF hb hok.2 rfl hlen h fun C=>zw (sub_look (argL 0 args) fun p hp=>?_) ?_
       · obtain ⟨i,x,rfl,e⟩:=argL_mem p hp
         simp only [argTm,Nat.zero_add,e]
       · have:=((hex c _ L hok.1 hL).2 C (fpost P fn rs) fun x hx=>?_)
         · rw [start_as0] at this
           exact this
         · have:=hag x hx
           obtain ⟨e,t⟩:=x
           cases e <;> exact this
     · cases h
   · cases h
 · cases h
theorem callO_ok {ex : Code → CS → Option Outs} (hex : Good P ex) {F : FuncId} {fn : Func} {c : Code} {args : List RV} {ty sz m : Nat} {es : List (List RV)} (hF : P.funcs[F]? = some fn) (hb : fn.body = some c) (hok : fnOk P F = true)
 (h : callO P ex fn c args = some (ty,sz,es,m)) : OCalls P F args ty sz es m:=by
 unfold fnOk at hok
 simp only [hF,hb,Bool.and_eq_true] at hok
 unfold callO at h
 split at h
 · rename_i hlen
   split at h
   · rename_i rv e t hres hL
     split at h
     · rename_i he
       split at h
       · rename_i hp
         split at h
         · rename_i j n sz1 off m1 hav
           split at h
           · rename_i n' ty1 sz' es1 hrow
             split at h
             · rename_i hc
               simp only [Bool.and_eq_true,beq_iff_eq,List.all_eq_true] at hc
               obtain ⟨⟨⟨h1,h2⟩,h3⟩,h4⟩:=hc
               subst h1 h2 h3
               injection h with h
               simp only [Prod.mk.injEq] at h
               obtain ⟨rfl,rfl,rfl,rfl⟩:=h
               refine ocalls_0 rv hF hb hok.2 rfl hres hlen h4 fun C=>?_
               have:=((hex c _ _ hok.1 hL).2 C (opostL P rv ty1 sz1 es1 m1) fun x hx=>?_)
               · rw [start_as0] at this
                 exact this
               · simp only [List.mem_singleton] at hx
                 subst hx
                 have key : resC (resA P t.as rv) fun v=>∃ j n,v = .os j n sz1 0 m1 ∧ t.as.rows j = ⟨n,.arr ty1 sz1 es1⟩:=⟨hp,j,n,hav,hrow⟩
                 cases e <;> first | exact key | cases he
             · cases h
           · cases h
         · cases h
       · cases h
     · cases h
   · cases h
 · cases h
theorem callM_ok {ex : Code → CS → Option Outs} (hex : Good P ex) {F : FuncId} {fn : Func} {c : Code} {L L' : List (Nat × RowC)} {args : List AV} {r : AV} (hF : P.funcs[F]? = some fn) (hb : fn.body = some c) (hok : fnOk P F = true)
 (h : callM P ex fn c L args = some (L',r)) : MCalls P F L L' args r:=by
 unfold fnOk at hok
 simp only [hF,hb,Bool.and_eq_true] at hok
 unfold callM at h
 split at h
 · rename_i hlen
   simp only [Bool.and_eq_true,decide_eq_true_eq] at hlen
   split at h
   · rename_i e t hL
     split at h
     · rename_i he
       split at h
       · rename_i L1 rs hfin hres
         injection h with h
         simp only [Prod.mk.injEq] at h
         obtain ⟨rfl,rfl⟩:=h
         refine mcalls_st (rs:=rs) L L1 fn.results.toList hF hb hok.2 rfl rfl hlen.1 rfl hlen.2 fun C=>?_
         have:=((hex c _ _ hok.1 hL).2 C (mpostL P fn.results.toList rs L L1) fun x hx=>?_)
         · rw [start_as] at this
           exact this
         · simp only [List.mem_singleton] at hx
           subst hx
           have key : resM P L t.as fn.results.toList rs ∧ mfin L t.as.rows L L1:=⟨resListM_ok hres,finM_ok hfin⟩
           cases e <;> first | exact key | cases he
       · cases h
     · cases h
   · cases h
 · cases h
theorem callC_ok {fs : List (FuncId × Nat)} (hfs : allOk P fs = true) {ex : Code → CS → Option Outs} (hex : Good P ex) : (callC P fs ex).ok P:=fun D s d f xs t h=>by
 unfold callC at h
 split at h
 · cases h
 · rename_i F cs hcal
   split at h
   · rename_i m fn hm hF
     have hok:=allOk_get hfs hm
     split at h
     · cases h
     · rename_i c hb
       split at h
       · rename_i hmode
         simp only [Bool.and_eq_true,beq_iff_eq,Bool.not_eq_true'] at hmode
         split at h
         · rename_i dd
           split at h
           · rename_i hsn
             simp only [Bool.and_eq_true,decide_eq_true_eq] at hsn
             split at h
             · rename_i ty sz es m' hO
               injection h with h; subst h
               refine ⟨put_num _ _ _,fun K hK=>.inr ⟨hmode.2,.inr ⟨F,cs,_,ty,sz,es,m',dd,hcal,snapBL_ok _ hsn.1,leL_refl _,callO_ok hex hF hb hok hO,rfl,hsn.2,?_⟩⟩⟩
               rw [as_put,as_row] at hK
               exact hK
             · cases h
           · cases h
         · cases h
       · split at h
         · rename_i hmode
           simp only [Bool.and_eq_true,beq_iff_eq,Bool.not_eq_true'] at hmode
           dsimp only at h
           split at h
           · rename_i args L hargs hL
             split at h
             · rename_i L' r hM
               split at h
               · rename_i hap
                 simp only [Bool.and_eq_true] at hap
                 injection h with h; subst h
                 refine ⟨(put_num _ _ _).trans (putRows_num _ _),fun K hK=>.inr ⟨hmode.2,.inl ⟨F,cs,_,L,L',args,r,hcal,hargs,lendRows_ok hL,hap.1,hap.2,callM_ok hex hF hb hok hM,?_⟩⟩⟩
                 rw [as_put,as_putRows] at hK
                 exact hK
               · cases h
             · cases h
           · cases h
         · split at h
           · rename_i hsn
             split at h
             · rename_i r hA
               split at h
               · rename_i hfl
                 simp only [Bool.or_eq_true] at hfl
                 injection h with h; subst h
                 refine ⟨put_num _ _ _,fun K hK=>.inl ⟨r,.inl ⟨F,cs,_,hcal,snapBL_ok _ hsn,leL_refl _,callA_ok hex hF hb hok hA,hfl⟩,?_⟩⟩
                 rw [as_put] at hK
                 exact hK
               · cases h
             · cases h
           · cases h
   · cases h
theorem callR_ok {orc : Orc} (ho : orcOk P orc) : (callR orc).ok P:=fun D s d f xs t h=>by
 unfold callR at h
 split at h
 · cases h
 · rename_i F cs hcal
   split at h
   · rename_i hsn
     split at h
     · rename_i r hA
       split at h
       · rename_i hfl
         simp only [Bool.or_eq_true] at hfl
         injection h with h; subst h
         refine ⟨put_num _ _ _,fun K hK=>.inl ⟨r,.inl ⟨F,cs,_,hcal,snapBL_ok _ hsn,leL_refl _,orcGet_ok ho hA,hfl⟩,?_⟩⟩
         rw [as_put] at hK
         exact hK
       · cases h
     · cases h
   · cases h
theorem callX_ok {fs : List (FuncId × Nat)} (hfs : allOk P fs = true) {orc : Orc} (ho : orcOk P orc) {ex : Code → CS → Option Outs} (hex : Good P ex) : (callX P fs orc ex).ok P:=fun D s d f xs t h=>by
 unfold callX at h
 split at h
 · rename_i t' e
   injection h with h; subst h
   exact callC_ok hfs hex D s d f xs _ e
 · exact callR_ok ho D s d f xs t h
theorem bindL_mem {α β : Type} {x : Option (List α)} {f : α → Option (List β)} {zs : List β} (h : bindL x f = some zs) {z : β} (hz : z ∈ zs) : ∃ l,x = some l ∧ ∃ a ∈ l,∃ ys,f a = some ys ∧ z ∈ ys:=by
 unfold bindL at h
 split at h
 · cases h
 · rename_i l
   refine ⟨l,rfl,?_⟩
   induction l generalizing zs with
   | nil=>injection h with h; subst h; simp at hz
   | cons b l ih =>
     unfold bindL.go at h
     split at h
     · cases h
     · rename_i ys hys
       split at h
       · cases h
       · rename_i ws hws
         injection h with h; subst h
         rcases List.mem_append.1 hz with hz | hz
         · exact ⟨b,by simp,ys,hys,hz⟩
         · obtain ⟨a,ha,y2,h1,h2⟩:=ih hz hws
           exact ⟨a,by simp [ha],y2,h1,h2⟩
theorem runOps_num {call : Caller} (hcall : call.ok P) {D : Bool} {ops : Array Oper} : ∀ (l : List Oper) {s : CS} {L : List CS},runOps P call D ops l s = some L → ∀ t ∈ L,t.n = s.n
 | [], s, L, h => by
   unfold runOps at h
   injection h with h; subst h
   intro t ht
   simp only [List.mem_singleton] at ht; rw [ht]
 | o :: l, s, L, h => by
   have go : bindL (opC P call D o s) (runOps P call D ops l) = some L → ∀ t ∈ L,t.n = s.n:=fun h t ht=>by
    obtain ⟨l1,h1,a,ha,ys,h2,h3⟩:=bindL_mem h ht
    rw [runOps_num hcall l h2 t h3,(opC_ok hcall h1 (K:=fun _=>True) fun _ _=>trivial).2 a ha]
   have sk : runOps P call D ops l (s.put o.dst (.r .ud)) = some L → ∀ t ∈ L,t.n = s.n:=fun h t ht=>by
    rw [runOps_num hcall l h t ht,put_num]
   unfold runOps at h
   split at h
   · exact go h
   · split at h
     · exact sk h
     · split at h
       · split at h
         · exact go h
         · exact sk h
       · exact sk h
       · cases h
theorem norm_mem' : ∀ {L : List CS} {x : Exit × CS},x ∈ norm L → x.1 = .normal ∧ x.2 ∈ L
 | [],_,h=>by simp [norm] at h
 | t :: l, x, h => by
   simp only [norm,List.mem_cons] at h
   rcases h with rfl | h
   · exact ⟨rfl,by simp⟩
   · have:=norm_mem' h
     exact ⟨this.1,by simp [this.2]⟩
theorem blk_mem' {id : Nat} : ∀ {L : Outs} {x : Exit × CS},x ∈ blk id L → ∃ e,(e,x.2) ∈ L
 | [],_,h=>by simp [blk] at h
 | (e', t') :: l, x, h => by
   simp only [blk,List.mem_cons] at h
   rcases h with rfl | h
   · exact ⟨e',by simp⟩
   · obtain ⟨e,he⟩:=blk_mem' h
     exact ⟨e,by simp [he]⟩
theorem kappa_ok {ops : Array Oper} {s : CS} : ∀ l : List Oper,keysOk (kappa ops s l) s.as
 | []=>fun p hp=>by simp [kappa] at hp
 | o :: l => fun p hp => by
   simp only [kappa,List.mem_append,List.mem_map] at hp
   rcases hp with ⟨t,_,rfl⟩ | hp
   · rfl
   · exact kappa_ok l p hp
theorem exec_ok (hm : P.follows .mixedOrders = true) {fs : List (FuncId × Nat)} (hfs : allOk P fs = true) {orc : Orc} (ho : orcOk P orc) : ∀ k,Good P (exec P fs orc k):=by
 intro k
 induction k using Nat.strongRecOn with
 | _ k ih =>
   cases k with
   | zero=>intro c t L _ h; cases c <;> simp [exec] at h
   | succ k =>
     intro c t L hok h
     cases c with
     | skip=>simp only [exec,Option.some.injEq] at h; subst h; exact ⟨by simp,fun C Q hQ=>zx (hQ _ (List.mem_singleton.2 rfl))⟩
     | label l=>simp only [exec,Option.some.injEq] at h; subst h; exact ⟨by simp,fun C Q hQ=>awp_label (hQ _ (List.mem_singleton.2 rfl))⟩
     | exit id=>simp only [exec,Option.some.injEq] at h; subst h; exact ⟨by simp,fun C Q hQ=>zf (hQ _ (List.mem_singleton.2 rfl))⟩
     | ret=>simp only [exec,Option.some.injEq] at h; subst h; exact ⟨by simp,fun C Q hQ=>ze (hQ _ (List.mem_singleton.2 rfl))⟩
     | region id ops D =>
       simp only [codeOk] at hok
       simp only [exec] at h
       split at h
       · rename_i hdr
         split at h
         · rename_i L' hL
           injection h with h; subst h
           have hcall:=callX_ok hfs ho (ih k (Nat.lt_succ_self k))
           have hk:=killD_sub D ops.toList t
           refine ⟨fun x hx=>(runOps_num hcall _ hL _ (norm_mem' hx).2).trans hk.2,fun C Q hQ=>zw hk.1 ?_⟩
           have:=runOps_ok hcall (K:=Q .normal) _ hL fun t ht _=>hQ _ (norm_mem ht)
           have hd : dstOk ops.toList.toArray (killD D ops.toList t).as.n = true:=by rw [show (killD D ops.toList t).as.n = t.n from hk.2]; exact hok
           cases D with
           | false=>exact awp_region (l:=ops.toList) hd this
           | true =>
             simp only [drawOk,Bool.not_true,Bool.false_or,Bool.or_eq_true] at hdr
             rcases hdr with hlex | hlex
             · exact awp_draw (l:=ops.toList) hm hlex hd this
             · exact awp_draw2 (l:=ops.toList) hm hlex hd (kappa_ok _) this
         · cases h
       · cases h
     | seq a b =>
       simp only [codeOk,Bool.and_eq_true] at hok
       simp only [exec] at h
       obtain ⟨l1,h1,h2⟩:=bindL_spec h
       have ga:=ih k (Nat.lt_succ_self k) a t l1 hok.1 h1
       refine ⟨fun x hx=>?_,fun C Q hQ=>?_⟩
       · obtain ⟨l1',h1',y,hy,ys,h3,h4⟩:=bindL_mem h hx
         rw [h1] at h1'; injection h1' with h1'; subst h1'
         have hn:=ga.1 y hy
         obtain ⟨e,u⟩:=y
         cases e <;> first
          | (have:=(ih k (Nat.lt_succ_self k) b u ys (by rw [hn]; exact hok.2) h3).1 x h4; rw [this]; exact hn)
          | (simp only [Option.some.injEq] at h3; subst h3; simp only [List.mem_singleton] at h4; rw [h4]; exact hn)
       · refine zq (ga.2 C _ fun x hx=>?_)
         obtain ⟨ys,h3,h4⟩:=h2 x hx
         have hn:=ga.1 x hx
         obtain ⟨e,u⟩:=x
         cases e <;> first
          | exact (ih k (Nat.lt_succ_self k) b u ys (by rw [hn]; exact hok.2) h3).2 C Q fun x hx=>hQ x (h4 x hx)
          | (simp only [Option.some.injEq] at h3; subst h3; exact hQ _ (h4 _ (by simp)))
     | cond c a b =>
       simp only [codeOk,Bool.and_eq_true] at hok
       simp only [exec] at h
       split at h
       · rename_i tt hc
         cases tt with
         | true =>
           have g:=ih k (Nat.lt_succ_self k) a t L hok.1 h
           exact ⟨g.1,fun C Q hQ=>zc hc (fun _=>g.2 C Q hQ) (fun e=>by cases e)⟩
         | false =>
           have g:=ih k (Nat.lt_succ_self k) b t L hok.2 h
           exact ⟨g.1,fun C Q hQ=>zc hc (fun e=>by cases e) (fun _=>g.2 C Q hQ)⟩
       · cases h
     | block id c =>
       simp only [codeOk] at hok
       simp only [exec] at h
       split at h
       · rename_i L' hL
         injection h with h; subst h
         have g:=ih k (Nat.lt_succ_self k) c t L' hok hL
         refine ⟨fun x hx=>?_,fun C Q hQ=>?_⟩
         · obtain ⟨e,he⟩:=blk_mem' hx
           exact g.1 (e,x.2) he
         · refine zd (g.2 C _ fun x hx=>?_)
           obtain ⟨e,u⟩:=x
           have:=hQ _ (blk_mem hx)
           cases e with
           | exit id' =>
             simp only [leave] at this
             simp only [inBlk]
             split <;> rename_i e <;> simp only [e,if_true,if_false] at this <;> exact this
           | _=>exact this
       · cases h
     | loop c =>
       simp only [codeOk] at hok
       have num : ∀ j,j ≤ k + 1 → ∀ (u : CS) (L' : Outs),u.n = t.n → exec P fs orc j (.loop c) u = some L' → ∀ x ∈ L',x.2.n = t.n:=by
        intro j
        induction j with
        | zero=>intro _ u L' _ hL; simp [exec] at hL
        | succ j ihj =>
          intro hj u L' hu hL x hx
          simp only [exec] at hL
          obtain ⟨l1,h1,y,hy,ys,h3,h4⟩:=bindL_mem hL hx
          have hn:=(ih j (by omega) c u l1 (by rw [hu]; exact hok) h1).1 y hy
          obtain ⟨e,v⟩:=y
          cases e <;> first
           | exact ihj (by omega) v ys (by rw [← hu]; exact hn) h3 x h4
           | (simp only [Option.some.injEq] at h3; subst h3; simp only [List.mem_singleton] at h4; rw [h4,← hu]; exact hn)
       refine ⟨num (k + 1) (Nat.le_refl _) t L rfl h,fun C Q hQ=>?_⟩
       refine awp_loop (fun j s=>j ≤ k + 1 ∧ ∃ u L',s = u.as ∧ u.n = t.n ∧ exec P fs orc j (.loop c) u = some L' ∧ ∀ x ∈ L',Q x.1 x.2.as) (k + 1) ⟨Nat.le_refl _,t,L,rfl,rfl,h,hQ⟩ ?_
       rintro j s ⟨hj,u,L',rfl,hu,hL,hQ'⟩
       cases j with
       | zero=>simp [exec] at hL
       | succ j =>
         simp only [exec] at hL
         obtain ⟨l1,h1,h2⟩:=bindL_spec hL
         have g:=ih j (by omega) c u l1 (by rw [hu]; exact hok) h1
         refine g.2 C _ fun x hx=>?_
         obtain ⟨ys,h3,h4⟩:=h2 x hx
         have hn:=g.1 x hx
         obtain ⟨e,v⟩:=x
         cases e <;> first
          | exact ⟨j,Nat.lt_succ_self j,by omega,v,ys,rfl,by rw [← hu]; exact hn,h3,fun x hx=>hQ' x (h4 x hx)⟩
          | (simp only [Option.some.injEq] at h3; subst h3; exact hQ' _ (h4 _ (by simp)))
     | _=>simp [exec] at h
theorem evalX_ok (hm : P.follows .mixedOrders = true) {fs : List (FuncId × Nat)} (hfs : allOk P fs = true) {orc : Orc} (ho : orcOk P orc) {k : Nat} {F : FuncId} {args : List RV} {r : RV} (hF : fnOk P F = true) (h : evalX P fs orc k F args = some r) : ACalls P F args r:=by
 unfold evalX at h
 split at h
 · rename_i fn hf
   split at h
   · rename_i c hb
     exact callA_ok (exec_ok hm hfs ho k) hf hb hF h
   · cases h
 · cases h
theorem evalA_ok (hm : P.follows .mixedOrders = true) {fs : List (FuncId × Nat)} (hfs : allOk P fs = true) {k : Nat} {F : FuncId} {args : List RV} {r : RV} (hF : fnOk P F = true) (h : evalA P fs k F args = some r) : ACalls P F args r :=
 evalX_ok hm hfs (orc:=[]) trivial hF h
end
end Go.Oc

namespace Go.Proofs.Ytlljkgiomkmjbaa.Tb
open Go Go.Oc
set_option linter.unusedSimpArgs false
set_option linter.unusedVariables false
set_option maxRecDepth 8000
set_option maxHeartbeats 4000000
def fsM : List (FuncId × Nat):=[(235,0)]
theorem fsM_ok : allOk Try.prog fsM = true:=by kernel_rfl
theorem mul_ok (n : Nat) (h : n ∈ [2,3,4,5,6,7,8,9,10]) : ACalls Try.prog 208 [.it .u64 1,.it .u64 (n : Int)] (.tu [.it .u64 0,.it .u64 (n : Int)]):=by
 simp only [List.mem_cons,List.not_mem_nil,or_false] at h
 rcases h with rfl | rfl | rfl | rfl | rfl | rfl | rfl | rfl | rfl <;> exact evalA_ok follows fsM_ok (k:=50) (by kernel_rfl) (by kernel_rfl)
theorem gop_copyS {P : Program} {o : Oper} {x y : Operand} {t t' : TypeId} {K : AS → Prop} (ho : o.op = .call ⟨.builtin .copy,#[x,y],#[t,t']⟩) {e esz eb : Nat} {ez : List RV} {ssz : Nat} {sagg : Bool} {sz0 : List RV}
 (e1 : tyq P t = some ⟨.slice e esz eb ez,ssz,sagg,sz0⟩) {N : Nat} {l : List (Nat × AV)} {vs : Nat → Nat} {cs : List (Nat × RowC)} {k off m : Nat} {es : List (List RV)} {c : Prop} {ns : List (List RV)} (e3 : (st N l vs cs).ev x = .os k (vs k) esz off m) (e5 : lookc cs k = .arr e esz es)
 (e4 : news? (st N l vs cs) ((st N l vs cs).ev y) = some (c,esz,ns)) (hc : c) (hfit : off + m ≤ es.length) (h0 : 0 < m) (h1 : ns ≠ [])
 (hK : K (AS.put (st N l vs (insc cs k (.arr e esz (es.take off ++ (ns.take (min ns.length m) ++ es.drop (off + min ns.length m)))))) o.dst (.r (.it .i64 (min ns.length m : Nat))))) : gop P o K (st N l vs cs):=by
 refine gop_copy ho e1 e3 (by show (⟨vs k,lookc cs k⟩ : Row) = _; rw [e5]) e4 hc hfit h0 h1 ?_
 have : ({ st N l vs cs with rows:=upd (st N l vs cs).rows k ⟨vs k,.arr e esz (es.take off ++ (ns.take (min ns.length m) ++ es.drop (off + min ns.length m)))⟩ } : AS) = st N l vs (insc cs k (.arr e esz (es.take off ++ (ns.take (min ns.length m) ++ es.drop (off + min ns.length m))))):=by
  have:=row_st (n:=N) (l:=l) (vs:=vs) (cs:=cs) (k:=k) (m:=vs k) (c:=.arr e esz (es.take off ++ (ns.take (min ns.length m) ++ es.drop (off + min ns.length m))))
  rw [Go.Oc.upd_self] at this
  exact this
 rw [this]
 exact hK
def reF (n j : Nat) (b : Nat → Bool) (vs : Nat → Nat) : List (Nat × AV) :=
 [(7,.os 30 (vs 30) 2 0 n),(8,.r (i64 (bif b 9 then ((j + min j (n - j) : Nat) : Int) else (j : Int)))),
  (38,vI b 0 (.r (i64 (j : Int)))),
  (39,vI b 1 (.os 30 (vs 30) 2 0 n)),
  (40,vI b 2 (.r (i64 (j : Int)))),
  (41,vI b 3 (.os 30 (vs 30) 2 j (n - j))),
  (42,vI b 4 (.os 30 (vs 30) 2 0 n)),
  (43,vI b 5 (.r (i64 (j : Int)))),
  (44,vI b 6 (.os 30 (vs 30) 2 0 j)),
  (45,vI b 7 (.r (i64 (min j (n - j) : Nat)))),
  (46,vI b 8 (.r (i64 ((j + min j (n - j) : Nat) : Int))))]
abbrev z2 : List RV:=[i64 0,i64 0]
theorem copy_step (X : List RV) {n j : Nat} (hj : j ≤ n) : (List.replicate j X ++ List.replicate (n - j) z2).take j ++ (((((List.replicate j X ++ List.replicate (n - j) z2).drop 0).take j).take (min (((List.replicate j X ++ List.replicate (n - j) z2).drop 0).take j).length (n - j))) ++ (List.replicate j X ++ List.replicate (n - j) z2).drop (j + min (((List.replicate j X ++ List.replicate (n - j) z2).drop 0).take j).length (n - j))) = List.replicate (j + min j (n - j)) X ++ List.replicate (n - (j + min j (n - j))) z2:=by
 have e1 : (List.replicate j X ++ List.replicate (n - j) z2).take j = List.replicate j X:=by
  rw [List.take_append_of_le_length (by simp),List.take_of_length_le (by simp)]
 rw [List.drop_zero,e1,List.length_replicate,List.take_replicate,← List.append_assoc,List.replicate_append_replicate]
 have e2 : (List.replicate j X ++ List.replicate (n - j) z2).drop (j + min j (n - j)) = List.replicate (n - (j + min j (n - j))) z2:=by
  rw [List.drop_append,List.length_replicate,List.drop_eq_nil_of_le (by simp),List.nil_append,List.drop_replicate]
  congr 1; omega
 rw [e2]
 congr 2; omega
theorem repeat_ok (x : Int × Int) (n : Nat) (h : n ∈ [2,3,4,5,6,7,8,9,10]) : OCalls Try.prog 152 [.sl 2 [spR x],i64 (n : Int)] 30 2 (List.replicate n (spR x)) n:=by
 have hmu:=mul_ok n h
 have hn : 2 ≤ n ∧ n ≤ 10:=by
  simp only [List.mem_cons,List.not_mem_nil,or_false] at h
  omega
 have hw1 : IntKind.u64.wrap (n : Int) = n:=by
  simp only [List.mem_cons,List.not_mem_nil,or_false] at h
  rcases h with rfl | rfl | rfl | rfl | rfl | rfl | rfl | rfl | rfl <;> rfl
 have hw2 : IntKind.i64.wrap (n : Int) = n:=by rw [zI] <;> omega
 have d1 : decide ((n : Int) < 0) = false:=by simp
 have d2 : decide ((9223372036854775807 : Int) < (n : Int)) = false:=by simp; omega
 have d2' : decide (9223372036854775807 < n) = false:=by simp; omega
 refine ocalls_st (n:=48) (.tmp 4) Try.func152 rfl (by kernel_rfl) Try.ntmps152 rfl (by simp) (fun e he=>by rw [List.eq_of_mem_replicate he]; rfl) fun C vs=>?_
 repeat refine zq ?_
 refine zb fun K hK=>?_;simp only [go_sem];(try simp (disch:=omega) only [zI]);repeat first | intro _ | refine ⟨by omega,?_⟩
 refine hK _ ?_;clear hK K;refine zw (zk [0,1]) ?_;simp only [go_sem]
 repeat refine zq ?_
 refine zb fun K hK=>?_;simp only [go_sem,d1];(try simp (disch:=omega) only [zI]);repeat first | intro _ | refine ⟨by omega,?_⟩
 refine hK _ ?_;clear hK K;refine zw (zk [0,1,10]) ?_;simp only [go_sem]
 repeat refine zq ?_
 refine zc rfl (fun hc=>?_) (fun hc=>?_) <;> (try simp only [go_sem] at hc)
 refine zx ?_
 try simp only [go_sem]
 have hw0 : IntKind.u64.wrap 1 = 1:=rfl
 repeat refine zq ?_
 refine zb fun K hK=>?_;simp only [go_sem,hw1,hw0];(try simp (disch:=omega) only [zI])
 refine zh (hmu) rfl (by simp only [go_sem,i64,ints,hw1,hw0]) (by simp only [go_sem,i64,ints,hw1,hw0]) (by first | exact .inl rfl | exact .inr rfl) ?_
 (try simp only [go_sem,hw1,hw0]);(try simp (disch:=omega) only [zI]);repeat first | intro _ | refine ⟨by omega,?_⟩
 refine hK _ ?_;clear hK K;refine zw (zk [0,5,6]) ?_;simp only [go_sem]
 repeat refine zq ?_
 refine zb fun K hK=>?_;simp only [go_sem,d2,d2'];(try simp (disch:=omega) only [zI]);repeat first | intro _ | refine ⟨by omega,?_⟩
 refine hK _ ?_;clear hK K;refine zw (zk [0,6,26]) ?_;simp only [go_sem]
 repeat refine zq ?_
 refine zc rfl (fun hc=>?_) (fun hc=>?_) <;> (try simp only [go_sem] at hc)
 refine zx ?_
 try simp only [go_sem]
 repeat refine zq ?_
 refine zb fun K hK=>?_;simp only [go_sem,hw2];(try simp (disch:=omega) only [zI]);repeat first | intro _ | refine ⟨by omega,?_⟩
 refine hK _ ?_;clear hK K;refine zw (zk [0,7]) ?_;simp only [go_sem]
 repeat refine zq ?_
 refine awp_long ?_
 refine sops_take 2 (by kernel_rfl) fun K hK=>?_
 simp only [go_sem,List.take_succ_cons,List.take_zero,List.drop_succ_cons,List.drop_zero,List.append_eq,List.cons_append,List.nil_append];(try simp (disch:=omega) only [zI]);repeat first | intro _ | refine ⟨by omega,?_⟩
 refine hK _ rfl ?_
 clear hK K
 refine sops_sub (zk [7,31,32]) ?_
 simp only [go_sem]
 refine sops_gop rfl (by intro t h; injection h with h; subst h; show 33 < 48; decide) (by intro c h; cases h) ?_
 refine gop_copyS rfl ty33 (k:=30) (off:=0) (m:=n) (es:=List.replicate n z2) (ns:=[spR x]) (c:=True) rfl rfl rfl trivial (by simp) (by omega) (by simp) ?_
 have e1 : min [spR x].length n = 1:=by simp; omega
 rw [e1]
 simp only [go_sem]
 refine sops_end (by kernel_rfl) fun K hK=>?_
 simp only [go_sem,List.drop_succ_cons,List.drop_zero,List.append_eq,List.cons_append,List.nil_append];(try simp (disch:=omega) only [zI]);repeat first | intro _ | refine ⟨by omega,?_⟩
 refine hK _ ?_;clear hK K;refine zw (zk [7,8]) ?_;simp only [go_sem]
 have e2 : List.take 0 (List.replicate n z2) ++ (List.take 1 [spR x] ++ List.drop (0 + 1) (List.replicate n z2)) = List.replicate 1 (spR x) ++ List.replicate (n - 1) z2:=by
  simp [List.drop_replicate]
 try rw [e2]
 repeat refine zq ?_
 refine zd ?_
 refine awp_whileV (n:=48) (fun (j : Nat) vs=>[(7,.os 30 (vs 30) 2 0 n),(8,.r (i64 (j : Int)))]) (fun j vs=>[(30,.arr 30 2 (List.replicate j (spR x) ++ List.replicate (n - j) z2))]) (fun j=>1 ≤ j ∧ j ≤ n) (fun j=>n - j) 1 (zj [] ?_ ?_) (by omega) ?_
 · try simp only [go_sem]
   try rfl
 · try simp only [go_sem]
   try simp [List.drop_replicate]
 · rintro j vs ⟨hj1,hjn⟩
   repeat refine zq ?_
   refine zb fun K hK=>?_;simp only [go_sem];(try simp (disch:=omega) only [zI]);repeat first | intro _ | refine ⟨by omega,?_⟩
   refine hK _ ?_;clear hK K;refine zw (zk [7,8,37]) ?_;simp only [go_sem]
   repeat refine zq ?_
   refine zc rfl (fun hc=>?_) (fun hc=>?_) <;> (try simp only [go_sem] at hc)
   · have hcj : j < n:=by omega
     have hcp:=copy_step (spR x) hjn
     obtain ⟨L,hL⟩ : ∃ L,L = List.replicate j (spR x) ++ List.replicate (n - j) z2:=⟨_,rfl⟩
     obtain ⟨L2,hL2⟩ : ∃ L2,L2 = List.replicate (j + min j (n - j)) (spR x) ++ List.replicate (n - (j + min j (n - j))) z2:=⟨_,rfl⟩
     rw [← hL,← hL2] at hcp
     have hLl : L.length = n:=by rw [hL]; simp; omega
     have hcm : min ((L.drop 0).take j).length (n - j) = min j (n - j):=by rw [List.drop_zero,List.length_take,hLl]; omega
     have hwa : IntKind.i64.wrap ((j : Int) + ((min j (n - j) : Nat) : Int)) = ((j + min j (n - j) : Nat) : Int):=by rw [zI] <;> omega
     rw [← hL]
     refine zx ?_
     try simp only [go_sem]
     repeat refine zq ?_
     refine zd ?_
     refine awp_invG (n:=48) (reF n j) (fun b vs=>[(30,.arr 30 2 (bif b 7 then L2 else L))]) follows (by kernel_rfl) (by kernel_rfl) (by decide +kernel) (zj [] ?_ ?_) ?_ ?_
     · simp only [go_sem,reF,vI,if_true,if_false,Bool.false_eq_true,cond_false]
     · simp only [go_sem,cond_false]
     · refine ⟨fun b vs hdn hbk hde=>gop_xop ?_,fun b vs hdn hbk hde=>gop_xop ?_,fun b vs hdn hbk hde=>gop_xop ?_,fun b vs hdn hbk hde=>gop_xop ?_,fun b vs hdn hbk hde=>gop_xop ?_,fun b vs hdn hbk hde=>gop_xop ?_,fun b vs hdn hbk hde=>gop_xop ?_,fun b vs hdn hbk hde=>?_,fun b vs hdn hbk hde=>gop_xop ?_,fun b vs hdn hbk hde=>gop_xop ?_,trivial⟩
       · skip
         have G:=dnT hdn hbk [8,9] (by decide +kernel)
         simp only [allB,and_true] at G
         cases g7 : b 7
         all_goals (simp only [go_sem,reF,cond_true,upd,vI,cond_true,cond_false,if_true,Bool.false_eq_true,if_false,hbk,G,g7,hLl,hwa,Nat.zero_add,Nat.add_zero,Nat.sub_zero,Int.toNat_natCast])
         all_goals (refine zj [] ?_ ?_ <;> (simp only [go_sem,reF,cond_true,upd,vI,cond_true,cond_false,if_true,Bool.false_eq_true,if_false,hbk,G,g7,hLl,hwa,Nat.zero_add,Nat.add_zero,Nat.sub_zero,Int.toNat_natCast]))
       · skip
         have G:=dnT hdn hbk [3,9,7,8] (by decide +kernel)
         simp only [allB,and_true] at G
         (simp only [go_sem,reF,cond_true,upd,vI,cond_true,cond_false,if_true,Bool.false_eq_true,if_false,hbk,G,hLl,hwa,Nat.zero_add,Nat.add_zero,Nat.sub_zero,Int.toNat_natCast])
         all_goals (refine zj [] ?_ ?_ <;> (simp only [go_sem,reF,cond_true,upd,vI,cond_true,cond_false,if_true,Bool.false_eq_true,if_false,hbk,G,hLl,hwa,Nat.zero_add,Nat.add_zero,Nat.sub_zero,Int.toNat_natCast]))
       · skip
         have G:=dnT hdn hbk [3,9,7,8] (by decide +kernel)
         simp only [allB,and_true] at G
         (simp only [go_sem,reF,cond_true,upd,vI,cond_true,cond_false,if_true,Bool.false_eq_true,if_false,hbk,G,hLl,hwa,Nat.zero_add,Nat.add_zero,Nat.sub_zero,Int.toNat_natCast])
         all_goals (refine zj [] ?_ ?_ <;> (simp only [go_sem,reF,cond_true,upd,vI,cond_true,cond_false,if_true,Bool.false_eq_true,if_false,hbk,G,hLl,hwa,Nat.zero_add,Nat.add_zero,Nat.sub_zero,Int.toNat_natCast]))
       · skip
         have H:=upT hdn hde [1,2] (by decide +kernel)
         have G:=dnT hdn hbk [7,9,8] (by decide +kernel)
         simp only [allB,and_true] at H G
         (simp only [go_sem,reF,cond_true,upd,vI,cond_true,cond_false,if_true,Bool.false_eq_true,if_false,hbk,H,G,hLl,hwa,Nat.zero_add,Nat.add_zero,Nat.sub_zero,Int.toNat_natCast])
         all_goals (try refine ⟨by omega,?_⟩)
         all_goals (try simp only [go_sem])
         all_goals (refine zj [] ?_ ?_ <;> (simp only [go_sem,reF,cond_true,upd,vI,cond_true,cond_false,if_true,Bool.false_eq_true,if_false,hbk,H,G,hLl,hwa,Nat.zero_add,Nat.add_zero,Nat.sub_zero,Int.toNat_natCast]))
       · skip
         have G:=dnT hdn hbk [6,9,7,8] (by decide +kernel)
         simp only [allB,and_true] at G
         (simp only [go_sem,reF,cond_true,upd,vI,cond_true,cond_false,if_true,Bool.false_eq_true,if_false,hbk,G,hLl,hwa,Nat.zero_add,Nat.add_zero,Nat.sub_zero,Int.toNat_natCast])
         all_goals (refine zj [] ?_ ?_ <;> (simp only [go_sem,reF,cond_true,upd,vI,cond_true,cond_false,if_true,Bool.false_eq_true,if_false,hbk,G,hLl,hwa,Nat.zero_add,Nat.add_zero,Nat.sub_zero,Int.toNat_natCast]))
       · skip
         have G:=dnT hdn hbk [6,9,7,8] (by decide +kernel)
         simp only [allB,and_true] at G
         (simp only [go_sem,reF,cond_true,upd,vI,cond_true,cond_false,if_true,Bool.false_eq_true,if_false,hbk,G,hLl,hwa,Nat.zero_add,Nat.add_zero,Nat.sub_zero,Int.toNat_natCast])
         all_goals (refine zj [] ?_ ?_ <;> (simp only [go_sem,reF,cond_true,upd,vI,cond_true,cond_false,if_true,Bool.false_eq_true,if_false,hbk,G,hLl,hwa,Nat.zero_add,Nat.add_zero,Nat.sub_zero,Int.toNat_natCast]))
       · skip
         have H:=upT hdn hde [4,5] (by decide +kernel)
         have G:=dnT hdn hbk [7,9,8] (by decide +kernel)
         simp only [allB,and_true] at H G
         (simp only [go_sem,reF,cond_true,upd,vI,cond_true,cond_false,if_true,Bool.false_eq_true,if_false,hbk,H,G,hLl,hwa,Nat.zero_add,Nat.add_zero,Nat.sub_zero,Int.toNat_natCast])
         all_goals (try refine ⟨by omega,?_⟩)
         all_goals (try simp only [go_sem])
         all_goals (refine zj [] ?_ ?_ <;> (simp only [go_sem,reF,cond_true,upd,vI,cond_true,cond_false,if_true,Bool.false_eq_true,if_false,hbk,H,G,hLl,hwa,Nat.zero_add,Nat.add_zero,Nat.sub_zero,Int.toNat_natCast]))
       · skip
         have H:=upT hdn hde [3,6,1,2,4,5] (by decide +kernel)
         have G:=dnT hdn hbk [8,9] (by decide +kernel)
         simp only [allB,and_true] at H G
         (simp only [go_sem,reF,cond_true,upd,vI,cond_true,cond_false,if_true,Bool.false_eq_true,if_false,hbk,H,G,hLl,hwa,Nat.zero_add,Nat.add_zero,Nat.sub_zero,Int.toNat_natCast])
         refine gop_copyS rfl ty33 (k:=30) (off:=j) (m:=n - j) (es:=L) (ns:=(L.drop 0).take j) (c:=vs 30 = vs 30 ∧ (2 : Nat) = 2 ∧ 0 + j ≤ L.length) rfl rfl rfl ⟨rfl,rfl,by omega⟩ (by omega) (by omega) (by intro e; have h9:=congrArg List.length e; rw [List.drop_zero,List.length_take,hLl,List.length_nil] at h9; omega) ?_
         rw [hcp,hcm]
         simp only [go_sem]
         refine zj [] ?_ ?_ <;> simp only [go_sem,reF,upd,vI,cond_true,cond_false,if_true,Bool.false_eq_true,if_false,hbk,H,G]
       · skip
         have H:=upT hdn hde [0,7,3,6,1,2,4,5] (by decide +kernel)
         have G:=dnT hdn hbk [9] (by decide +kernel)
         simp only [allB,and_true] at H G
         (simp only [go_sem,reF,cond_true,upd,vI,cond_true,cond_false,if_true,Bool.false_eq_true,if_false,hbk,H,G,hLl,hwa,Nat.zero_add,Nat.add_zero,Nat.sub_zero,Int.toNat_natCast])
         all_goals (refine zj [] ?_ ?_ <;> (simp only [go_sem,reF,cond_true,upd,vI,cond_true,cond_false,if_true,Bool.false_eq_true,if_false,hbk,H,G,hLl,hwa,Nat.zero_add,Nat.add_zero,Nat.sub_zero,Int.toNat_natCast]))
       · skip
         have H:=upT hdn hde [0,1,2,3,4,5,6,7,7,8,8] (by decide +kernel)
         simp only [allB,and_true] at H
         (simp only [go_sem,reF,cond_true,upd,vI,cond_true,cond_false,if_true,Bool.false_eq_true,if_false,hbk,H,hLl,hwa,Nat.zero_add,Nat.add_zero,Nat.sub_zero,Int.toNat_natCast])
         all_goals (refine zj [] ?_ ?_ <;> (simp only [go_sem,reF,cond_true,upd,vI,cond_true,cond_false,if_true,Bool.false_eq_true,if_false,hbk,H,hLl,hwa,Nat.zero_add,Nat.add_zero,Nat.sub_zero,Int.toNat_natCast]))
     intro b vs hb
     simp only [go_sem,reF,vI,hb,if_true,cond_true]
     try simp only [go_sem]
     refine ⟨j + min j (n - j),⟨by omega,by omega⟩,by omega,zj [] ?_ ?_⟩
     · try simp only [go_sem]
     · simp only [go_sem,hL2]
   · have hjn2 : j = n:=by omega
     subst hjn2
     refine zf ?_;simp only [go_sem]
     have e3 : List.replicate j (spR x) ++ List.replicate (j - j) z2 = List.replicate j (spR x):=by simp
     rw [e3]
     repeat refine zq ?_
     refine zb fun K hK=>?_;simp only [go_sem];(try simp (disch:=omega) only [zI]);repeat first | intro _ | refine ⟨by omega,?_⟩
     refine hK _ ?_;clear hK K;refine zw (zk [4]) ?_;simp only [go_sem];refine ze ?_
     try simp only [go_sem]
     exact ⟨30,_,rfl,rfl⟩
theorem truths_wf {r : Tr} (hr : RulesI r) : ∀ (left : List Mt) (B : Int) (t : Th),0 ≤ B → t.res.length + left.length ≤ 400 → WfT B t → ∀ t' ∈ truthsV r left t,WfT (B + 9 * left.length) t'
 | [], B, t, hB, hl, ht, t', h => by
   simp only [truthsV,List.mem_singleton] at h
   subst h
   simpa using ht
 | m :: ms, B, t, hB, hl, ht, t', h => by
   simp only [truthsV,List.mem_flatMap] at h
   obtain ⟨x,_,h⟩:=h
   simp only [List.length_cons] at hl
   have:=truths_wf hr ms (B + 9) (nextT r m x t) (by omega) (by simp [nextT]; omega) (ht.next hB hr (by omega)) t' h
   have e : B + 9 * ((m :: ms).length : Int) = B + 9 + 9 * (ms.length : Int):=by simp; omega
   rw [e]; exact this
def truthsL (r : Tr) (l : List Mt) : List Th:=truthsV r (leftV l) (startT r l)
theorem truthsL_wf {r : Tr} (hr : RulesI r) {l : List Mt} (hl : ∀ m ∈ l,MatchI r m) (hll : l.length ≤ 180) : ∀ t ∈ truthsL r l,WfT (6000 + 9 * (leftV l).length) t :=
 truths_wf hr (leftV l) 6000 (startT r l) (by omega) (by have:=left_len l; simp [startT]; omega) (wf_start hr hl hll)
def spanS (n x : Nat) (s : Int × Int) (t : Th) : Int × Int:=(min s.1 (placesV n t x).1,max s.2 (placesV n t x).2)
def spanF (n : Nat) (ts : List Th) (x : Nat) : Int × Int:=ts.foldl (spanS n x) ((n : Int),0)
theorem spanF_snoc (n : Nat) (ts : List Th) (t : Th) (x : Nat) : spanF n (ts ++ [t]) x = spanS n x (spanF n ts x) t:=by simp [spanF]
def spansL (r : Tr) (l : List Mt) : List (Int × Int):=(List.range (nT r)).map (spanF (nT r) (truthsL r l))
def errV (r : Tr) (l : List Mt) : Int:=if (checkV r l).2 = 0 then fullV l else (checkV r l).2
def mixS (n : Nat) (A B : Nat → Int × Int) (j : Nat) : List (Int × Int):=(List.range n).map fun x=>if x < j then A x else B x
theorem mixS_zero (n : Nat) (A B : Nat → Int × Int) : mixS n A B 0 = (List.range n).map B:=by simp [mixS]
theorem mixS_full (n : Nat) (A B : Nat → Int × Int) : mixS n A B n = (List.range n).map A:=List.map_congr_left fun x hx=>by rw [if_pos (List.mem_range.1 hx)]
theorem mixS_get {n : Nat} {A B : Nat → Int × Int} {j : Nat} (h : j < n) : (mixS n A B j)[j]? = some (B j):=by
 unfold mixS; rw [List.getElem?_map,List.getElem?_range h,Option.map_some,if_neg (by omega)]
theorem mixS_set {n : Nat} {A B : Nat → Int × Int} {j : Nat} (h : j < n) : (mixS n A B j).set j (A j) = mixS n A B (j + 1):=by
 refine List.ext_getElem? fun k=>?_
 unfold mixS
 by_cases hk : k < n
 · by_cases e : k = j
   · subst e
     rw [List.getElem?_set_self (by simpa using hk),List.getElem?_map,List.getElem?_range hk,Option.map_some,if_pos (by omega)]
   · rw [List.getElem?_set_ne (fun e'=>e e'.symm),List.getElem?_map,List.getElem?_map,List.getElem?_range hk,Option.map_some,Option.map_some]
     congr 1
     by_cases hkj : k < j
     · rw [if_pos hkj,if_pos (by omega)]
     · rw [if_neg hkj,if_neg (by omega)]
 · rw [List.getElem?_eq_none (by simp; omega),List.getElem?_eq_none (by simp; omega)]
theorem mixS_len {n : Nat} {A B : Nat → Int × Int} {j : Nat} : (mixS n A B j).length = n:=by simp [mixS]
theorem Places_ok (r : Tr) (l : List Mt) (hw : Wf r l) : ACalls Try.prog 85 [trV r,mtsR l] (.tu [if errV r l = 0 then .sl 2 ((spansL r l).map spR) else .ns,i64 (errV r l)]):=by
 have hch:=check_ok r l hw
 refine acalls_stR (rs:=[if errV r l = 0 then .sl 2 ((spansL r l).map spR) else .ns,i64 (errV r l)]) [.cell 4 33,.tmp 5] Try.func85 rfl (by kernel_rfl) Try.ntmps85 rfl (by simp) rfl fun C hC vs=>?_
 repeat refine zq ?_
 refine zb fun K hK=>?_;simp only [go_sem];(try simp (disch:=omega) only [zI]);repeat first | intro _ | refine ⟨by omega,?_⟩
 refine hK _ ?_;clear hK K;refine zw (sub_frzP 2 2 (trC r) (by omega) rfl rfl) ?_;refine zw (zk [1,2,4]) ?_;simp only [go_sem]
 repeat refine zq ?_
 refine zb fun K hK=>?_;simp only [go_sem];(try simp (disch:=omega) only [zI])
 refine zh (hch) rfl (by simp only [go_sem,i64,ints]) (by simp only [go_sem,i64,ints]) (by first | exact .inl rfl | exact .inr rfl) ?_
 (try simp only [go_sem]);(try simp (disch:=omega) only [zI]);repeat first | intro _ | refine ⟨by omega,?_⟩
 refine hK _ ?_;clear hK K;refine zw (zk [1,2,4,7]) ?_;simp only [go_sem]
 repeat refine zq ?_
 refine zb fun K hK=>?_;simp only [go_sem];(try simp (disch:=omega) only [zI]);repeat first | intro _ | refine ⟨by omega,?_⟩
 refine hK _ ?_;clear hK K;refine zw (zk [1,2,4,7,21]) ?_;simp only [go_sem]
 repeat refine zq ?_
 refine zc rfl (fun hc=>?_) (fun hc=>?_) <;> (try simp only [go_sem] at hc)
 · have he : ¬ (checkV r l).2 = 0:=by simpa using hc
   have hee : errV r l = (checkV r l).2:=by unfold errV; rw [if_neg he]
   rw [hee,if_neg he]
   repeat refine zq ?_
   refine zb fun K hK=>?_;simp only [go_sem];(try simp (disch:=omega) only [zI]);repeat first | intro _ | refine ⟨by omega,?_⟩
   refine hK _ ?_;clear hK K;refine zw (zk [4,5]) ?_;simp only [go_sem];refine ze ?_;simp only [go_sem]
 have he : (checkV r l).2 = 0:=by simpa using hc
 have hee : errV r l = fullV l:=by unfold errV; rw [if_pos he]
 obtain ⟨h1,hr,h3,h4⟩:=checkV_zero he
 obtain ⟨hn,hn2,hn10⟩:=nT_eq hr
 rw [hee]
 refine zx ?_
 try simp only [go_sem]
 repeat refine zq ?_
 refine zb fun K hK=>?_;simp only [go_sem];(try simp (disch:=omega) only [zI]);repeat first | intro _ | refine ⟨by omega,?_⟩
 refine hK _ ?_;clear hK K;refine zw (sub_frzP 8 8 (dvC r l) (by omega) rfl rfl) ?_;refine zw (zk [2,4,8]) ?_;simp only [go_sem]
 repeat refine zq ?_
 refine zb fun K hK=>?_;simp only [go_sem];(try simp (disch:=omega) only [zI])
 refine zh (full_ok r l h1) rfl (by simp only [go_sem,i64,ints]) (by simp only [go_sem,i64,ints]) (by first | exact .inl rfl | exact .inr rfl) ?_
 (try simp only [go_sem]);(try simp (disch:=omega) only [zI]);repeat first | intro _ | refine ⟨by omega,?_⟩
 refine hK _ ?_;clear hK K;refine zw (zk [2,4,8,9]) ?_;simp only [go_sem]
 repeat refine zq ?_
 refine zb fun K hK=>?_;simp only [go_sem];(try simp (disch:=omega) only [zI]);repeat first | intro _ | refine ⟨by omega,?_⟩
 refine hK _ ?_;clear hK K;refine zw (zk [2,4,8,9,29]) ?_;simp only [go_sem]
 repeat refine zq ?_
 refine zc rfl (fun hc=>?_) (fun hc=>?_) <;> (try simp only [go_sem] at hc)
 · have hf : ¬ fullV l = 0:=by simpa using hc
   rw [if_neg hf]
   repeat refine zq ?_
   refine zb fun K hK=>?_;simp only [go_sem];(try simp (disch:=omega) only [zI]);repeat first | intro _ | refine ⟨by omega,?_⟩
   refine hK _ ?_;clear hK K;refine zw (zk [4,5]) ?_;simp only [go_sem];refine ze ?_;simp only [go_sem]
 have hf : fullV l = 0:=by simpa using hc
 rw [if_pos hf,hf]
 refine zx ?_
 try simp only [go_sem]
 have hrp:=repeat_ok ((nT r : Int),0) (nT r) (by simp only [List.mem_cons,List.not_mem_nil,or_false]; omega)
 have hit:=truths_it r hr l h3 h1
 have hwf:=truthsL_wf hr h3 h1
 have hts : truthsV r (leftV l) (startT r l) = truthsL r l:=rfl
 have hsL : spansL r l = (List.range (nT r)).map (spanF (nT r) (truthsL r l)):=rfl
 rw [hts] at hit
 rw [hsL]
 generalize truthsL r l = ts at *
 have hn' : r.teams = (nT r : Int):=hn.symm
 repeat refine zq ?_
 refine zb fun K hK=>?_;simp only [go_sem,hn'];(try simp (disch:=omega) only [zI])
 refine xcall_own (hrp) rfl (by simp only [go_sem,i64,ints,hn']) (by simp only [go_sem,i64,ints,hn']) (by decide) (by intro h; first | (cases h; done) | rfl) ?_
 (try simp only [go_sem,hn']);(try simp (disch:=omega) only [zI]);repeat first | intro _ | refine ⟨by omega,?_⟩
 refine hK _ ?_;clear hK K;refine zw (zk [4,8]) ?_;simp only [go_sem]
 have e0 : List.replicate (nT r) (spR ((nT r : Int),0)) = ((List.range (nT r)).map (spanF (nT r) (ts.take 0))).map spR:=by
  rw [List.map_map,List.take_zero]
  refine (List.eq_replicate_iff.2 ⟨by simp,fun b hb=>?_⟩).symm
  obtain ⟨x,_,rfl⟩:=List.mem_map.1 hb
  rfl
 rw [e0]
 repeat refine zq ?_
 refine awp_long ?_
 refine sops_take 1 (by kernel_rfl) fun K hK=>?_
 simp only [go_sem,List.take_succ_cons,List.take_zero,List.drop_succ_cons,List.drop_zero,List.append_eq,List.cons_append,List.nil_append];(try simp (disch:=omega) only [zI]);repeat first | intro _ | refine ⟨by omega,?_⟩
 refine hK _ rfl ?_
 clear hK K
 refine sops_sub (zk [4,8,38]) ?_
 simp only [go_sem]
 refine sops_gop rfl (by intro t h; injection h with h; subst h; show 39 < 68; decide) (by intro c h; cases h) (gop_method rfl rfl ?_)
 try simp only [go_sem]
 refine sops_end (by kernel_rfl) fun K hK=>?_
 simp only [go_sem,List.drop_succ_cons,List.drop_zero,List.append_eq,List.cons_append,List.nil_append];(try simp (disch:=omega) only [zI]);repeat first | intro _ | refine ⟨by omega,?_⟩
 refine hK _ ?_;clear hK K;refine zw (zk [4,8,39]) ?_;simp only [go_sem]
 repeat refine zq ?_
 refine zd ?_
 refine awp_rangeFB hC (ts.map fun t=>[thV t]) hit [4,8,39] (by decide) (fun vs=>[(4,.pt 4 (vs 4) 0),(8,.r (.rp (dvC r l))),(39,.r (.bf 153 [dvV r l]))])
  (fun i vs=>[(4,.box [.os 37 (vs 37) 2 0 (nT r)]),(37,.arr 30 2 (((List.range (nT r)).map (spanF (nT r) (ts.take i))).map spR))])
  (fun i=>True) (zj [] ?_ ?_) trivial (fun _=>rfl) (fun _=>rfl) (fun _ _=>rfl) (by simp) (fun e he=>by obtain ⟨t,_,rfl⟩:=List.mem_map.1 he; rfl) ?_ ?_
 · try simp only [go_sem]
 · try simp only [go_sem]
 · intro i e vs us C he _
   rw [List.getElem?_map] at he
   obtain ⟨t,ht,rfl⟩ : ∃ t,ts[i]? = some t ∧ e = [thV t]:=by
    cases hx : ts[i]? with
    | none=>rw [hx] at he; cases he
    | some t=>rw [hx] at he; exact ⟨t,rfl,by simpa using he.symm⟩
   have hwt:=hwf t (mem_of_opt ht)
   have h21:=thC_len hwt
   repeat refine zq ?_
   refine zb fun K hK=>?_;simp only [go_sem,h21];(try simp (disch:=omega) only [zI]);repeat first | intro _ | refine ⟨by omega,?_⟩
   refine hK _ ?_;clear hK K
   refine ⟨rfl,fun C'=>?_⟩
   refine zw (sub_frzP 10 10 (thC t) (by omega) rfl rfl) ?_;refine zw (zk [4,8,10]) ?_;simp only [go_sem]
   repeat refine zq ?_
   refine zd ?_
   have hst : ∀ x,spanF (nT r) (ts.take (i + 1)) x = spanS (nT r) x (spanF (nT r) (ts.take i) x) t:=fun x=>by rw [take_of_opt ht,spanF_snoc]
   rw [← mixS_zero (nT r) (spanF (nT r) (ts.take (i + 1)))]
   have hml : ∀ j,(mixS (nT r) (spanF (nT r) (ts.take (i + 1))) (spanF (nT r) (ts.take i)) j).length = nT r:=fun j=>mixS_len
   repeat refine zq ?_
   refine zb fun K hK=>?_;simp only [go_sem];(try simp (disch:=omega) only [zI]);repeat first | intro _ | refine ⟨by omega,?_⟩
   refine hK _ ?_;clear hK K;refine zw (zk [4,8,10,41,42,43]) ?_;simp only [go_sem]
   repeat refine zq ?_
   refine zd ?_
   refine awp_uptoV (n:=68) (nT r) (fun j ws=>[(4,.pt 4 (ws 4) 0),(8,.r (.rp (dvC r l))),(10,.r (.rp (thC t))),(41,.os 37 (ws 37) 2 0 (nT r)),(42,.r (i64 (nT r : Int))),(43,.r (i64 (j : Int)))])
    (fun j ws=>[(0,.sus [.pt 4 (ws 4) 0,.r (.rp (dvC r l)),.r (.bf 153 [dvV r l])] us),(4,.box [.os 37 (ws 37) 2 0 (nT r)]),(37,.arr 30 2 ((mixS (nT r) (spanF (nT r) (ts.take (i + 1))) (spanF (nT r) (ts.take i)) j).map spR))]) (fun _=>True) 0 (zj [] ?_ ?_) (Nat.zero_le _) trivial ?_
   · try simp only [go_sem]
   · try simp only [go_sem]
     rw [mixS_zero]
   · intro j ws hj _
     repeat refine zq ?_
     refine zb fun K hK=>?_;simp only [go_sem];(try simp (disch:=omega) only [zI]);repeat first | intro _ | refine ⟨by omega,?_⟩
     refine hK _ ?_;clear hK K;refine zw (zk [4,8,10,41,42,43,44]) ?_;simp only [go_sem]
     repeat refine zq ?_
     refine zc rfl (fun hc=>?_) (fun hc=>?_) <;> (try simp only [go_sem] at hc)
     · have hjn : j < nT r:=by omega
       have hg:=mixS_get (A:=spanF (nT r) (ts.take (i + 1))) (B:=spanF (nT r) (ts.take i)) hjn
       refine zx ?_
       try simp only [go_sem]
       repeat refine zq ?_
       refine zd ?_
       repeat refine zq ?_
       refine zb fun K hK=>?_;simp only [go_sem,hg];(try simp (disch:=omega) only [zI]);repeat first | intro _ | refine ⟨by omega,?_⟩
       refine hK _ ?_;clear hK K;refine zw (sub_frzP 12 12 (spR (spanF (nT r) (ts.take i) j)) (by omega) rfl rfl) ?_;refine zw (zk [4,8,10,11,12,41,42,43]) ?_;simp only [go_sem]
       have htk : List.take 21 (thC t) = thC t:=List.take_of_length_le (by omega)
       repeat refine zq ?_
       refine zb fun K hK=>?_;simp only [go_sem,h21];(try simp (disch:=omega) only [zI])
       refine zh (places_ok r hr l t hwt j hjn) rfl (by simp only [go_sem,i64,ints,htk,dvV,dvC,trC,trV,thV]) (by simp only [go_sem,i64,ints,htk,dvV,dvC,trC,trV,thV]) (by first | exact .inl rfl | exact .inr rfl) ?_
       (try simp only [go_sem,htk,dvV,dvC,trC,trV,thV]);(try simp (disch:=omega) only [zI]);repeat first | intro _ | refine ⟨by omega,?_⟩
       refine hK _ ?_;clear hK K;refine zw (sub_frzP 13 13 (spR (placesV (nT r) t j)) (by omega) rfl rfl) ?_;refine zw (zk [4,8,10,11,12,13,41,42,43]) ?_;simp only [go_sem]
       have hsj : spR (min (spanF (nT r) (ts.take i) j).1 (placesV (nT r) t j).1,max (spanF (nT r) (ts.take i) j).2 (placesV (nT r) t j).2) = spR (spanF (nT r) (ts.take (i + 1)) j):=by rw [hst j]; rfl
       repeat refine zq ?_
       refine zb fun K hK=>?_;simp only [go_sem,hml];(try simp (disch:=omega) only [zI]);repeat first | intro _ | refine ⟨by omega,?_⟩
       refine hK _ ?_;clear hK K;refine zw (zk [4,8,10,41,42,43]) ?_;simp only [go_sem]
       repeat refine zq ?_
       refine zb fun K hK=>?_;simp only [go_sem];(try simp (disch:=omega) only [zI]);repeat first | intro _ | refine ⟨by omega,?_⟩
       refine hK _ ?_;clear hK K
       try simp only [go_sem]
       refine ⟨by omega,zj [] ?_ ?_⟩
       · try simp only [go_sem]
       · try simp only [go_sem]
         have hmp : (mixS (nT r) (spanF (nT r) (ts.take (i + 1))) (spanF (nT r) (ts.take i)) (j + 1)).map spR = ((mixS (nT r) (spanF (nT r) (ts.take (i + 1))) (spanF (nT r) (ts.take i)) j).map spR).set j (spR (spanF (nT r) (ts.take (i + 1)) j)):=by rw [← mixS_set hjn,List.map_set]
         rw [hmp,hg,← hsj]
         rfl
     · have hjn : j = nT r:=by omega
       subst hjn
       rw [mixS_full]
       refine zf ?_;simp only [go_sem]
       try simp only [go_sem]
       refine zj (F:=fun _=>[]) [10,41,42,43] (by try simp only [go_sem]) ?_
       try simp only [go_sem]
 · intro vs us _
   try simp only [go_sem]
   refine zw (sub_wake rfl) ?_;rw [List.take_length]
   repeat refine zq ?_
   refine zb fun K hK=>?_;simp only [go_sem];(try simp (disch:=omega) only [zI]);repeat first | intro _ | refine ⟨by omega,?_⟩
   refine hK _ ?_;clear hK K;refine zw (zk [4,5]) ?_;simp only [go_sem];refine zw (sub_frzB 4 0 37 (by omega) (by omega) rfl rfl rfl (by simp)) ?_;refine ze ?_;simp only [go_sem];exact List.take_of_length_le (by simp)
def upV (r : Tr) (s : Int × Int) : Int:=if s.2 ≤ r.up then 2 else if s.1 > r.up then 0 else 1
def dnV (r : Tr) (s : Int × Int) : Int:=if s.1 > r.teams - r.down then 2 else if s.2 ≤ r.teams - r.down then 0 else 1
def fateR (r : Tr) (s : Int × Int) : List RV:=[i64 (upV r s),i64 (dnV r s)]
def tpOk (r : Tr) (team place : Int) : Bool:=withinL 0 (r.teams - 1) [team] && withinL 1 r.teams [place]
def openV (r : Tr) (l : List Mt) (team place : Int) : Int :=
 if (checkV r l).2 ≠ 0 then (checkV r l).2 else if tpOk r team place then fullV l else 3
theorem open_ok (r : Tr) (l : List Mt) (hw : Wf r l) (team place : Int) : ACalls Try.prog 155 [trV r,mtsR l,i64 team,i64 place] (.tu [dvV r l,i64 (openV r l team place)]):=by
 have hch:=check_ok r l hw
 refine acalls_st (rs:=[dvV r l,i64 (openV r l team place)]) [.cell 8 227,.tmp 9] Try.func155 rfl (by kernel_rfl) Try.ntmps155 rfl (by simp) rfl fun C vs=>?_
 repeat refine zq ?_
 refine zb fun K hK=>?_;simp only [go_sem];(try simp (disch:=omega) only [zI]);repeat first | intro _ | refine ⟨by omega,?_⟩
 refine hK _ ?_;clear hK K;refine zw (sub_frzP 4 4 (trC r) (by omega) rfl rfl) ?_;refine zw (zk [1,2,3,4,8]) ?_;simp only [go_sem]
 repeat refine zq ?_
 refine zb fun K hK=>?_;simp only [go_sem];(try simp (disch:=omega) only [zI]);repeat first | intro _ | refine ⟨by omega,?_⟩
 refine hK _ ?_;clear hK K;refine zw (sub_frzP 10 10 (dvC r l) (by omega) rfl rfl) ?_;refine zw (zk [1,2,3,4,8,10]) ?_;simp only [go_sem]
 repeat refine zq ?_
 refine zb fun K hK=>?_;simp only [go_sem];(try simp (disch:=omega) only [zI])
 refine zh (hch) rfl (by simp only [go_sem,i64,ints]) (by simp only [go_sem,i64,ints]) (by first | exact .inl rfl | exact .inr rfl) ?_
 (try simp only [go_sem]);(try simp (disch:=omega) only [zI]);repeat first | intro _ | refine ⟨by omega,?_⟩
 refine hK _ ?_;clear hK K;refine zw (zk [2,3,4,8,10,12]) ?_;simp only [go_sem]
 repeat refine zq ?_
 refine zd ?_
 repeat refine zq ?_
 refine zb fun K hK=>?_;simp only [go_sem];(try simp (disch:=omega) only [zI]);repeat first | intro _ | refine ⟨by omega,?_⟩
 refine hK _ ?_;clear hK K;refine zw (zk [2,3,4,8,10,12,22]) ?_;simp only [go_sem]
 repeat refine zq ?_
 refine zc rfl (fun hc=>?_) (fun hc=>?_) <;> (try simp only [go_sem] at hc)
 · have he : (checkV r l).2 ≠ 0:=by simpa using hc
   repeat refine zq ?_
   refine zb fun K hK=>?_;simp only [go_sem];(try simp (disch:=omega) only [zI]);repeat first | intro _ | refine ⟨by omega,?_⟩
   refine hK _ ?_;clear hK K;refine zw (zk [8,9]) ?_;simp only [go_sem];refine ze ?_;simp only [go_sem]
   unfold openV; rw [if_pos he]
 · have he : (checkV r l).2 = 0:=by simpa using hc
   obtain ⟨h1,hr,h3,h4⟩:=checkV_zero he
   have ht:=hr.teams
   repeat refine zq ?_
   refine zb fun K hK=>?_;simp only [go_sem];(try simp (disch:=omega) only [zI])
   refine zh (within_ok 0 (r.teams - 1) [team]) rfl (by simp only [go_sem,i64,ints]) (by simp only [go_sem,i64,ints]) (by first | exact .inl rfl | exact .inr rfl) ?_
   (try simp only [go_sem]);(try simp (disch:=omega) only [zI]);repeat first | intro _ | refine ⟨by omega,?_⟩
   refine hK _ ?_;clear hK K;refine zw (zk [3,4,8,10,27]) ?_;simp only [go_sem]
   repeat refine zq ?_
   refine awp_joinV (n:=45) (fun (_ : Unit) vs=>[(8,.pt 8 (vs 8) 0),(10,.r (.rp (dvC r l))),(27,.r (.bo (!tpOk r team place)))]) (fun _ vs=>[(8,.box [.r (i64 0),.r (i64 0),.r (i64 0),.r (i64 0),.r .ns,.r (i64 0),.r (i64 0),.r .ns])]) (fun _=>True) (fun _ h=>h) ?_ ?_
   · repeat refine zq ?_
     refine zc rfl (fun hc=>?_) (fun hc=>?_) <;> (try simp only [go_sem] at hc)
     · have hf : withinL 0 (r.teams - 1) [team] = false:=by simpa using hc
       have hv : (!tpOk r team place) = true:=by unfold tpOk; rw [hf]; rfl
       rw [hf,hv]
       refine zx ?_
       try simp only [go_sem]
       refine ⟨(),zj [] ?_ ?_⟩
       · try simp only [go_sem]
       · try simp only [go_sem]
     · have hf : withinL 0 (r.teams - 1) [team] = true:=by simpa using hc
       have hv : (!tpOk r team place) = !withinL 1 r.teams [place]:=by unfold tpOk; rw [hf]; rfl
       rw [hv]
       repeat refine zq ?_
       refine zb fun K hK=>?_;simp only [go_sem];(try simp (disch:=omega) only [zI])
       refine zh (within_ok 1 r.teams [place]) rfl (by simp only [go_sem,i64,ints]) (by simp only [go_sem,i64,ints]) (by first | exact .inl rfl | exact .inr rfl) ?_
       (try simp only [go_sem]);(try simp (disch:=omega) only [zI]);repeat first | intro _ | refine ⟨by omega,?_⟩
       refine hK _ ?_;clear hK K
       refine ⟨(),trivial,zj [] ?_ ?_⟩
       · try simp only [go_sem]
       · try simp only [go_sem]
   intro _ vs _
   repeat refine zq ?_
   refine zc rfl (fun hc=>?_) (fun hc=>?_) <;> (try simp only [go_sem] at hc)
   · have hf : tpOk r team place = false:=by simpa using hc
     have hov : openV r l team place = 3:=by unfold openV; rw [if_neg (not_not_intro he),hf]; rfl
     rw [hov]
     repeat refine zq ?_
     refine zb fun K hK=>?_;simp only [go_sem];(try simp (disch:=omega) only [zI]);repeat first | intro _ | refine ⟨by omega,?_⟩
     refine hK _ ?_;clear hK K;refine zw (zk [8,9]) ?_;simp only [go_sem];refine ze ?_;simp only [go_sem]
   · have hf : tpOk r team place = true:=by simpa using hc
     have hov : openV r l team place = fullV l:=by unfold openV; rw [if_neg (not_not_intro he),hf]; rfl
     rw [hov]
     refine zx ?_
     try simp only [go_sem]
     repeat refine zq ?_
     refine zg follows (by decide +kernel) (by kernel_rfl) fun K hK=>?_;simp only [go_sem];(try simp (disch:=omega) only [zI])
     refine zh (full_ok r l h1) rfl (by simp only [go_sem,i64,ints]) (by simp only [go_sem,i64,ints]) (by first | exact .inl rfl | exact .inr rfl) ?_
     (try simp only [go_sem]);(try simp (disch:=omega) only [zI]);repeat first | intro _ | refine ⟨by omega,?_⟩
     refine hK _ ?_;clear hK K;refine zw (zk [8,9]) ?_;simp only [go_sem];refine ze ?_;simp only [go_sem]
def spanOk (miss : Bool) (place : Int) (s : Int × Int) : Bool:=if miss then decide (s.2 > place) else decide (s.1 ≤ place)
def wayF (r : Tr) (team : Nat) (place : Int) (miss : Bool) (t : Th) : Bool:=spanOk miss place (placesV (nT r) t team)
def wayV (r : Tr) (l : List Mt) (team place : Int) (miss : Bool) : RV × Int :=
 if openV r l team place ≠ 0 then (.ns,openV r l team place)
 else match (truthsL r l).find? (wayF r team.toNat place miss) with
  | some t=>(ints t.res,0)
  | none=>(.ns,7)
theorem openV_zero {r : Tr} {l : List Mt} {team place : Int} (h : openV r l team place = 0) : ((checkV r l).2 = 0 ∧ fullV l = 0) ∧ (0 ≤ team ∧ team < r.teams) ∧ 1 ≤ place ∧ place ≤ r.teams:=by
 unfold openV at h
 by_cases hc : (checkV r l).2 = 0
 · rw [if_neg (not_not_intro hc)] at h
   by_cases ht : tpOk r team place = true
   · rw [if_pos ht] at h
     unfold tpOk at ht
     rw [Bool.and_eq_true,withinL_one,withinL_one] at ht
     exact ⟨⟨hc,h⟩,⟨ht.1.1,by omega⟩,ht.2⟩
   · rw [if_neg ht] at h; omega
 · rw [if_pos hc] at h; exact absurd h hc
abbrev encB (k : Int) : RV × RV:=(i64 k,.bo true)
theorem findB_new {k : Int} : ∀ {M : List Int} (i : Nat),k ∉ M → findK (i64 k) (M.map encB) i = some none
 | [],_,_=>rfl
 | e :: M, i, h => by
   simp only [List.mem_cons,not_or] at h
   have : (k == e) = false:=by simp [h.1]
   simp only [List.map_cons,findK,sameK,if_true,this];exact findB_new (i + 1) h.2
theorem findB_old {k : Int} : ∀ {M : List Int} (i : Nat),k ∈ M → ∃ j,findK (i64 k) (M.map encB) i = some (some (i + j,RV.bo true)) ∧ M[j]? = some k
 | [],_,h=>by simp at h
 | e :: M, i, h => by
   by_cases he : k = e
   · subst he
     exact ⟨0,by simp [findK,sameK],rfl⟩
   · have hb : (k == e) = false:=by simp [he]
     obtain ⟨j,h1,h2⟩:=findB_old (i + 1) ((List.mem_cons.1 h).resolve_left he)
     refine ⟨j + 1,?_,by simpa using h2⟩
     simp only [List.map_cons,findK,sameK,if_true,hb];rw [show i + (j + 1) = i + 1 + j by omega]
     exact h1
theorem erase_map {α β : Type} (f : α → β) (L : List α) (j : Nat) : (L.map f).eraseIdx j = (L.eraseIdx j).map f:=by
 rw [List.eraseIdx_eq_take_drop_succ,List.eraseIdx_eq_take_drop_succ,List.map_append,List.map_take,List.map_drop]
def insK (M : List Int) (k : Int) : List Int:=if k ∈ M then M else M ++ [k]
def canF (x : Nat) (ts : List Th) : List Int:=ts.foldl (fun M t=>insK M (t.won.getD x 0)) []
def missS (n x : Nat) (place : Int) (a : Int) (t : Th) : Int:=if (placesV n t x).2 > place then max a (t.won.getD x 0) else a
def missF (n x : Nat) (place : Int) (ts : List Th) : Int:=ts.foldl (missS n x place) (-1)
theorem canF_snoc (x : Nat) (ts : List Th) (t : Th) : canF x (ts ++ [t]) = insK (canF x ts) (t.won.getD x 0):=by simp [canF]
theorem missF_snoc (n x : Nat) (place : Int) (ts : List Th) (t : Th) : missF n x place (ts ++ [t]) = missS n x place (missF n x place ts) t:=by simp [missF]
theorem snoc_ind {α : Type} {P : List α → Prop} (h0 : P []) (h1 : ∀ l a,P l → P (l ++ [a])) (l : List α) : P l:=by
 have : ∀ n,∀ l : List α,l.length = n → P l:=by
  intro n
  induction n with
  | zero=>intro l h; rw [List.length_eq_zero_iff.1 h]; exact h0
  | succ n ih =>
    intro l h
    have hne : l ≠ []:=by rintro rfl; simp at h
    rw [← List.dropLast_concat_getLast hne]
    exact h1 _ _ (ih _ (by rw [List.length_dropLast]; omega))
 exact this _ l rfl
theorem missF_ge (n x : Nat) (place : Int) : ∀ ts : List Th,-1 ≤ missF n x place ts:=by
 intro ts
 induction ts using snoc_ind with
 | h0=>simp [missF]
 | h1 ts t ih=>rw [missF_snoc]; unfold missS; split <;> omega
def bestV (m : Int) (M : List Int) : Int:=match (M.filter fun n=>decide (n > m)).min? with | some p=>p | none=>-1
def BestP (m : Int) (M : List Int) (p : Int) : Prop:=(p = -1 ∧ ∀ n ∈ M,¬ n > m) ∨ (p ∈ M ∧ p > m ∧ ∀ n ∈ M,n > m → p ≤ n)
theorem bestV_eq {m : Int} {M : List Int} {p : Int} (h : BestP m M p) : bestV m M = p:=by
 unfold bestV
 rcases h with ⟨rfl,h⟩ | ⟨h1,h2,h3⟩
 · have : (M.filter fun n=>decide (n > m)) = []:=List.filter_eq_nil_iff.2 fun n hn=>by simpa using h n hn
   rw [this]; rfl
 · have : (M.filter fun n=>decide (n > m)).min? = some p:=by
    rw [List.min?_eq_some_iff]
    refine ⟨List.mem_filter.2 ⟨h1,by simpa using h2⟩,fun n hn=>?_⟩
    obtain ⟨a,b⟩:=List.mem_filter.1 hn
    exact h3 n a (by simpa using b)
   rw [this]
def LoopP (m : Int) (M L : List Int) (p : Int) : Prop:=(∀ n ∈ L,n ∈ M) ∧ ((p = -1 ∧ ∀ n ∈ M,n ∈ L ∨ ¬ n > m) ∨ (p ∈ M ∧ p > m ∧ ∀ n ∈ M,n > m → n ∈ L ∨ p ≤ n))
theorem loop_start (m : Int) (M : List Int) : LoopP m M M (-1):=⟨fun _ h=>h,.inl ⟨rfl,fun _ h=>.inl h⟩⟩
theorem loop_end {m : Int} {M : List Int} {p : Int} (h : LoopP m M [] p) : BestP m M p:=by
 rcases h.2 with ⟨a,b⟩ | ⟨a,b,c⟩
 · exact .inl ⟨a,fun n hn=>(b n hn).resolve_left (by simp)⟩
 · exact .inr ⟨a,b,fun n hn hm=>(c n hn hm).resolve_left (by simp)⟩
theorem erase_or {L : List Int} {j : Nat} {k n : Int} (hj : L[j]? = some k) (h : n ∈ L) : n ∈ L.eraseIdx j ∨ n = k:=by
 obtain ⟨i,hi⟩:=List.getElem?_of_mem h
 by_cases e : i = j
 · subst e; rw [hj] at hi; injection hi with hi; exact .inr hi.symm
 · exact .inl (List.mem_eraseIdx_iff_getElem?.2 ⟨i,e,hi⟩)
theorem loop_skip {m : Int} {M L : List Int} {p k : Int} {j : Nat} (hm : -1 ≤ m) (h : LoopP m M L p) (hj : L[j]? = some k) (hk : ¬ (k > m ∧ (p < 0 ∨ k < p))) : LoopP m M (L.eraseIdx j) p:=by
 refine ⟨fun n hn=>h.1 n (List.mem_of_mem_eraseIdx hn),?_⟩
 rcases h.2 with ⟨a,b⟩ | ⟨a,b,c⟩
 · refine .inl ⟨a,fun n hn=>?_⟩
   rcases b n hn with hn' | hn'
   · rcases erase_or hj hn' with h2 | rfl
     · exact .inl h2
     · right; omega
   · exact .inr hn'
 · refine .inr ⟨a,b,fun n hn hnm=>?_⟩
   rcases c n hn hnm with hn' | hn'
   · rcases erase_or hj hn' with h2 | rfl
     · exact .inl h2
     · right; omega
   · exact .inr hn'
theorem loop_take {m : Int} {M L : List Int} {p k : Int} {j : Nat} (hm : -1 ≤ m) (h : LoopP m M L p) (hj : L[j]? = some k) (hk : k > m ∧ (p < 0 ∨ k < p)) : LoopP m M (L.eraseIdx j) k:=by
 refine ⟨fun n hn=>h.1 n (List.mem_of_mem_eraseIdx hn),.inr ⟨h.1 k (List.mem_of_getElem? hj),hk.1,fun n hn hnm=>?_⟩⟩
 have hor : n ∈ L ∨ k ≤ n:=by
  rcases h.2 with ⟨a,b⟩ | ⟨a,b,c⟩
  · rcases b n hn with hn' | hn'
    · exact .inl hn'
    · exact absurd hnm hn'
  · rcases c n hn hnm with hn' | hn'
    · exact .inl hn'
    · right; omega
 rcases hor with hn' | hn'
 · rcases erase_or hj hn' with h2 | rfl
   · exact .inl h2
   · right; omega
 · exact .inr hn'
def magicV (r : Tr) (l : List Mt) (team place : Int) : Int :=
 if openV r l team place = 0 then bestV (missF (nT r) team.toNat place (truthsL r l)) (canF team.toNat (truthsL r l)) else 0
theorem Magic_ok (r : Tr) (l : List Mt) (hw : Wf r l) (team place : Int) : ACalls Try.prog 86 [trV r,mtsR l,i64 team,i64 place] (.tu [i64 (magicV r l team place),i64 (openV r l team place)]):=by
 have hop:=open_ok r l hw team place
 refine acalls_stR (rs:=[i64 (magicV r l team place),i64 (openV r l team place)]) [.tmp 8,.tmp 9] Try.func86 rfl (by kernel_rfl) Try.ntmps86 rfl (by simp) rfl fun C hC vs=>?_
 repeat refine zq ?_
 refine zb fun K hK=>?_;simp only [go_sem];(try simp (disch:=omega) only [zI]);repeat first | intro _ | refine ⟨by omega,?_⟩
 refine hK _ ?_;clear hK K;refine zw (sub_frzP 4 4 (trC r) (by omega) rfl rfl) ?_;refine zw (sub_frzP 6 6 [i64 team] (by omega) rfl rfl) ?_;refine zw (sub_frzP 7 7 [i64 place] (by omega) rfl rfl) ?_;refine zw (zk [1,4,6,7]) ?_;simp only [go_sem]
 repeat refine zq ?_
 refine zb fun K hK=>?_;simp only [go_sem];(try simp (disch:=omega) only [zI])
 refine zh (hop) rfl (by simp only [go_sem,i64,ints]) (by simp only [go_sem,i64,ints]) (by first | exact .inl rfl | exact .inr rfl) ?_
 (try simp only [go_sem]);(try simp (disch:=omega) only [zI]);repeat first | intro _ | refine ⟨by omega,?_⟩
 refine hK _ ?_;clear hK K;refine zw (sub_frzP 10 10 (dvC r l) (by omega) rfl rfl) ?_;refine zw (zk [6,7,9,10]) ?_;simp only [go_sem]
 repeat refine zq ?_
 refine zb fun K hK=>?_;simp only [go_sem];(try simp (disch:=omega) only [zI]);repeat first | intro _ | refine ⟨by omega,?_⟩
 refine hK _ ?_;clear hK K;refine zw (zk [6,7,9,10,25]) ?_;simp only [go_sem]
 repeat refine zq ?_
 refine zc rfl (fun hc=>?_) (fun hc=>?_) <;> (try simp only [go_sem] at hc)
 · have he : openV r l team place ≠ 0:=by simpa using hc
   have hv : magicV r l team place = 0:=by unfold magicV; rw [if_neg he]
   rw [hv]
   repeat refine zq ?_
   refine zb fun K hK=>?_;simp only [go_sem];(try simp (disch:=omega) only [zI]);repeat first | intro _ | refine ⟨by omega,?_⟩
   refine hK _ ?_;clear hK K;refine zw (zk [8,9]) ?_;simp only [go_sem];refine ze ?_;simp only [go_sem]
 have he : openV r l team place = 0:=by simpa using hc
 obtain ⟨⟨k1,k2⟩,k3,k4⟩:=openV_zero he
 obtain ⟨h1,hr,h3,h4⟩:=checkV_zero k1
 have hit:=truths_it r hr l h3 h1
 have hwf:=truthsL_wf hr h3 h1
 have hts : truthsV r (leftV l) (startT r l) = truthsL r l:=rfl
 have hv : magicV r l team place = bestV (missF (nT r) team.toNat place (truthsL r l)) (canF team.toNat (truthsL r l)):=by unfold magicV; rw [if_pos he]
 rw [hv,he]
 rw [hts] at hit
 generalize truthsL r l = ts at *
 obtain ⟨hn,hn2,hn10⟩:=nT_eq hr
 obtain ⟨x,hx⟩ : ∃ x : Nat,team = (x : Int):=⟨team.toNat,by omega⟩
 subst hx
 rw [Int.toNat_natCast]
 refine zx ?_
 try simp only [go_sem]
 repeat refine zq ?_
 refine zb fun K hK=>?_;simp only [go_sem];(try simp (disch:=omega) only [zI]);repeat first | intro _ | refine ⟨by omega,?_⟩
 refine hK _ ?_;clear hK K;refine zw (zk [6,7,9,10,11,12]) ?_;simp only [go_sem]
 repeat refine zq ?_
 refine awp_long ?_
 refine sops_take 1 (by kernel_rfl) fun K hK=>?_
 simp only [go_sem,List.take_succ_cons,List.take_zero,List.drop_succ_cons,List.drop_zero,List.append_eq,List.cons_append,List.nil_append];(try simp (disch:=omega) only [zI]);repeat first | intro _ | refine ⟨by omega,?_⟩
 refine hK _ rfl ?_
 clear hK K
 refine sops_sub (zk [6,7,9,10,11,12,28]) ?_
 simp only [go_sem]
 refine sops_gop rfl (by intro t h; injection h with h; subst h; show 29 < 67; decide) (by intro c h; cases h) (gop_method rfl rfl ?_)
 try simp only [go_sem]
 refine sops_end (by kernel_rfl) fun K hK=>?_
 simp only [go_sem,List.drop_succ_cons,List.drop_zero,List.append_eq,List.cons_append,List.nil_append];(try simp (disch:=omega) only [zI]);repeat first | intro _ | refine ⟨by omega,?_⟩
 refine hK _ ?_;clear hK K;refine zw (zk [6,7,10,11,12,29]) ?_;simp only [go_sem]
 repeat refine zq ?_
 refine zd ?_
 refine awp_rangeFB hC (ts.map fun t=>[thV t]) hit [6,7,10,11,12,29] (by decide) (fun vs=>[(6,.r (.rp [i64 (x : Int)])),(7,.r (.rp [i64 place])),(10,.r (.rp (dvC r l))),(11,.pt 11 (vs 11) 0),(12,.pt 12 (vs 12) 0),(29,.r (.bf 153 [dvV r l]))])
  (fun i vs=>[(11,.box [.mp 27 (vs 27)]),(12,.box [.r (i64 (missF (nT r) x place (ts.take i)))]),(27,.mp ((canF x (ts.take i)).map encB))])
  (fun i=>True) (zj [] ?_ ?_) trivial (fun _=>rfl) (fun _=>rfl) (fun _ _=>rfl) (by simp) (fun e he=>by obtain ⟨t,_,rfl⟩:=List.mem_map.1 he; rfl) ?_ ?_
 · try simp only [go_sem]
 · try simp only [go_sem]
   try rfl
 · intro i e vs us C he hI
   rw [List.getElem?_map] at he
   obtain ⟨t,ht,rfl⟩ : ∃ t,ts[i]? = some t ∧ e = [thV t]:=by
    cases hx : ts[i]? with
    | none=>rw [hx] at he; cases he
    | some t=>rw [hx] at he; exact ⟨t,rfl,by simpa using he.symm⟩
   have hwt:=hwf t (mem_of_opt ht)
   have h21:=thC_len hwt
   have htk : List.take 21 (thC t) = thC t:=List.take_of_length_le (by omega)
   have hpl:=hwt.pl
   have hwl:=hwt.wl
   have hms:=missF_snoc (nT r) x place (ts.take i) t
   have hcs:=canF_snoc x (ts.take i) t
   rw [← take_of_opt ht] at hms hcs
   have hge:=missF_ge (nT r) x place (ts.take i)
   repeat refine zq ?_
   refine zb fun K hK=>?_;simp only [go_sem,h21];(try simp (disch:=omega) only [zI]);repeat first | intro _ | refine ⟨by omega,?_⟩
   refine hK _ ?_;clear hK K
   refine ⟨rfl,fun C'=>?_⟩
   refine zw (sub_frzP 13 13 (thC t) (by omega) rfl rfl) ?_;refine zw (zk [6,7,10,11,12,13]) ?_;simp only [go_sem]
   repeat refine zq ?_
   refine zd ?_
   have hhd : (List.drop x (List.drop 11 (thC t))).headD RV.un = i64 (t.won.getD x 0):=by
    have e1 : List.drop 11 (thC t) = t.won.map fun x=>i64 x:=by
     unfold thC
     rw [show (11 : Nat) = 10 + 1 from rfl,List.drop_succ_cons,List.map_append,List.drop_append_of_le_length (by simp [hpl]),List.drop_of_length_le (by simp [hpl])]; rfl
    rw [e1,List.headD_eq_head?_getD,List.head?_drop,List.getElem?_map,List.getD_eq_getElem?_getD,List.getElem?_eq_getElem (by omega)]; rfl
   have hwb : t.won.getD x 0 = missS (nT r) x place (t.won.getD x 0) t:=by unfold missS; split <;> simp
   have hmd : missS (nT r) x place (missF (nT r) x place (ts.take i)) t = if (placesV (nT r) t x).2 > place then max (missF (nT r) x place (ts.take i)) (t.won.getD x 0) else missF (nT r) x place (ts.take i):=rfl
   rw [hmd] at hms
   generalize t.won.getD x 0 = w at *
   repeat refine zq ?_
   refine zb fun K hK=>?_;simp only [go_sem,h21,Nat.mul_one,hhd];(try simp (disch:=omega) only [zI]);repeat first | intro _ | refine ⟨by omega,?_⟩
   repeat first | intro _ | refine ⟨by omega,?_⟩
   refine hK _ ?_;clear hK K;refine zw (zk [6,7,10,11,12,13,14]) ?_;simp only [go_sem]
   repeat refine zq ?_
   refine awp_joinV (n:=67) (fun (_ : Unit) vs=>[(6,.r (.rp [i64 (x : Int)])),(7,.r (.rp [i64 place])),(10,.r (.rp (dvC r l))),(11,.pt 11 (vs 11) 0),(12,.pt 12 (vs 12) 0),(13,.r (.rp (thC t))),(14,.r (i64 w))])
    (fun _ ws=>[(0,.sus [.r (.rp [i64 (x : Int)]),.r (.rp [i64 place]),.r (.rp (dvC r l)),.pt 11 (ws 11) 0,.pt 12 (ws 12) 0,.r (.bf 153 [dvV r l])] us),(11,.box [.mp 27 (ws 27)]),(12,.box [.r (i64 (missF (nT r) x place (ts.take i)))]),(27,.mp ((canF x (ts.take (i + 1))).map encB))]) (fun _=>True) (fun _ h=>h) ?_ ?_
   · by_cases hm : w ∈ canF x (ts.take i)
     · obtain ⟨j,hj,hjw⟩:=findB_old 0 hm
       rw [Nat.zero_add] at hj
       have hset : (List.map encB (canF x (ts.take i))).set j (i64 w,RV.bo true) = List.map encB (canF x (ts.take i)):=by
        refine List.ext_getElem? fun q=>?_
        by_cases e : q = j
        · subst e
          have hl:=(List.getElem?_eq_some_iff.1 hjw).1
          rw [List.getElem?_set_self (by simpa using hl),List.getElem?_map,hjw]; rfl
        · rw [List.getElem?_set_ne (fun e'=>e e'.symm)]
       have hins : canF x (ts.take (i + 1)) = canF x (ts.take i):=by rw [hcs]; unfold insK; rw [if_pos hm]
       rw [hins]
       repeat refine zq ?_
       refine zb fun K hK=>?_;simp only [go_sem,hj,Option.map_some];(try simp (disch:=omega) only [zI]);repeat first | intro _ | refine ⟨by omega,?_⟩
       refine hK _ ?_;clear hK K
       refine ⟨(),trivial,zj [] ?_ ?_⟩
       · try simp only [go_sem]
       · try simp only [go_sem]
         rw [hset]
     · have hj:=findB_new 0 hm
       have hins : canF x (ts.take (i + 1)) = canF x (ts.take i) ++ [w]:=by rw [hcs]; unfold insK; rw [if_neg hm]
       rw [hins]
       repeat refine zq ?_
       refine zb fun K hK=>?_;simp only [go_sem,hj];(try simp (disch:=omega) only [zI]);repeat first | intro _ | refine ⟨by omega,?_⟩
       refine hK _ ?_;clear hK K
       refine ⟨(),trivial,zj [] ?_ ?_⟩
       · try simp only [go_sem]
       · try simp only [go_sem]
         rw [List.map_append]
         rfl
   intro _ ws _
   repeat refine zq ?_
   refine zg follows (by decide +kernel) (by kernel_rfl) fun K hK=>?_;simp only [go_sem,h21];(try simp (disch:=omega) only [zI])
   refine zh (places_ok r hr l t hwt x (by omega)) rfl (by simp only [go_sem,i64,ints,htk,dvV,dvC,trC,trV,thV]) (by simp only [go_sem,i64,ints,htk,dvV,dvC,trC,trV,thV]) (by first | exact .inl rfl | exact .inr rfl) ?_
   (try simp only [go_sem,htk,dvV,dvC,trC,trV,thV]);(try simp (disch:=omega) only [zI]);repeat first | intro _ | refine ⟨by omega,?_⟩
   refine hK _ ?_;clear hK K;refine zw (zk [11,12,14,43]) ?_;simp only [go_sem]
   repeat refine zq ?_
   refine zc rfl (fun hc=>?_) (fun hc=>?_) <;> (try simp only [go_sem] at hc)
   · have hc' : (placesV (nT r) t x).2 > place:=by simpa using hc
     rw [if_pos hc'] at hms
     repeat refine zq ?_
     refine zb fun K hK=>?_;simp only [go_sem];(try simp (disch:=omega) only [zI]);repeat first | intro _ | refine ⟨by omega,?_⟩
     refine hK _ ?_;clear hK K
     refine zj (F:=fun _=>[]) [] (by try simp only [go_sem]) ?_
     try simp only [go_sem]
     rw [hms]
   · have hc' : ¬ (placesV (nT r) t x).2 > place:=by simpa using hc
     rw [if_neg hc'] at hms
     refine zx ?_
     try simp only [go_sem]
     refine zj (F:=fun _=>[]) [] (by try simp only [go_sem]) ?_
     try simp only [go_sem]
     rw [hms]
 · intro vs us hI
   try simp only [go_sem]
   refine zw (sub_wake rfl) ?_;rw [List.take_length]
   repeat refine zq ?_
   refine zb fun K hK=>?_;simp only [go_sem];(try simp (disch:=omega) only [zI]);repeat first | intro _ | refine ⟨by omega,?_⟩
   refine hK _ ?_;clear hK K;refine zw (zk [8,11,12]) ?_;simp only [go_sem]
   have hge:=missF_ge (nT r) x place ts
   have hst:=loop_start (missF (nT r) x place ts) (canF x ts)
   generalize missF (nT r) x place ts = m at *
   generalize canF x ts = M at *
   repeat refine zq ?_
   refine zb fun K hK=>?_;simp only [go_sem];(try simp (disch:=omega) only [zI]);repeat first | intro _ | refine ⟨by omega,?_⟩
   refine hK _ ?_;clear hK K;refine zw (zk [8,11,12,48]) ?_;simp only [go_sem]
   repeat refine zq ?_
   refine zd ?_
   refine awp_whileV (n:=67) (fun (y : List Int × Option (RV × RV) × Int) vs=>[(8,.r (i64 y.2.2)),(12,.pt 12 (vs 12) 0),(48,.mi 48 (vs 48))])
    (fun y vs=>[(12,.box [.r (i64 m)]),(27,.mpi (M.map encB)),(48,.mi 27 (vs 27) (y.1.map encB) y.2.1)])
    (fun y=>LoopP m M y.1 y.2.2) (fun y=>y.1.length) (M,none,-1) (zj [11] ?_ ?_) hst ?_
   · try simp only [go_sem]
   · try simp only [go_sem]
   · rintro ⟨L,cur,p⟩ vs hL
     simp only at hL
     repeat refine zq ?_
     refine zb fun K hK=>?_;simp only [go_sem];(try simp (disch:=omega) only [zI])
     refine ⟨by decide,fun hnil=>?_,fun j e hje=>?_⟩
     · have hLn : L = []:=by simpa using hnil
       subst hLn
       repeat first | intro _ | refine ⟨by omega,?_⟩
       refine hK _ ?_;clear hK K
       repeat refine zq ?_
       refine zc rfl (fun hc=>?_) (fun hc=>?_) <;> (try simp only [go_sem] at hc)
       refine zf ?_;simp only [go_sem]
       repeat refine zq ?_
       refine zb fun K hK=>?_;simp only [go_sem];(try simp (disch:=omega) only [zI]);repeat first | intro _ | refine ⟨by omega,?_⟩
       refine hK _ ?_;clear hK K;refine ze ?_;simp only [go_sem];rw [bestV_eq (loop_end hL)]
     · rw [List.getElem?_map] at hje
       obtain ⟨k,hk,rfl⟩:=Option.map_eq_some_iff.1 hje
       repeat first | intro _ | refine ⟨by omega,?_⟩
       refine hK _ ?_;clear hK K
       repeat refine zq ?_
       refine zc rfl (fun hc=>?_) (fun hc=>?_) <;> (try simp only [go_sem] at hc)
       refine zx ?_
       repeat refine zq ?_
       refine zd ?_
       repeat refine zq ?_
       refine zb fun K hK=>?_;simp only [go_sem];(try simp (disch:=omega) only [zI]);repeat first | intro _ | refine ⟨by omega,?_⟩
       refine hK _ ?_;clear hK K;refine zw (zk [8,12,15,48]) ?_;simp only [go_sem]
       repeat refine zq ?_
       refine awp_joinV (n:=67) (fun (_ : Unit) vs=>[(8,.r (i64 p)),(12,.pt 12 (vs 12) 0),(15,.r (i64 k)),(48,.mi 48 (vs 48)),(64,.r (.bo (decide (k > m ∧ (p < 0 ∨ k < p)))))])
        (fun _ vs=>[(12,.box [.r (i64 m)]),(27,.mpi (M.map encB)),(48,.mi 27 (vs 27) ((L.map encB).eraseIdx j) (some (encB k)))]) (fun _=>True) (fun _ h=>h) ?_ ?_
       · by_cases q1 : m < k
         · have q1' : decide (m < k) = true:=by simpa using q1
           by_cases q2 : p < 0
           · have q2' : decide (p < 0) = true:=by simpa using q2
             repeat refine zq ?_
             refine zb fun K hK=>?_;simp only [go_sem,q1',q2'];(try simp (disch:=omega) only [zI]);repeat first | intro _ | refine ⟨by omega,?_⟩
             refine hK _ ?_;clear hK K
             refine ⟨(),trivial,zj [] ?_ ?_⟩
             · try simp only [go_sem]
               simp [q1,q2]
             · try simp only [go_sem]
           · have q2' : decide (p < 0) = false:=by simpa using q2
             repeat refine zq ?_
             refine zb fun K hK=>?_;simp only [go_sem,q1',q2'];(try simp (disch:=omega) only [zI]);repeat first | intro _ | refine ⟨by omega,?_⟩
             refine hK _ ?_;clear hK K
             refine ⟨(),trivial,zj [] ?_ ?_⟩
             · try simp only [go_sem]
               simp [q1,q2]
             · try simp only [go_sem]
         · have q1' : decide (m < k) = false:=by simpa using q1
           repeat refine zq ?_
           refine zb fun K hK=>?_;simp only [go_sem,q1'];(try simp (disch:=omega) only [zI]);repeat first | intro _ | refine ⟨by omega,?_⟩
           refine hK _ ?_;clear hK K
           refine ⟨(),trivial,zj [] ?_ ?_⟩
           · try simp only [go_sem]
             simp [q1]
           · try simp only [go_sem]
       intro _ vs _
       have hlt:=(List.getElem?_eq_some_iff.1 hk).1
       have hm1 : (L.eraseIdx j).length < L.length:=by simp only [List.length_eraseIdx,hlt,if_true]; omega
       repeat refine zq ?_
       refine zc rfl (fun hc=>?_) (fun hc=>?_) <;> (try simp only [go_sem] at hc)
       · have hc' : k > m ∧ (p < 0 ∨ k < p):=by simpa using hc
         repeat refine zq ?_
         refine zb fun K hK=>?_;simp only [go_sem];(try simp (disch:=omega) only [zI]);repeat first | intro _ | refine ⟨by omega,?_⟩
         refine hK _ ?_;clear hK K
         try simp only [go_sem]
         refine ⟨(L.eraseIdx j,some (encB k),k),loop_take hge hL hk hc',hm1,zj [] ?_ ?_⟩
         · try simp only [go_sem]
         · try simp only [go_sem]
           simp only [killC,erase_map]
       · have hc' : ¬ (k > m ∧ (p < 0 ∨ k < p)):=by simpa using hc
         refine zx ?_
         try simp only [go_sem]
         refine ⟨(L.eraseIdx j,some (encB k),p),loop_skip hge hL hk hc',hm1,zj [] ?_ ?_⟩
         · try simp only [go_sem]
         · try simp only [go_sem]
           simp only [killC,erase_map]
def fourR : Tr:=⟨4,9,2,0,[],1,1⟩
def fourL : List Mt:=[⟨0,1,true,6,3⟩,⟨0,2,true,5,4⟩,⟨2,3,true,7,2⟩,⟨0,3,false,0,0⟩,⟨1,2,false,0,0⟩,⟨1,3,false,0,0⟩]
theorem four_wf : Wf fourR fourL:=⟨by constructor <;> simp [fourR,I64],by intro m hm; simp only [fourL,List.mem_cons,List.not_mem_nil,or_false] at hm; rcases hm with rfl | rfl | rfl | rfl | rfl | rfl <;> constructor <;> simp [I64]⟩
def kTab : List Rw:=sortW (rowsL fourR fourL)
theorem four_err : errV fourR fourL = 0:=by kernel_rfl
theorem kPlaces : ACalls Try.prog 85 [trV fourR,mtsR fourL] (.tu [.sl 2 ((spansL fourR fourL).map spR),i64 0]):=by
 have:=Places_ok fourR fourL four_wf
 rw [four_err,if_pos rfl] at this
 exact this
theorem four_magic : magicV fourR fourL 0 1 = 2:=by kernel_rfl
theorem four_open : openV fourR fourL 0 1 = 0:=by kernel_rfl
theorem kMagic : ACalls Try.prog 86 [trV fourR,mtsR fourL,i64 0,i64 1] (.tu [i64 2,i64 0]):=by
 have:=Magic_ok fourR fourL four_wf 0 1
 rw [four_magic,four_open] at this
 exact this
def kOrc : Orc:=[(85,[trV fourR,mtsR fourL],.tu [.sl 2 ((spansL fourR fourL).map spR),i64 0]),(86,[trV fourR,mtsR fourL,i64 0,i64 1],.tu [i64 2,i64 0])]
theorem kOrc_ok : orcOk Try.prog kOrc:=⟨kPlaces,kMagic,trivial⟩
def fsK : List (FuncId × Nat):=[(87,0)]
theorem fsK_ok : allOk Try.prog fsK = true:=by kernel_rfl
theorem knownT_ok : ACalls Try.prog 41 [] (.bo true):=evalX_ok follows fsK_ok kOrc_ok (k:=200) (by kernel_rfl) (by kernel_rfl)
abbrev prR (p : Int × Int) : List RV:=[i64 p.1,i64 p.2]
def fsN : List (FuncId × Nat):=[(84,0),(134,0),(92,0),(160,0),(193,0)]
theorem fsN_ok : allOk Try.prog fsN = true:=by kernel_rfl
def nOrc : Orc:=[]
theorem nOrc_ok : orcOk Try.prog nOrc:=trivial
theorem knock5 : ACalls Try.prog 84 [i64 5] (.tu [.sl 2 ([(0,-1),(1,-1),(2,-1),(3,4)].map prR),i64 0]):=evalX_ok follows fsN_ok nOrc_ok (k:=400) (by kernel_rfl) (by kernel_rfl)
theorem withinT1_ok (n a b : Int) : ACalls Try.prog 193 [i64 n,.rp [i64 a],.rp [i64 b]] (.bo (decide (n < a) || decide (b < n))):=by
 refine acalls_st (rs:=[.bo (decide (n < a) || decide (b < n))]) [.tmp 4] Try.func193 rfl (by kernel_rfl) Try.ntmps193 rfl (by simp) rfl fun C vs=>?_
 repeat refine zq ?_
 refine zb fun K hK=>?_;simp only [go_sem];(try simp (disch:=omega) only [zI]);repeat first | intro _ | refine ⟨by omega,?_⟩
 refine hK _ ?_;clear hK K
 repeat refine zq ?_
 refine zb fun K hK=>?_;simp only [go_sem];(try simp (disch:=omega) only [zI])
 refine ⟨fun h=>?_,fun h=>?_⟩ <;>
 · repeat first | intro _ | refine ⟨by omega,?_⟩
   refine hK _ ?_;clear hK K;refine ze ?_;simp only [go_sem]
   try simp [h]
theorem withinT_ok (a b : Int) (l : List Int) : ACalls Try.prog 134 [i64 a,i64 b,ints l] (.bo (withinL a b l)):=by
 refine acalls_st (rs:=[.bo (withinL a b l)]) [.tmp 6] Try.func134 rfl (by kernel_rfl) Try.ntmps134 rfl (by simp) rfl fun C vs=>?_
 repeat refine zq ?_
 refine zb fun K hK=>?_;simp only [go_sem];(try simp (disch:=omega) only [zI]);repeat first | intro _ | refine ⟨by omega,?_⟩
 refine hK _ ?_;clear hK K
 repeat refine zq ?_
 refine zb fun K hK=>?_;simp only [go_sem];(try simp (disch:=omega) only [zI])
 refine zh (contains_ok (fun n=>decide (n < a) || decide (b < n)) 193 [.rp [i64 a],.rp [i64 b]] l fun x _=>withinT1_ok x a b) rfl (by simp only [go_sem,i64,ints]) (by simp only [go_sem,i64,ints]) (by first | exact .inl rfl | exact .inr rfl) ?_
 (try simp only [go_sem]);(try simp (disch:=omega) only [zI]);repeat first | intro _ | refine ⟨by omega,?_⟩
 refine hK _ ?_;clear hK K;refine ze ?_;simp only [go_sem];rw [← withinL_not]
theorem delete2_ok (l z : List Int) (d : Nat) (hd : d < l.length) (hl : l.length ≤ 1000) (hz : z.length ≤ 1000) : MCalls Try.prog 150 [(1000,.arr 3 1 ((l ++ z).map fun x=>[i64 x]))] [(1000,.arr 3 1 ((l.eraseIdx d ++ [0] ++ z).map fun x=>[i64 x]))] [.os 1000 0 1 0 l.length,.r (i64 d),.r (i64 (d + 1))] (.os 1000 0 1 0 (l.length - 1)):=by
 refine mcalls_st (n:=33) (rs:=[.os 1000 0 1 0 (l.length - 1)]) _ _ [.tmp 6] Try.func150 rfl (by kernel_rfl) Try.ntmps150 rfl (by simp) rfl rfl fun C=>?_
 have hlz : (l ++ z).length = l.length + z.length:=List.length_append
 repeat refine zq ?_
 refine zb fun K hK=>?_;simp only [go_sem];(try simp (disch:=omega) only [zI]);repeat first | intro _ | refine ⟨by omega,?_⟩
 refine hK _ ?_;clear hK K
 repeat refine zq ?_
 refine zb fun K hK=>?_;simp only [go_sem];(try simp (disch:=omega) only [zI])
 intro hlen
 refine ⟨by omega,?_⟩
 repeat first | intro _ | refine ⟨by omega,?_⟩
 refine hK _ ?_;clear hK K
 repeat refine zq ?_
 refine zb fun K hK=>?_;simp only [go_sem];(try simp (disch:=omega) only [zI]);repeat first | intro _ | refine ⟨by omega,?_⟩
 refine hK _ ?_;clear hK K
 repeat refine zq ?_
 refine zc rfl (fun hc=>?_) (fun hc=>?_) <;> (try simp only [go_sem] at hc)
 · omega
 have e1 : (d = l.length + z.length) = False:=by
  have : ¬ d = l.length + z.length:=by omega
  simp only [this]
 refine zx ?_
 try simp only [go_sem]
 repeat refine zq ?_
 refine zb fun K hK=>?_;simp only [go_sem];(try simp (disch:=omega) only [zI])
 intro _
 repeat first | intro _ | refine ⟨by omega,?_⟩
 refine hK _ ?_;clear hK K
 repeat refine zq ?_
 refine zg follows (by decide +kernel) (by kernel_rfl) fun K hK=>?_;simp only [go_sem,hlz,e1];(try simp (disch:=omega) only [zI])
 have hm : d + min (l.length - (d + 1)) (l.length + z.length - (d + 1)) = l.length - 1:=by omega
 have hc2 : ((l ++ z).map fun x=>[i64 x]).take d ++ ((((l ++ z).map fun x=>[i64 x]).drop (d + 1)).take (l.length - (d + 1)) ++ ((l ++ z).map fun x=>[i64 x]).drop (l.length - 1)) = (l.eraseIdx d ++ l.drop (l.length - 1) ++ z).map fun x=>[i64 x]:=by
  simp only [← List.map_take,← List.map_drop,← List.map_append]
  congr 1
  rw [List.take_append_of_le_length (by omega),List.drop_append_of_le_length (by omega),List.drop_append_of_le_length (by omega),List.eraseIdx_eq_take_drop_succ]
  rw [List.take_left' (by simp)]
  simp
 rw [hm,hc2]
 refine ⟨by omega,by omega,by omega,?_⟩
 repeat first | intro _ | refine ⟨by omega,?_⟩
 refine hK _ ?_;clear hK K
 repeat refine zq ?_
 refine zb fun K hK=>?_;simp only [go_sem];(try simp (disch:=omega) only [zI])
 have hel : (l.eraseIdx d).length = l.length - 1:=by rw [List.length_eraseIdx]; simp [hd]
 have hl1 : l.length - (l.length - 1) = 1:=by omega
 have hdl : (l.drop (l.length - 1)).length = 1:=by rw [List.length_drop]; omega
 have hl2 : (l.eraseIdx d ++ l.drop (l.length - 1) ++ z).length = l.length + z.length:=by rw [List.length_append,List.length_append,hel,hdl]; omega
 have hc3 : ((l.eraseIdx d ++ l.drop (l.length - 1) ++ z).map fun x=>[i64 x]).take (l.length - 1) ++ ([[i64 0]] ++ ((l.eraseIdx d ++ l.drop (l.length - 1) ++ z).map fun x=>[i64 x]).drop (l.length - 1 + 1)) = (l.eraseIdx d ++ [0] ++ z).map fun x=>[i64 x]:=by
  have h1 : (l.eraseIdx d ++ l.drop (l.length - 1) ++ z).drop (l.length - 1 + 1) = z:=by
   rw [List.drop_left' (by rw [List.length_append,hel,hdl])]
  have h2 : (l.eraseIdx d ++ l.drop (l.length - 1) ++ z).take (l.length - 1) = l.eraseIdx d:=by
   rw [List.append_assoc,List.take_left' hel]
  rw [← List.map_take,← List.map_drop,h1,h2]
  simp
 rw [hl1,hl2]
 intro _
 refine ⟨⟨by omega,.inr (by omega)⟩,⟨by omega,by omega⟩,?_⟩
 simp only [List.replicate_succ,List.replicate_zero];rw [hc3]
 repeat first | intro _ | refine ⟨by omega,?_⟩
 refine hK _ ?_;clear hK K
 repeat refine zq ?_
 refine zb fun K hK=>?_;simp only [go_sem];(try simp (disch:=omega) only [zI]);repeat first | intro _ | refine ⟨by omega,?_⟩
 refine hK _ ?_;clear hK K;refine ze ?_;simp only [go_sem]
def factN : Nat → Nat
 | 0=>1
 | n + 1=>factN n * (n + 1)
def digit (m N p : Nat) : Nat:=N / factN (m - 1 - p) % (m - p)
def leftAt (m N : Nat) : Nat → List Int
 | 0=>(List.range m).map fun (x : Nat)=>(x : Int)
 | i + 1=>(leftAt m N i).eraseIdx (digit m N i)
def outAt (m N : Nat) : Nat → List Int
 | 0=>[]
 | i + 1=>outAt m N i ++ [(leftAt m N i).getD (digit m N i) 0]
theorem digit_lt {m N p : Nat} (h : p < m) : digit m N p < m - p:=Nat.mod_lt _ (by omega)
theorem leftAt_length {m N : Nat} : ∀ {i : Nat},i ≤ m → (leftAt m N i).length = m - i
 | 0,_=>by simp [leftAt]
 | i + 1, h => by
   have h1:=leftAt_length (m:=m) (N:=N) (i:=i) (by omega)
   have h2:=digit_lt (N:=N) (show i < m by omega)
   simp only [leftAt,List.length_eraseIdx,h1,h2,if_true]
   omega
theorem outAt_length {m N : Nat} : ∀ {i : Nat},(outAt m N i).length = i
 | 0=>rfl
 | i + 1=>by simp [outAt,outAt_length]
def drawL (m a b : Int) : List Int × Int :=
 if withinL 1 12 [m] = false then ([],3)
 else if withinL 0 2147483645 [a,b] = false then ([],2)
 else (outAt m.toNat (a + b).toNat m.toNat,0)
theorem tmodS (x i : Nat) : (x : Int).tmod ((i : Int) + 1) = ((x % (i + 1) : Nat) : Int):=rfl
theorem tdivS (x i : Nat) : (x : Int).tdiv ((i : Int) + 1) = ((x / (i + 1) : Nat) : Int):=rfl
def digs (m N i : Nat) : List (List RV):=(List.range m).map fun p=>[i64 (if m ≤ p + i then ((digit m N p : Nat) : Int) else 0)]
theorem digs_zero (m N : Nat) : List.replicate m [i64 0] = digs m N 0:=by
 refine List.ext_getElem? fun p=>?_
 unfold digs
 simp only [List.getElem?_replicate,List.getElem?_map]
 by_cases h : p < m
 · rw [List.getElem?_range h]
   have : ¬ m ≤ p:=by omega
   simp [h,this]
 · rw [if_neg h,List.getElem?_eq_none (by simp; omega)]
   rfl
theorem digs_step {m N i : Nat} (h : i < m) : (digs m N i).set (m - 1 - i) [i64 ((N / factN i % (i + 1) : Nat) : Int)] = digs m N (i + 1):=by
 refine List.ext_getElem? fun p=>?_
 unfold digs
 simp only [List.getElem?_set,List.length_map,List.length_range,List.getElem?_map]
 by_cases hp : p < m
 · rw [List.getElem?_range hp]
   by_cases e : m - 1 - i = p
   · subst e
     have h1 : m ≤ m - 1 - i + (i + 1):=by omega
     have h2 : m - 1 - (m - 1 - i) = i:=by omega
     have h3 : m - (m - 1 - i) = i + 1:=by omega
     simp [digit,h1,h2,h3,hp]
   · have h1 : m ≤ p + i ↔ m ≤ p + (i + 1):=by omega
     simp [e,h1]
 · have e : m - 1 - i ≠ p:=by omega
   rw [if_neg e,List.getElem?_eq_none (by simp; omega)]
   rfl
theorem digs_get {m N p : Nat} (h : p < m) : (digs m N m)[p]? = some [i64 ((digit m N p : Nat) : Int)]:=by
 unfold digs
 rw [List.getElem?_map,List.getElem?_range h]
 simp
theorem draw_ok (m a b : Int) : ACalls Try.prog 83 [i64 m,i64 a,i64 b] (.tu [ints (drawL m a b).1,i64 (drawL m a b).2]):=by
 refine acalls_st (rs:=[ints (drawL m a b).1,i64 (drawL m a b).2]) [.tmp 6,.tmp 7] Try.func83 rfl (by kernel_rfl) Try.ntmps83 rfl (by simp) rfl fun C vs=>?_
 repeat refine zq ?_
 refine zb fun K hK=>?_;simp only [go_sem];(try simp (disch:=omega) only [zI]);repeat first | intro _ | refine ⟨by omega,?_⟩
 refine hK _ ?_;clear hK K
 repeat refine zq ?_
 refine zd ?_
 repeat refine zq ?_
 refine zb fun K hK=>?_;simp only [go_sem];(try simp (disch:=omega) only [zI])
 refine zh (withinT_ok 1 12 [m]) rfl (by simp only [go_sem,i64,ints]) (by simp only [go_sem,i64,ints]) (by first | exact .inl rfl | exact .inr rfl) ?_
 (try simp only [go_sem]);(try simp (disch:=omega) only [zI]);repeat first | intro _ | refine ⟨by omega,?_⟩
 refine hK _ ?_;clear hK K
 cases h1 : withinL 1 12 [m]
 · repeat refine zq ?_
   refine zc rfl (fun hc=>?_) (fun hc=>?_) <;> (try simp only [go_sem] at hc)
   repeat refine zq ?_
   refine zb fun K hK=>?_;simp only [go_sem];(try simp (disch:=omega) only [zI]);repeat first | intro _ | refine ⟨by omega,?_⟩
   refine hK _ ?_;clear hK K;refine ze ?_;simp only [go_sem]
   simp [drawL,h1]
 repeat refine zq ?_
 refine zc rfl (fun hc=>?_) (fun hc=>?_) <;> (try simp only [go_sem] at hc)
 repeat refine zq ?_
 refine zb fun K hK=>?_;simp only [go_sem];(try simp (disch:=omega) only [zI])
 refine zh (withinT_ok 0 2147483645 [a,b]) rfl (by simp only [go_sem,i64,ints]) (by simp only [go_sem,i64,ints]) (by first | exact .inl rfl | exact .inr rfl) ?_
 (try simp only [go_sem]);(try simp (disch:=omega) only [zI]);repeat first | intro _ | refine ⟨by omega,?_⟩
 refine hK _ ?_;clear hK K
 cases h2 : withinL 0 2147483645 [a,b]
 · repeat refine zq ?_
   refine zc rfl (fun hc=>?_) (fun hc=>?_) <;> (try simp only [go_sem] at hc)
   repeat refine zq ?_
   refine zb fun K hK=>?_;simp only [go_sem];(try simp (disch:=omega) only [zI]);repeat first | intro _ | refine ⟨by omega,?_⟩
   refine hK _ ?_;clear hK K;refine ze ?_;simp only [go_sem]
   simp [drawL,h1,h2]
 repeat refine zq ?_
 refine zc rfl (fun hc=>?_) (fun hc=>?_) <;> (try simp only [go_sem] at hc)
 refine zx ?_
 try simp only [go_sem]
 have e : drawL m a b = (outAt m.toNat (a + b).toNat m.toNat,0):=by simp [drawL,h1,h2]
 rw [e]
 have g1:=withinL_one.1 h1
 have g2 : 0 ≤ a ∧ a ≤ 2147483645:=(withinL_two.1 h2).1
 have g3 : 0 ≤ b ∧ b ≤ 2147483645:=(withinL_two.1 h2).2
 obtain ⟨m,rfl⟩:=Int.eq_ofNat_of_zero_le (show 0 ≤ m by omega)
 obtain ⟨a,rfl⟩:=Int.eq_ofNat_of_zero_le g2.1
 obtain ⟨b,rfl⟩:=Int.eq_ofNat_of_zero_le g3.1
 have hN : ((a : Int) + (b : Int)).toNat = a + b:=rfl
 rw [hN,Int.toNat_natCast]
 repeat refine zq ?_
 refine zg follows (by decide +kernel) (by kernel_rfl) fun K hK=>?_;simp only [go_sem];(try simp (disch:=omega) only [zI])
 refine ⟨⟨by omega,by omega⟩,?_⟩
 repeat first | intro _ | refine ⟨by omega,?_⟩
 refine hK _ ?_;clear hK K
 repeat refine zq ?_
 refine zb fun K hK=>?_;simp only [go_sem];(try simp (disch:=omega) only [zI]);repeat first | intro _ | refine ⟨by omega,?_⟩
 refine hK _ ?_;clear hK K
 repeat refine zq ?_
 refine zd ?_
 generalize hNN : a + b = N
 have hNN' : (a : Int) + (b : Int) = (N : Int):=by omega
 rw [hNN']
 refine awp_upto (n:=79) m (fun i vs=>[(0,.r (i64 m)),(6,.r .ns),(8,.r (i64 ((N / factN i : Nat) : Int))),(9,.os 30 (vs 30) 1 0 m),(31,.r (i64 m)),(32,.r (i64 i))]) (fun i=>[(30,.arr 3 1 (digs m N i))])
  (fun _=>True) 0 (fit_of [] ?_ ?_) (Nat.zero_le _) trivial ?_
 · try simp only [go_sem]
   simp [factN]
 · simp only [killC];rw [digs_zero m N]
 · intro i vs hi _
   have hq1:=Nat.div_le_self N (factN i)
   have hq2:=Nat.div_le_self (N / factN i) (i + 1)
   repeat refine zq ?_
   refine zb fun K hK=>?_;simp only [go_sem];(try simp (disch:=omega) only [zI]);repeat first | intro _ | refine ⟨by omega,?_⟩
   refine hK _ ?_;clear hK K
   repeat refine zq ?_
   refine zc rfl (fun hc=>?_) (fun hc=>?_) <;> (try simp only [go_sem] at hc)
   · have hci:=hc
     have ex : (m : Int) - 1 - (i : Int) = ((m - 1 - i : Nat) : Int):=by omega
     have hr : (List.range m)[m - 1 - i]? = some (m - 1 - i):=List.getElem?_range (by omega)
     have hst:=digs_step (N:=N) hci
     unfold digs at hst ⊢
     refine zx ?_
     repeat refine zq ?_
     refine zd ?_
     repeat refine zq ?_
     refine zb fun K hK=>?_;simp only [go_sem];(try simp (disch:=omega) only [zI]);repeat first | intro _ | refine ⟨by omega,?_⟩
     refine hK _ ?_;clear hK K
     repeat refine zq ?_
     refine zb fun K hK=>?_;simp only [go_sem];(try simp (disch:=omega) only [zI]);simp only [ex,tmodS,Int.toNat_natCast,hr,List.drop_succ_cons,List.drop_zero,List.length_range];rw [hst]
     refine ⟨by omega,⟨by omega,by omega⟩,by omega,?_⟩
     repeat first | intro _ | refine ⟨by omega,?_⟩
     refine hK _ ?_;clear hK K
     repeat refine zq ?_
     refine zb fun K hK=>?_;simp only [go_sem,tdivS];(try simp (disch:=omega) only [zI])
     refine ⟨by omega,?_⟩
     repeat first | intro _ | refine ⟨by omega,?_⟩
     refine hK _ ?_;clear hK K
     try simp only [go_sem]
     repeat refine zq ?_
     refine zb fun K hK=>?_;simp only [go_sem];(try simp (disch:=omega) only [zI]);repeat first | intro _ | refine ⟨by omega,?_⟩
     refine hK _ ?_;clear hK K
     try simp only [go_sem]
     refine ⟨hci,fit_of [] ?_ rfl⟩
     try simp only [go_sem]
     have hw : ∀ q : Nat,q ≤ N → IntKind.i64.wrap (q : Int) = q:=fun q hq=>zI (by omega) (by omega)
     rw [tdivS,hw _ (Nat.le_trans hq2 hq1),factN,Nat.div_div_eq_div_mul]
   · have : i = m:=by omega
     subst this
     refine zf ?_;simp only [go_sem]
     repeat refine zq ?_
     refine zb fun K hK=>?_;simp only [go_sem];(try simp (disch:=omega) only [zI]);repeat first | intro _ | refine ⟨by omega,?_⟩
     refine hK _ ?_;clear hK K
     repeat refine zq ?_
     refine zb fun K hK=>?_;simp only [go_sem];(try simp (disch:=omega) only [zI]);repeat first | intro _ | refine ⟨by omega,?_⟩
     refine hK _ ?_;clear hK K
     repeat refine zq ?_
     refine zd ?_;refine zw (sub_own 11 57 3 1 (by omega) rfl) ?_
     refine awp_upto (n:=79) i (fun j vs=>[(0,.r (i64 i)),(6,.r .ns),(9,.os 30 (vs 30) 1 0 i),(50,.r (i64 i)),(51,.r (i64 j)),(11,.os 57 (vs 57) 1 0 j)]) (fun j=>[(30,.arr 3 1 (digs i N i)),(57,.arr 3 1 ((List.range j).map fun (x : Nat)=>[i64 (x : Int)]))])
      (fun _=>True) 0 (fit_of [] ?_ ?_) (Nat.zero_le _) trivial ?_
     · try simp only [go_sem]
     · try simp only [go_sem]
       rfl
     · intro j vs hj _
       repeat refine zq ?_
       refine zb fun K hK=>?_;simp only [go_sem];(try simp (disch:=omega) only [zI]);repeat first | intro _ | refine ⟨by omega,?_⟩
       refine hK _ ?_;clear hK K
       repeat refine zq ?_
       refine zc rfl (fun hc=>?_) (fun hc=>?_) <;> (try simp only [go_sem] at hc)
       · have hcj:=hc
         refine zx ?_
         repeat refine zq ?_
         refine zd ?_
         repeat refine zq ?_
         refine zb fun K hK=>?_;simp only [go_sem];(try simp (disch:=omega) only [zI]);repeat first | intro _ | refine ⟨by omega,?_⟩
         refine hK _ ?_;clear hK K
         repeat refine zq ?_
         refine zb fun K hK=>?_;simp only [go_sem,List.length_range];(try simp (disch:=omega) only [zI])
         refine ⟨⟨by omega,by omega⟩,?_⟩
         repeat first | intro _ | refine ⟨by omega,?_⟩
         refine hK _ ?_;clear hK K
         try simp only [go_sem]
         repeat refine zq ?_
         refine zb fun K hK=>?_;simp only [go_sem];(try simp (disch:=omega) only [zI]);repeat first | intro _ | refine ⟨by omega,?_⟩
         refine hK _ ?_;clear hK K
         try simp only [go_sem]
         refine ⟨hcj,fit_of [] ?_ ?_⟩
         · try simp only [go_sem]
         · simp only [killC]
           simp
       · have : j = i:=by omega
         subst this
         refine zf ?_;simp only [go_sem]
         repeat refine zq ?_
         refine zb fun K hK=>?_;simp only [go_sem];(try simp (disch:=omega) only [zI])
         intro _
         repeat first | intro _ | refine ⟨by omega,?_⟩
         refine hK _ ?_;clear hK K
         repeat refine zq ?_
         refine zd ?_;refine zw (sub_own 6 71 3 1 (by omega) rfl) ?_
         refine awp_upto (n:=79) j (fun k vs=>[(0,.r (i64 j)),(6,.os 71 (vs 71) 1 0 k),(59,.os 30 (vs 30) 1 0 j),(60,.r (i64 j)),(61,.r (i64 k)),(11,.os 57 (vs 57) 1 0 (j - k))])
          (fun k=>[(30,.arr 3 1 (digs j N j)),(57,.arr 3 1 ((leftAt j N k ++ List.replicate k 0).map fun x=>[i64 x])),(71,.arr 3 1 ((outAt j N k).map fun x=>[i64 x]))])
          (fun _=>True) 0 (fit_of [] ?_ ?_) (Nat.zero_le _) trivial ?_
         · try simp only [go_sem]
         · simp only [killC,leftAt,outAt,List.replicate_zero,List.append_nil,List.map_map]
           rfl
         · intro k vs hk _
           have hll:=leftAt_length (N:=N) hk
           repeat refine zq ?_
           refine zb fun K hK=>?_;simp only [go_sem];(try simp (disch:=omega) only [zI]);repeat first | intro _ | refine ⟨by omega,?_⟩
           refine hK _ ?_;clear hK K
           repeat refine zq ?_
           refine zc rfl (fun hc=>?_) (fun hc=>?_) <;> (try simp only [go_sem] at hc)
           · have hck:=hc
             have hd:=digit_lt (N:=N) hck
             have hg : (digs j N j).getD k [] = [i64 ((digit j N k : Nat) : Int)]:=by rw [List.getD_eq_getElem?_getD,digs_get hck]; rfl
             have hx : (leftAt j N k ++ List.replicate k 0)[digit j N k]? = some ((leftAt j N k).getD (digit j N k) 0):=by
              rw [List.getElem?_append_left (by omega),List.getD_eq_getElem?_getD,List.getElem?_eq_getElem (by omega)]
              rfl
             have hdel:=delete2_ok (leftAt j N k) (List.replicate k 0) (digit j N k) (by omega) (by omega) (by simp; omega)
             rw [hll] at hdel
             refine zx ?_
             repeat refine zq ?_
             refine zd ?_
             repeat refine zq ?_
             refine zb fun K hK=>?_;simp only [go_sem,hg,hck];(try simp (disch:=omega) only [zI]);repeat first | intro _ | refine ⟨by omega,?_⟩
             refine hK _ ?_;clear hK K
             repeat refine zq ?_
             refine zb fun K hK=>?_;simp only [go_sem,hx,hd,outAt_length];(try simp (disch:=omega) only [zI])
             refine ⟨⟨by omega,by omega⟩,?_⟩
             repeat first | intro _ | refine ⟨by omega,?_⟩
             refine hK _ ?_;clear hK K
             repeat refine zq ?_
             refine zb fun K hK=>?_;simp only [go_sem];(try simp (disch:=omega) only [zI])
             refine xcall_mut (hdel) [(1000,57)] rfl (by simp only [go_sem,i64,ints]) (by simp only [go_sem,i64,ints]) (by rfl) (by rfl) ?_
             (try simp only [go_sem]);(try simp (disch:=omega) only [zI]);repeat first | intro _ | refine ⟨by omega,?_⟩
             refine hK _ ?_;clear hK K
             try simp only [go_sem]
             repeat refine zq ?_
             refine zb fun K hK=>?_;simp only [go_sem];(try simp (disch:=omega) only [zI]);repeat first | intro _ | refine ⟨by omega,?_⟩
             refine hK _ ?_;clear hK K
             try simp only [go_sem]
             refine ⟨hck,fit_of [] ?_ ?_⟩
             · try simp only [go_sem]
               rw [Nat.sub_sub]
             · simp only [killC,leftAt,outAt,List.map_append,List.map_cons,List.map_nil,List.append_assoc,List.replicate_succ,List.cons_append,List.nil_append]
           · have : k = j:=by omega
             subst this
             refine zf ?_;simp only [go_sem]
             repeat refine zq ?_
             refine zb fun K hK=>?_;simp only [go_sem];(try simp (disch:=omega) only [zI]);repeat first | intro _ | refine ⟨by omega,?_⟩
             refine hK _ ?_;clear hK K;refine ze ?_;simp only [go_sem];exact ⟨by rw [outAt_length]; exact Nat.le_refl _,List.take_of_length_le (by rw [List.length_map,outAt_length]; exact Nat.le_refl _)⟩
theorem kDraw_eq : drawL 3 4 3 = ([0,2,1],0):=by kernel_rfl
theorem kDraw : ACalls Try.prog 83 [i64 3,i64 4,i64 3] (.tu [ints [0,2,1],i64 0]):=by
 have:=draw_ok 3 4 3
 rw [kDraw_eq] at this
 exact this
def dOrc : Orc:=[(83,[i64 3,i64 4,i64 3],.tu [ints [0,2,1],i64 0]),(84,[i64 5],.tu [.sl 2 ([(0,-1),(1,-1),(2,-1),(3,4)].map prR),i64 0])]
theorem dOrc_ok : orcOk Try.prog dOrc:=⟨kDraw,knock5,trivial⟩
theorem fsD_ok : allOk Try.prog [] = true:=by kernel_rfl
theorem knownTeam_ok : ACalls Try.prog 40 [] (.bo true):=evalX_ok follows fsD_ok dOrc_ok (k:=200) (by kernel_rfl) (by kernel_rfl)
end Go.Proofs.Ytlljkgiomkmjbaa.Tb
