/- Part 9 of the texts of this claim. -/
import Derived.Test.YtgkejinoaommeaaVB8
import Derived.Test.YtgkejinoaommeaaVB4
import Derived.Test.YtgkejinoaommeaaVB7
namespace Go.Oc
open Go Go.RowKit
instance {c : Prop} [h : Decidable c] {v : AV} : Decidable (Res.when c v).pre:=h
instance {v : AV} : Decidable (Res.val v).pre:=.isTrue trivial
instance : Decidable Res.bad.pre:=.isFalse id
instance {c a : Prop} [h : Decidable c] {y : Yi} : Decidable (Res.mk c a y).pre:=h
def nilB {α : Type} (l : List α) : Decidable (l = []):=match l with
 | []=>.isTrue rfl
 | _ :: _=>.isFalse (by simp)
instance {α : Type} {l : List α} : Decidable (l = []):=nilB l
def RowC.isDead : RowC → Bool
 | .dead=>true
 | _=>false
theorem isDead_iff {c : RowC} : c = .dead ↔ c.isDead = true:=by cases c <;> simp [RowC.isDead]
instance {c : RowC} : Decidable (c = .dead):=decidable_of_iff _ isDead_iff.symm
def decNews {s : AS} {y : AV} {c : Prop} {sz : Nat} {es : List (List RV)} (h : news? s y = some (c,sz,es)) : Decidable c:=by
 unfold news? at h
 split at h
 · exact .isTrue (by injection h with h; injection h with h1 _; rw [← h1]; trivial)
 · exact .isTrue (by injection h with h; injection h with h1 _; rw [← h1]; trivial)
 · split at h
   · rename_i k n sz off m _ n' t sz' es' _
     exact decidable_of_iff (n = n' ∧ sz = sz' ∧ off + m ≤ es'.length) (by injection h with h; injection h with h1 _; rw [← h1])
   · cases h
 · cases h
def decLen {s : AS} {y : AV} {c : Prop} {m : Nat} (h : lenA s y = some (c,m)) : Decidable c:=by
 unfold lenA at h
 split at h
 · exact .isTrue (by injection h with h; injection h with h1 _; rw [← h1]; trivial)
 · exact .isTrue (by injection h with h; injection h with h1 _; rw [← h1]; trivial)
 · rename_i k n sz off m
   exact decidable_of_iff (n = s.ver k) (by injection h with h; injection h with h1 _; rw [← h1])
 · cases h
section
variable {P : Program} {s : AS}
instance {c a b : AV} : Decidable (sPick c a b).pre:=by delta sPick; split <;> infer_instance
instance {op : BinOp} {t : TypeId} {x y : AV} : Decidable (sEq P op t x y).pre:=by delta sEq; split <;> (try split) <;> infer_instance
instance {op : BinOp} {t : TypeId} {x y : AV} : Decidable (sBin P op t x y).pre:=by delta sBin; split <;> (try split) <;> infer_instance
instance {op : UnOp} {x : AV} : Decidable (sUn op x).pre:=by delta sUn; split <;> infer_instance
instance {a b : TypeId} {x : AV} : Decidable (sConv P a b x).pre:=by delta sConv; split <;> infer_instance
instance {t : TypeId} {a : AV} : Decidable (sLoad P s t a).pre:=by delta sLoad; split <;> (try split) <;> infer_instance
instance {t : TypeId} {a x : AV} : Decidable (sStore P s t a x).pre:=by delta sStore; split <;> (try split) <;> infer_instance
instance {d : Nat} {x : AV} : Decidable (sBox s d x).pre:=by delta sBox; split <;> infer_instance
instance {d : Nat} {t : TypeId} : Decidable (sAlloc P s d t).pre:=by delta sAlloc; split <;> infer_instance
instance {t : TypeId} {a : AV} {f : Nat} : Decidable (sField P s t a f).pre:=by delta sField; split <;> (try split) <;> (try split) <;> infer_instance
instance {cs : AV} {o sz : Nat} {agg : Bool} {c : Prop} [Decidable c] : Decidable (sPart cs o sz agg c).pre:=by delta sPart; split <;> infer_instance
instance {t : TypeId} {x : AV} {f : Nat} : Decidable (sFieldV P t x f).pre:=by delta sFieldV; split <;> (try split) <;> infer_instance
instance {t : TypeId} {x i : AV} : Decidable (sIndexV P t x i).pre:=by delta sIndexV; split <;> infer_instance
instance {t : TypeId} {x i : AV} : Decidable (sIndex P s t x i).pre:=by delta sIndex; split <;> (try split) <;> infer_instance
instance {x mx : AV} {lo hi : Option AV} : Decidable (sSlice3 s x lo hi mx).pre:=by
 delta sSlice3
 split
 · have:=decLen ‹lenA _ _ = some (_,_)›
   infer_instance
 · infer_instance
instance {n esz : Nat} {x : AV} {lo hi mx : Option AV} : Decidable (sSliceA n esz x lo hi mx).pre:=by delta sSliceA; split <;> infer_instance
instance {t : TypeId} {x : AV} {lo hi mx : Option AV} : Decidable (sSlice P s t x lo hi mx).pre:=by delta sSlice; split <;> (try split) <;> (try split) <;> infer_instance
instance {t : TypeId} {ps : List (Nat × AV)} : Decidable (sBuild P s t ps).pre:=by delta sBuild; split <;> (try split) <;> infer_instance
instance {t : TypeId} {n : Nat} {ps : List (Nat × AV)} : Decidable (sBuildSlice P s t n ps).pre:=by delta sBuildSlice; split <;> (try split) <;> (try split) <;> infer_instance
instance {d : Nat} {t : TypeId} {l c : AV} : Decidable (sMakeSlice P s d t l c).pre:=by delta sMakeSlice; split <;> infer_instance
instance {d : Nat} {t t' : TypeId} {x y : AV} : Decidable (sAppend P s d t t' x y).pre:=by
 delta sAppend
 split
 · rename_i h
   have:=decNews h
   infer_instance
 · rename_i h
   have:=decNews h
   infer_instance
 · rename_i h
   have:=decNews h
   split
   · infer_instance
   · split <;> infer_instance
   · infer_instance
 · infer_instance
instance {d : Nat} {t t' : TypeId} {x y : AV} : Decidable (sAppendZ P s d t t' x y).pre:=by delta sAppendZ; split <;> infer_instance
instance {t : TypeId} {x : AV} : Decidable (sCap P t x).pre:=by delta sCap; split <;> infer_instance
instance {t : TypeId} {x : AV} : Decidable (sClear P s t x).pre:=by delta sClear; split <;> (try split) <;> infer_instance
instance {t : TypeId} {x : AV} : Decidable (sLen P s t x).pre:=by delta sLen; split <;> (try split) <;> infer_instance
instance {r : Option RV} : Decidable (sMinMax r).pre:=by delta sMinMax; split <;> infer_instance
instance {x : AV} {i : Nat} : Decidable (sExtract x i).pre:=by delta sExtract; split <;> (try split) <;> infer_instance
instance {x : AV} : Decidable (sNil s x).pre:=by delta sNil; split <;> infer_instance
instance {d : Nat} {t : TypeId} : Decidable (sMakeMap P s d t).pre:=by delta sMakeMap; split <;> infer_instance
instance {t : TypeId} {x key : AV} {ok : Bool} : Decidable (sLookup P s t x key ok).pre:=by delta sLookup; split <;> (try split) <;> (try split) <;> infer_instance
instance {t : TypeId} {x key : AV} : Decidable (sMapEntry P s t x key).pre:=by delta sMapEntry; split <;> (try split) <;> (try split) <;> infer_instance
instance {x st v : AV} : Decidable (sEntryStore s x st v).pre:=by delta sEntryStore; split <;> (try split) <;> (try split) <;> infer_instance
instance {t : TypeId} {x key v : AV} : Decidable (sMapUpdate P s t x key v).pre:=by delta sMapUpdate; split <;> (try split) <;> (try split) <;> infer_instance
instance {d : Nat} {t : TypeId} {x : AV} : Decidable (sRange P s d t x).pre:=by delta sRange; split <;> (try split) <;> infer_instance
instance {x : AV} : Decidable (sEntry s x).pre:=by delta sEntry; split <;> (try split) <;> infer_instance
instance {d : Nat} {b : Builtin} {ts : List TypeId} {xs : List AV} : Decidable (sBuiltin P s d b ts xs).pre:=by delta sBuiltin; split <;> (try split) <;> infer_instance
instance decStep {o : Oper} : Decidable (step P o s).pre:=by delta step; split <;> (try split) <;> infer_instance
end
def nth : List AV → Nat → AV
 | [],_=>.r .un
 | x :: _,0=>x
 | _ :: l,t + 1=>nth l t
def setAt : List AV → Nat → AV → List AV
 | [],0,v=>[v]
 | [],d + 1,v=>.r .un :: setAt [] d v
 | _ :: l,0,v=>v :: l
 | x :: l,d + 1,v=>x :: setAt l d v
theorem nth_setAt : ∀ (l : List AV) (d : Nat) (v : AV) (t : Nat),nth (setAt l d v) t = if t = d then v else nth l t
 | [],0,v,0=>by simp [setAt,nth]
 | [],0,v,t + 1=>by simp [setAt,nth]
 | [],d + 1,v,0=>by simp [setAt,nth]
 | [],d + 1,v,t + 1=>by simp only [setAt,nth,nth_setAt [] d v t,Nat.add_right_cancel_iff]
 | x :: l,0,v,0=>by simp [setAt,nth]
 | x :: l,0,v,t + 1=>by simp [setAt,nth]
 | x :: l,d + 1,v,0=>by simp [setAt,nth]
 | x :: l,d + 1,v,t + 1=>by simp only [setAt,nth,nth_setAt l d v t,Nat.add_right_cancel_iff]
def rowAt : List (Nat × Row) → Nat → Row
 | [],_=>⟨0,.dead⟩
 | (j,r) :: l,k=>if k = j then r else rowAt l k
def setRow : List (Nat × Row) → Nat → Row → List (Nat × Row)
 | [],k,r=>[(k,r)]
 | (j,q) :: l,k,r=>if k = j then (j,r) :: l else (j,q) :: setRow l k r
theorem rowAt_setRow : ∀ (l : List (Nat × Row)) (k : Nat) (r : Row) (j : Nat),rowAt (setRow l k r) j = if j = k then r else rowAt l j
 | [],k,r,j=>rfl
 | (i, q) :: l, k, r, j => by
   unfold setRow
   split
   · rename_i e; subst e
     simp only [rowAt]
     split <;> rfl
   · rename_i e
     simp only [rowAt,rowAt_setRow l k r j]
     by_cases e1 : j = i
     · have : ¬ j = k:=by omega
       simp [e1]; omega
     · simp [e1]
structure CS where
 n : Nat
 tm : List AV
 rows : List (Nat × Row)
def CS.as (s : CS) : AS:=⟨s.n,nth s.tm,rowAt s.rows⟩
def CS.put (s : CS) (d : Option Nat) (v : AV) : CS:=match d with | some d=>⟨s.n,setAt s.tm d v,s.rows⟩ | none=>s
def CS.row (s : CS) (k : Nat) (r : Row) : CS:=⟨s.n,s.tm,setRow s.rows k r⟩
def CS.effs (s : CS) : List (Nat × Row) → CS
 | []=>s
 | (k,r) :: l=>(s.row k r).effs l
def CS.app (s : CS) (d : Option Nat) (y : Yi) : CS:=(s.effs y.eff).put d y.av
theorem as_put (s : CS) (d : Option Nat) (v : AV) : (s.put d v).as = s.as.put d v:=by
 cases d with
 | none=>rfl
 | some d =>
   simp only [CS.put,CS.as,AS.put,AS.mk.injEq,true_and,and_true]
   funext t
   rw [nth_setAt]; rfl
theorem as_row (s : CS) (k : Nat) (r : Row) : (s.row k r).as = s.as.row k r:=by
 simp only [CS.row,CS.as,AS.row,AS.mk.injEq,true_and]
 funext j
 rw [rowAt_setRow]; rfl
theorem as_effs : ∀ (l : List (Nat × Row)) (s : CS),(s.effs l).as = { s.as with rows:=l.foldl (fun f p=>upd f p.1 p.2) s.as.rows }
 | [],s=>rfl
 | (k, r) :: l, s => by
   simp only [CS.effs,as_effs l,as_row,List.foldl_cons]
   rfl
theorem as_app (s : CS) (d : Option Nat) (y : Yi) : (s.app d y).as = s.as.app d y:=by
 unfold CS.app AS.app
 rw [as_put,as_effs]
 rfl
theorem put_num (s : CS) (d : Option Nat) (v : AV) : (s.put d v).n = s.n:=by cases d <;> rfl
theorem effs_num : ∀ (l : List (Nat × Row)) (s : CS),(s.effs l).n = s.n
 | [],s=>rfl
 | (k,r) :: l,s=>by simp only [CS.effs,effs_num l]; rfl
theorem app_num (s : CS) (d : Option Nat) (y : Yi) : (s.app d y).n = s.n:=by simp only [CS.app,put_num,effs_num]
def bindL {α β : Type} (x : Option (List α)) (f : α → Option (List β)) : Option (List β) :=
 match x with
 | none=>none
 | some l=>go l
 where go : List α → Option (List β)
 | []=>some []
 | a :: l => match f a with
   | none=>none
   | some ys => match go l with
     | none=>none
     | some zs=>some (ys ++ zs)
theorem bindL_go {α β : Type} {f : α → Option (List β)} : ∀ {l : List α} {zs : List β},bindL.go f l = some zs → ∀ a ∈ l,∃ ys,f a = some ys ∧ ∀ y ∈ ys,y ∈ zs
 | [],_,_,a,ha=>by simp at ha
 | b :: l, zs, h, a, ha => by
   unfold bindL.go at h
   split at h
   · cases h
   · rename_i ys hys
     split at h
     · cases h
     · rename_i ws hws
       injection h with h; subst h
       rcases List.mem_cons.1 ha with rfl | ha
       · exact ⟨ys,hys,fun y hy=>by simp [hy]⟩
       · obtain ⟨y2,h1,h2⟩:=bindL_go hws a ha
         exact ⟨y2,h1,fun y hy=>by simp [h2 y hy]⟩
theorem bindL_spec {α β : Type} {x : Option (List α)} {f : α → Option (List β)} {zs : List β} (h : bindL x f = some zs) : ∃ l,x = some l ∧ ∀ a ∈ l,∃ ys,f a = some ys ∧ ∀ y ∈ ys,y ∈ zs:=by
 unfold bindL at h
 split at h
 · cases h
 · exact ⟨_,rfl,bindL_go h⟩
abbrev Caller:=Bool → CS → Option Nat → AV → List AV → Option CS
def Caller.ok (P : Program) (call : Caller) : Prop :=
 ∀ D s d f xs t,call D s d f xs = some t → t.n = s.n ∧ ∀ K : AS → Prop,K t.as → acall P s.as f xs (fun r=>K (s.as.put d (.r r))) ∨ (D = false ∧ (mcall P s.as d f xs K ∨ ocall P s.as d f xs K))
def each {α : Type} (f : Nat → α → CS) : List α → Nat → List CS
 | [],_=>[]
 | e :: l,i=>f i e :: each f l (i + 1)
theorem each_mem {α : Type} {f : Nat → α → CS} : ∀ {l : List α} {i j : Nat} {e : α},l[j]? = some e → f (i + j) e ∈ each f l i
 | [],_,_,_,h=>by simp at h
 | x :: l,i,0,e,h=>by simp at h; subst h; simp [each]
 | x :: l, i, j + 1, e, h => by
   simp at h
   have:=each_mem (f:=f) (i:=i + 1) h
   rw [show i + 1 + j = i + (j + 1) from by omega] at this
   simp [each,this]
theorem each_num {α : Type} {f : Nat → α → CS} {n : Nat} (h : ∀ i e,(f i e).n = n) : ∀ {l : List α} {i : Nat},∀ t ∈ each f l i,t.n = n
 | [],_,t,ht=>by simp [each] at ht
 | x :: l, i, t, ht => by
   simp only [each,List.mem_cons] at ht
   rcases ht with rfl | ht
   · exact h _ _
   · exact each_num h t ht
def nextC (s : CS) (d : Option Nat) (x : AV) : Option (List CS) :=
 match x with
 | .mi k n =>
   match rowAt s.rows k with
   | ⟨n', .mi km nm left _⟩ =>
     if n = n' ∧ nm = (rowAt s.rows km).ver ∧ k ≠ km then
      match left with
      | []=>some [s.put d (.r (.tu [.bo false]))]
      | e :: l=>some (each (fun i e'=>CS.put (s.row k ⟨n',.mi km nm ((e :: l).eraseIdx i) (some e')⟩) d (.r (.tu [.bo true,e'.1,e'.2]))) (e :: l) 0)
     else none
   | _=>none
 | _=>none
theorem nextC_ok {s : CS} {d : Option Nat} {x : AV} {L : List CS} (h : nextC s d x = some L) {K : AS → Prop} (hK : ∀ t ∈ L,K t.as) : sNext s.as d x K ∧ ∀ t ∈ L,t.n = s.n:=by
 unfold nextC at h
 split at h
 · rename_i k n
   split at h
   · rename_i n' km nm left cur hr
     split at h
     · rename_i hc
       have hr' : s.as.rows k = ⟨n',.mi km nm left cur⟩:=hr
       unfold sNext
       simp only [hr']
       split at h
       · injection h with h; subst h
         refine ⟨⟨hc.1,hc.2.1,hc.2.2,fun _=>?_,fun i e he=>by simp at he⟩,fun t ht=>?_⟩
         · rw [← as_put]; exact hK _ (by simp)
         · simp only [List.mem_singleton] at ht; rw [ht,put_num]
       · rename_i e l
         injection h with h; subst h
         refine ⟨⟨hc.1,hc.2.1,hc.2.2,fun h=>by simp at h,fun i e' he=>?_⟩,fun t ht=>?_⟩
         · rw [← as_row,← as_put]
           have:=each_mem (f:=fun i e'=>CS.put (s.row k ⟨n',.mi km nm ((e :: l).eraseIdx i) (some e')⟩) d (.r (.tu [.bo true,e'.1,e'.2]))) (i:=0) he
           rw [Nat.zero_add] at this
           exact hK _ this
         · exact each_num (fun i e=>by rw [put_num]; rfl) t ht
     · cases h
   · cases h
 · cases h
def opC (P : Program) (call : Caller) (D : Bool) (o : Oper) (s : CS) : Option (List CS) :=
 match o.op with
 | .call ⟨.value f, args, _⟩ =>
   match call D s o.dst (s.as.ev f) (args.toList.map s.as.ev) with
   | some t=>some [t]
   | none=>none
 | .next x false=>if D then none else nextC s o.dst (s.as.ev x)
 | _ =>
   if (step P o s.as).pre then
    if D && cls o == 2 && !((rowAt s.rows (o.dst.getD 0)).c.isDead && o.dst.isSome) then none
    else some [s.app o.dst (step P o s.as).y]
   else none
theorem opC_ok {P : Program} {call : Caller} (hcall : call.ok P) {D : Bool} {o : Oper} {s : CS} {L : List CS} (h : opC P call D o s = some L) {K : AS → Prop} (hK : ∀ t ∈ L,K t.as) : xop P D o K s.as ∧ ∀ t ∈ L,t.n = s.n:=by
 unfold opC at h
 split at h
 · rename_i f args ts ho
   split at h
   · rename_i t ht
     injection h with h; subst h
     obtain ⟨hn,hc⟩:=hcall _ _ _ _ _ _ ht
     have hc:=hc K (hK t (by simp))
     refine ⟨?_,fun t' ht'=>by simp only [List.mem_singleton] at ht'; rw [ht']; exact hn⟩
     unfold xop
     split
     · rename_i hD
       unfold aop
       rw [ho]
       rcases hc with hc | ⟨hc,_⟩
       · exact .inl hc
       · rw [hD] at hc; cases hc
     · rw [ho]
       rcases hc with hc | ⟨_,hc⟩
       · exact .inl hc
       · exact .inr (hc.imp id .inl)
   · cases h
 · rename_i x ho
   split at h
   · cases h
   · rename_i hD
     have:=nextC_ok h hK
     refine ⟨?_,this.2⟩
     unfold xop
     rw [if_neg hD,ho]
     exact this.1
 · rename_i h1 h2
   split at h
   · rename_i hp
     split at h
     · cases h
     · rename_i hdead
       injection h with h; subst h
       refine ⟨?_,fun t ht=>by simp only [List.mem_singleton] at ht; rw [ht,app_num]⟩
       have key : ∀ D',(D' = true → D = true) → aop P D' o K s.as:=fun D' hD'=>by
        unfold aop
        split
        · rename_i f args ts ho; exact (h1 f args ts ho).elim
        · rename_i x ho; exact (h2 x ho).elim
        · refine ⟨hp,fun hD hc=>?_,fun _=>?_⟩
          · have hD:=hD' hD
            cases e : ((rowAt s.rows (o.dst.getD 0)).c.isDead && o.dst.isSome) with
            | false=>exact (hdead (by simp only [hD,hc,e]; rfl)).elim
            | true =>
              simp only [Bool.and_eq_true] at e
              exact ⟨isDead_iff.2 e.1,e.2⟩
          · rw [← as_app]; exact hK _ (by simp)
       unfold xop
       split
       · rename_i hD; exact key true fun _=>hD
       · split
         · rename_i f args ts ho; exact (h1 f args ts ho).elim
         · rename_i x ho; exact (h2 x ho).elim
         · exact key false fun h=>by cases h
   · cases h
def runOps (P : Program) (call : Caller) (D : Bool) (ops : Array Oper) : List Oper → CS → Option (List CS)
 | [],s=>some [s]
 | o :: rest, s =>
   match o.guard with
   | none=>bindL (opC P call D o s) (runOps P call D ops rest)
   | some (g, want) =>
     match ((ops[g]?).bind (·.dst) : Option Nat) with
     | none=>runOps P call D ops rest (s.put o.dst (.r .ud))
     | some t =>
       match nth s.tm t with
       | .r (.bo b)=>if b == want then bindL (opC P call D o s) (runOps P call D ops rest) else runOps P call D ops rest (s.put o.dst (.r .ud))
       | .r .ud=>runOps P call D ops rest (s.put o.dst (.r .ud))
       | _=>none
theorem runOps_ok {P : Program} {call : Caller} (hcall : call.ok P) {D : Bool} {ops : Array Oper} {K : AS → Prop} : ∀ (l : List Oper) {s : CS} {L : List CS},runOps P call D ops l s = some L → (∀ t ∈ L,t.n = s.n → K t.as) → aops P D ops l K s.as
 | [], s, L, h, hK => by
   unfold runOps at h
   injection h with h; subst h
   exact hK s (by simp) rfl
 | o :: l, s, L, h, hK => by
   have go : ∀ {s1 : CS},s1.n = s.n → bindL (opC P call D o s1) (runOps P call D ops l) = some L → xop P D o (aops P D ops l K) s1.as:=fun hn h=>by
    obtain ⟨l1,h1,h2⟩:=bindL_spec h
    have hnum:=(opC_ok hcall h1 (K:=fun _=>True) fun _ _=>trivial).2
    refine (opC_ok hcall h1 fun t ht=>?_).1
    obtain ⟨ys,hys,hsub⟩:=h2 t ht
    exact runOps_ok hcall l hys fun t' ht' hn'=>hK t' (hsub t' ht') (by rw [hn',hnum t ht,hn])
   have sk : runOps P call D ops l (s.put o.dst (.r .ud)) = some L → aops P D ops l K (s.as.put o.dst (.r .ud)):=fun h=>by
    rw [← as_put]
    exact runOps_ok hcall l h fun t ht hn=>hK t ht (by rw [hn,put_num])
   unfold runOps at h
   unfold aops
   split at h
   · rename_i hg
     rw [hg]
     exact go rfl h
   · rename_i g want hg
     rw [hg]
     dsimp only
     split at h
     · rename_i ht; rw [ht]; exact sk h
     · rename_i t ht
       rw [ht]
       dsimp only
       split at h
       · rename_i b hb
         have hb' : s.as.tm t = .r (.bo b):=hb
         rw [hb']
         dsimp only
         split at h
         · rename_i e
           have e : b = want:=by simpa using e
           subst e
           refine ⟨fun _=>?_,fun e=>(by cases b <;> cases e)⟩
           rw [put_self hb']
           exact go rfl h
         · rename_i e
           have e : b = !want:=by cases b <;> cases want <;> simp_all
           subst e
           refine ⟨fun e=>(by cases want <;> cases e),fun _=>?_⟩
           rw [put_self hb']
           exact sk h
       · rename_i hb
         have hb' : s.as.tm t = .r .ud:=hb
         rw [hb']
         exact sk h
       · cases h
def codeOk (n : Nat) : Code → Bool
 | .region _ ops _=>dstOk ops n
 | .seq a b=>codeOk n a && codeOk n b
 | .cond _ a b=>codeOk n a && codeOk n b
 | .block _ c=>codeOk n c
 | .loop c=>codeOk n c
 | _=>true
structure Modes where
 fs : List (FuncId × Nat)
def modeOf : List (FuncId × Nat) → FuncId → Option Nat
 | [],_=>none
 | (g,m) :: l,f=>if f = g then some m else modeOf l f
def fnOk (P : Program) (f : FuncId) : Bool :=
 match P.funcs[f]? with
 | some fn => match fn.body with
   | some c=>codeOk fn.ntmps c && callable P f
   | none=>false
 | none=>false
def allOk (P : Program) : List (FuncId × Nat) → Bool
 | []=>true
 | (f,_) :: l=>fnOk P f && allOk P l
theorem allOk_get {P : Program} : ∀ {l : List (FuncId × Nat)} {f : FuncId} {m : Nat},allOk P l = true → modeOf l f = some m → fnOk P f = true
 | [],_,_,_,h=>by simp [modeOf] at h
 | (g, k) :: l, f, m, ha, h => by
   simp only [allOk,Bool.and_eq_true] at ha
   unfold modeOf at h
   split at h
   · rename_i e; subst e; exact ha.1
   · exact allOk_get ha.2 h
mutual
def snapB (rows : Nat → Row) : AV → Bool
 | .r _=>true
 | .os k n sz off m=>n == (rows k).ver && match (rows k).c with | .arr _ sz' es=>sz == sz' && decide (off + m ≤ es.length) | _=>false
 | .pt k n off=>n == (rows k).ver && match (rows k).c with | .box cs=>snap1B rows (cs.drop off) | _=>false
 | .pe k n sz idx _=>n == (rows k).ver && match (rows k).c with | .arr _ sz' es=>sz == sz' && decide (idx < es.length) | _=>false
 | .fn _ cs=>snapBL rows cs
 | .ag cs=>snapBL rows cs
 | .tu cs=>snapBL rows cs
 | .mp _ _=>false
 | .mi _ _=>false
 | .pu _ _ _=>false
def snapBL (rows : Nat → Row) : List AV → Bool
 | []=>true
 | x :: xs=>snapB rows x && snapBL rows xs
def snap1B (rows : Nat → Row) : List AV → Bool
 | []=>true
 | .os k n sz off m :: xs=>(n == (rows k).ver && match (rows k).c with | .arr _ sz' es=>sz == sz' && decide (off + m ≤ es.length) | _=>false) && snap1B rows xs
 | _ :: xs=>snap1B rows xs
end
end Go.Oc

namespace Go.Oc
open Go Go.RowKit
section
variable {rows : Nat → Row}
theorem osB {k n sz off m : Nat} (h : (n == (rows k).ver && match (rows k).c with | .arr _ sz' es=>sz == sz' && decide (off + m ≤ es.length) | _=>false) = true) :
 n = (rows k).ver ∧ match (rows k).c with | .arr _ sz' es=>sz = sz' ∧ off + m ≤ es.length | .arc _ sz' es _=>sz = sz' ∧ off + m ≤ es.length | _=>False:=by
 simp only [Bool.and_eq_true,beq_iff_eq] at h
 refine ⟨h.1,?_⟩
 have h:=h.2
 split at h
 · rename_i e; simp only [e]; simpa using h
 · cases h
theorem snap1B_ok : ∀ (xs : List AV),snap1B rows xs = true → snap1PL rows xs
 | [],_=>trivial
 | x :: xs, h => by
   cases x with
   | os k n sz off m =>
     simp only [snap1B,Bool.and_eq_true (_ && _)] at h
     exact ⟨osB h.1,snap1B_ok xs h.2⟩
   | _=>simp only [snap1B] at h; exact ⟨trivial,snap1B_ok xs h⟩
mutual
theorem snapB_ok : ∀ (x : AV),snapB rows x = true → snapP rows x
 | .r _,_=>by simp only [snapP]
 | .os k n sz off m,h=>by simp only [snapB] at h; simp only [snapP]; exact ⟨(osB h).1,osP (osB h).2⟩
 | .pt k n off, h => by
   simp only [snapB,Bool.and_eq_true,beq_iff_eq] at h
   simp only [snapP]
   refine ⟨h.1,?_⟩
   have h:=h.2
   generalize (rows k).c = c at h ⊢
   cases c <;> first | exact snap1B_ok _ h | cases h
 | .pe k n sz idx _, h => by
   simp only [snapB,Bool.and_eq_true,beq_iff_eq] at h
   simp only [snapP]
   refine ⟨h.1,?_⟩
   have h:=h.2
   generalize (rows k).c = c at h ⊢
   cases c <;> first | (simp only [Bool.and_eq_true,beq_iff_eq,decide_eq_true_eq] at h; exact h) | cases h
 | .fn _ cs,h=>by simp only [snapB] at h; simp only [snapP]; exact snapBL_ok cs h
 | .ag cs,h=>by simp only [snapB] at h; simp only [snapP]; exact snapBL_ok cs h
 | .tu cs,h=>by simp only [snapB] at h; simp only [snapP]; exact snapBL_ok cs h
 | .mp _ _,h=>by simp [snapB] at h
 | .mi _ _,h=>by simp [snapB] at h
 | .pu _ _ _,h=>by simp [snapB] at h
theorem snapBL_ok : ∀ (xs : List AV),snapBL rows xs = true → snapPL rows xs
 | [],_=>trivial
 | x :: xs, h => by
   simp only [snapBL,Bool.and_eq_true] at h
   exact ⟨snapB_ok x h.1,snapBL_ok xs h.2⟩
end
end
instance {P : Program} {s : AS} {v : ResultVar} : Decidable (resA P s v).pre:=match v with
 | .tmp _=>.isTrue trivial
 | .cell a t=>inferInstanceAs (Decidable (sLoad P s t (s.tm a)).pre)
def resList (P : Program) (s : AS) : List ResultVar → Option (List RV)
 | []=>some []
 | v :: vs =>
   if (resA P s v).pre then
    if snapB s.rows (resA P s v).y.av then
     match resList P s vs with
     | some rs=>some (snapV s.rows (resA P s v).y.av :: rs)
     | none=>none
    else none
   else none
theorem resList_ok {P : Program} {s : AS} : ∀ {vs : List ResultVar} {rs : List RV},resList P s vs = some rs → resOk P s vs rs
 | [],rs,h=>by injection h with h; exact h.symm
 | v :: vs, rs, h => by
   unfold resList at h
   split at h
   · rename_i hp
     split at h
     · rename_i hs
       split at h
       · rename_i rs' hr
         injection h with h; subst h
         exact ⟨hp,snapB_ok _ hs,_,rs',rfl,leL_refl.le_refl _,resList_ok hr⟩
       · cases h
     · cases h
   · cases h
abbrev Outs:=List (Exit × CS)
def endRs (P : Program) (res : List ResultVar) (x : Exit × CS) : Option (List RV) :=
 match x.1 with
 | .normal=>resList P x.2.as res
 | .ret=>resList P x.2.as res
 | _=>none
theorem endRs_ok {P : Program} {res : List ResultVar} {x : Exit × CS} {rs : List RV} (h : endRs P res x = some rs) : fpostL P res rs x.1 x.2.as:=by
 obtain ⟨e,t⟩:=x
 unfold endRs at h
 cases e <;> first | exact resList_ok h | cases h
def sameRs : List RV → List RV → Bool
 | [],[]=>true
 | .bo a :: l,.bo b :: l'=>(a == b) && sameRs l l'
 | .it .i64 a :: l,.it .i64 b :: l'=>(a == b) && sameRs l l'
 | _,_=>false
theorem sameRs_ok : ∀ {l l' : List RV},sameRs l l' = true → l = l':=fun {l l'} h=>by
 fun_induction sameRs l l' with
 | case1=>rfl
 | case2 a l b l' ih=>simp only [Bool.and_eq_true,beq_iff_eq] at h; rw [h.1,ih h.2]
 | case3 a l b l' ih=>simp only [Bool.and_eq_true,beq_iff_eq] at h; rw [h.1,ih h.2]
 | case4=>cases h
def agree (P : Program) (res : List ResultVar) : Outs → Option (List RV)
 | []=>none
 | [x]=>endRs P res x
 | x :: l => match endRs P res x, agree P res l with
   | some r,some r'=>if sameRs r r' then some r else none
   | _,_=>none
theorem agree_ok {P : Program} {res : List ResultVar} : ∀ {L : Outs} {rs : List RV},agree P res L = some rs → ∀ x ∈ L,fpostL P res rs x.1 x.2.as
 | [],_,h=>by simp [agree] at h
 | [x], rs, h => fun y hy => by
   simp only [List.mem_singleton] at hy
   subst hy
   exact endRs_ok (by simpa only [agree] using h)
 | x :: y :: l, rs, h => fun z hz => by
   simp only [agree] at h
   split at h
   · rename_i r r' h1 h2
     split at h
     · rename_i e
       injection h with h; subst h
       have e:=sameRs_ok e
       subst e
       rcases List.mem_cons.1 hz with rfl | hz
       · exact endRs_ok h1
       · exact agree_ok (L:=y :: l) h2 z hz
     · cases h
   · cases h
def isEnd : Exit → Bool
 | .normal=>true
 | .ret=>true
 | _=>false
def callA (P : Program) (ex : Code → CS → Option Outs) (fn : Func) (c : Code) (args : List RV) : Option RV :=
 if args.length ≤ fn.ntmps then
  match ex c ⟨fn.ntmps,args.map .r,[]⟩ with
  | some L => match agree P fn.results.toList L with
    | some rs=>some (resV rs)
    | none=>none
  | none=>none
 else none
def callO (P : Program) (ex : Code → CS → Option Outs) (fn : Func) (c : Code) (args : List RV) : Option (Nat × Nat × List (List RV) × Nat) :=
 if args.length ≤ fn.ntmps then
  match fn.results.toList,ex c ⟨fn.ntmps,args.map .r,[]⟩ with
  | [rv], some [(e, t)] =>
    if isEnd e then
    if (resA P t.as rv).pre then
     match (resA P t.as rv).y.av with
     | .os j n sz off m =>
       match rowAt t.rows j with
       | ⟨n',.arr ty sz' es⟩=>if n == n' && sz == sz' && off == 0 && es.all RV.flatL then some (ty,sz,es,m) else none
       | _=>none
     | _=>none
    else none
    else none
  | _,_=>none
 else none
mutual
def keysA : AV → List Nat
 | .pt k _ _=>[k]
 | .pe k _ _ _ _=>[k]
 | .os k _ _ _ _=>[k]
 | .mp k _=>[k]
 | .fn _ cs=>keysL cs
 | .ag cs=>keysL cs
 | .tu cs=>keysL cs
 | _=>[]
def keysL : List AV → List Nat
 | []=>[]
 | x :: xs=>keysA x ++ keysL xs
end
def keysB (rows : Nat → Row) : List Nat → List Nat
 | []=>[]
 | k :: ks=>k :: ((match (rows k).c with | .box cs=>keysL cs | _=>[]) ++ keysB rows ks)
def mkRho : List Nat → Nat → List (Nat × Nat)
 | [],_=>[]
 | k :: ks,i=>if (k :: ks).length > 1 && ks.contains k then mkRho ks i else (i,k) :: mkRho ks (i + 1)
def lendRows (ρ : List (Nat × Nat)) (s : AS) : List (Nat × Nat) → Option (List (Nat × RowC))
 | []=>some []
 | (pk, ck) :: l => match lendC ρ s.ver (s.rows ck).c, lendRows ρ s l with
   | some c,some L=>some ((pk,c) :: L)
   | _,_=>none
theorem lendRows_ok {ρ : List (Nat × Nat)} {s : AS} : ∀ {l : List (Nat × Nat)} {L : List (Nat × RowC)},lendRows ρ s l = some L → lendOk ρ s l L
 | [],L,h=>by injection h with h; subst h; trivial
 | (pk, ck) :: l, L, h => by
   unfold lendRows at h
   split at h
   · rename_i c L' h1 h2
     injection h with h; subst h
     exact ⟨rfl,h1,lendRows_ok h2⟩
   · cases h
def frzB (ks : List (Nat × RowC)) (rows : Nat → Row) : AV → Bool
 | .os j n sz off m=>if keyIn ks j then true else (decide (j < 1000) && snapB rows (.os j n sz off m))
 | _=>true
theorem frzB_ok {ks : List (Nat × RowC)} {rows : Nat → Row} {x : AV} (h : frzB ks rows x = true) : frzP1 ks rows x:=by
 cases x with
 | os j n sz off m =>
   simp only [frzB] at h
   simp only [frzP1]
   split at h
   · rename_i e; rw [if_pos e]; trivial
   · rename_i e
     rw [if_neg e]
     simp only [Bool.and_eq_true,decide_eq_true_eq] at h
     refine ⟨h.1,?_⟩
     have h2:=h.2
     simp only [snapB] at h2
     have h3:=osB h2
     refine ⟨h3.1,?_⟩
     have h4:=h3.2
     generalize (rows j).c = c at h4 ⊢
     cases c <;> exact h4
 | _=>simp only [frzP1]
def frzBL (ks : List (Nat × RowC)) (rows : Nat → Row) : List AV → Bool
 | []=>true
 | x :: xs=>frzB ks rows x && frzBL ks rows xs
theorem frzBL_ok {ks : List (Nat × RowC)} {rows : Nat → Row} : ∀ {xs : List AV},frzBL ks rows xs = true → frzPL ks rows xs
 | [],_=>trivial
 | x :: xs, h => by
   simp only [frzBL,Bool.and_eq_true] at h
   exact ⟨frzB_ok h.1,frzBL_ok h.2⟩
def frzBC (ks : List (Nat × RowC)) (rows : Nat → Row) : RowC → Bool
 | .box cs=>frzBL ks rows cs
 | _=>true
theorem frzBC_ok {ks : List (Nat × RowC)} {rows : Nat → Row} {c : RowC} (h : frzBC ks rows c = true) : frzPC ks rows c:=by
 cases c <;> first | exact frzBL_ok h | trivial
def finM (ks : List (Nat × RowC)) (rows : Nat → Row) : List (Nat × RowC) → Option (List (Nat × RowC))
 | []=>some []
 | (k,_) :: L=>if okC (rows k).c && frzBC ks rows (rows k).c then match finM ks rows L with | some L'=>some ((k,frzC ks rows (rows k).c) :: L') | none=>none else none
theorem finM_ok {ks : List (Nat × RowC)} {rows : Nat → Row} : ∀ {L L' : List (Nat × RowC)},finM ks rows L = some L' → mfin ks rows L L'
 | [],L',h=>by injection h with h; subst h; trivial
 | (k, c) :: L, L', h => by
   unfold finM at h
   split at h
   · rename_i hc
     simp only [Bool.and_eq_true] at hc
     split at h
     · rename_i L'' h2
       injection h with h; subst h
       exact ⟨rfl,hc.1,frzBC_ok hc.2,rfl,finM_ok h2⟩
     · cases h
   · cases h
def resListM (P : Program) (ks : List (Nat × RowC)) (s : AS) : List ResultVar → Option (List AV)
 | []=>some []
 | v :: vs =>
   if (resA P s v).pre then
    if frzB ks s.rows (resA P s v).y.av then
     match resListM P ks s vs with
     | some rs=>some (frz1 ks s.rows (resA P s v).y.av :: rs)
     | none=>none
    else none
   else none
theorem resListM_ok {P : Program} {ks : List (Nat × RowC)} {s : AS} : ∀ {vs : List ResultVar} {rs : List AV},resListM P ks s vs = some rs → resM P ks s vs rs
 | [],rs,h=>by injection h with h; exact h.symm
 | v :: vs, rs, h => by
   unfold resListM at h
   split at h
   · rename_i hp
     split at h
     · rename_i hs
       split at h
       · rename_i rs' hr
         injection h with h; subst h
         exact ⟨hp,frzB_ok hs,rs',rfl,resListM_ok hr⟩
       · cases h
     · cases h
   · cases h
def rowsOf : List (Nat × RowC) → List (Nat × Row)
 | []=>[]
 | (k,c) :: L=>(k,⟨0,c⟩) :: rowsOf L
def callM (P : Program) (ex : Code → CS → Option Outs) (fn : Func) (c : Code) (L : List (Nat × RowC)) (args : List AV) : Option (List (Nat × RowC) × AV) :=
 if args.length ≤ fn.ntmps && pinned L then
  match ex c ⟨fn.ntmps,args,rowsOf L⟩ with
  | some [(e, t)] =>
    if isEnd e then
     match finM L t.as.rows L,resListM P L t.as fn.results.toList with
     | some L',some rs=>some (L',resMV rs)
     | _,_=>none
    else none
  | _=>none
 else none
def putRows (s : CS) (L' : List (Nat × RowC)) (ver : Nat → Nat) (ρ : List (Nat × Nat)) : List (Nat × Nat) → CS
 | []=>s
 | (pk,ck) :: l=>putRows (s.row ck ⟨ver ck,backC ρ ver (lookc L' pk)⟩) L' ver ρ l
def callC (P : Program) (fs : List (FuncId × Nat)) (ex : Code → CS → Option Outs) : Caller:=fun D s d f xs =>
 match callee? f with
 | none=>none
 | some (F, cs) =>
   match modeOf fs F,P.funcs[F]? with
   | some m, some fn =>
     match fn.body with
     | none=>none
     | some c =>
       if m == 1 && !D then
        match d with
        | some dd =>
          if snapBL s.as.rows (xs ++ cs) && decide (dd < 1000) then
           match callO P ex fn c (snapVL s.as.rows (xs ++ cs)) with
           | some (t,sz,es,m)=>some ((s.row dd ⟨(s.as.rows dd).ver + 1,.arr t sz es⟩).put d (.os dd ((s.as.rows dd).ver + 1) sz 0 m))
           | none=>none
          else none
        | none=>none
       else if m == 2 && !D then
        let ρ:=mkRho (keysB s.as.rows (keysL (xs ++ cs))) 1000
        match lendL ρ s.as.ver (xs ++ cs),lendRows ρ s.as ρ with
        | some args, some L =>
          match callM P ex fn c L args with
          | some (L',r)=>if apart ρ && sameKeys ρ L' then some ((putRows s L' s.as.ver ρ ρ).put d (backA ρ s.as.ver r)) else none
          | none=>none
        | _,_=>none
       else if snapBL s.as.rows (xs ++ cs) then
        match callA P ex fn c (snapVL s.as.rows (xs ++ cs)) with
        | some r=>if r.flatB || AV.pureL (xs ++ cs) then some (s.put d (.r r)) else none
        | none=>none
       else none
   | _,_=>none
mutual
def RV.dl : RV → RV → Bool
 | .ns,.sl _ []=>true
 | .sl s es,.sl t fs=>s == t && RV.dlE es fs
 | .ag xs,.ag ys=>RV.dlL xs ys
 | .rp xs,.rp ys=>RV.dlL xs ys
 | .fn f xs,.fn g ys=>f == g && RV.dlL xs ys
 | .it .i64 n,.it .i64 m=>n == m
 | .bo a,.bo b=>a == b
 | .ns,.ns=>true
 | .np,.np=>true
 | .nf,.nf=>true
 | _,_=>false
def RV.dlL : List RV → List RV → Bool
 | [],[]=>true
 | x :: xs,y :: ys=>RV.dl x y && RV.dlL xs ys
 | _,_=>false
def RV.dlE : List (List RV) → List (List RV) → Bool
 | [],[]=>true
 | x :: xs,y :: ys=>RV.dlL x y && RV.dlE xs ys
 | _,_=>false
end
theorem dlL_len : ∀ {xs ys : List RV},RV.dlL xs ys = true → xs.length = ys.length
 | [],[],_=>rfl
 | x :: xs, y :: ys, h => by
   simp only [RV.dlL,Bool.and_eq_true] at h
   simp [dlL_len h.2]
 | [],_ :: _,h=>by simp [RV.dlL] at h
 | _ :: _,[],h=>by simp [RV.dlL] at h
theorem dlE_len : ∀ {xs ys : List (List RV)},RV.dlE xs ys = true → xs.length = ys.length
 | [],[],_=>rfl
 | x :: xs, y :: ys, h => by
   simp only [RV.dlE,Bool.and_eq_true] at h
   simp [dlE_len h.2]
 | [],_ :: _,h=>by simp [RV.dlE] at h
 | _ :: _,[],h=>by simp [RV.dlE] at h
section
variable {w : World} {R : Nat → Prop}
mutual
theorem dl_rel : ∀ (x y : RV) (v : Value),RV.dl x y = true → x.rel w R v → y.rel w R v
 | .ns, .sl sz [], v, _, h => by
   simp only [RV.rel] at h ⊢
   obtain ⟨A,rfl⟩:=h
   exact ⟨A,0,rfl,Nat.le_refl _,Nat.zero_le _,fun h=>absurd rfl h⟩
 | .sl s es, .sl t fs, v, hd, h => by
   simp only [RV.dl,Bool.and_eq_true,beq_iff_eq] at hd
   obtain ⟨rfl,hd⟩:=hd
   have hl:=dlE_len hd
   simp only [RV.rel] at h ⊢
   obtain ⟨A,c,hv,h1,h2,h3⟩:=h
   refine ⟨A,c,by rw [← hl]; exact hv,by rw [← hl]; exact h1,h2,fun hne=>?_⟩
   obtain ⟨ad,e,hr,hc⟩:=h3 (fun e=>hne (by rw [e] at hl; exact List.eq_nil_of_length_eq_zero hl.symm))
   exact ⟨ad,e,hr,dl_relE s es fs ad 0 hd hc⟩
 | .ag xs, .ag ys, v, hd, h => by
   simp only [RV.dl] at hd
   simp only [RV.rel] at h ⊢
   obtain ⟨vs,e,h1,hV⟩:=h
   exact ⟨vs,e,h1,dl_relV xs ys _ hd hV⟩
 | .rp xs, .rp ys, v, hd, h => by
   simp only [RV.dl] at hd
   simp only [RV.rel] at h ⊢
   obtain ⟨ad,e,hR,hC⟩:=h
   exact ⟨ad,e,hR,dl_relC xs ys _ _ hd hC⟩
 | .fn f xs, .fn g ys, v, hd, h => by
   simp only [RV.dl,Bool.and_eq_true,beq_iff_eq] at hd
   simp only [RV.rel] at h ⊢
   obtain ⟨vs,e,hV⟩:=h
   exact ⟨vs,by rw [← hd.1]; exact e,dl_relV xs ys _ hd.2 hV⟩
 | .it .i64 n, .it .i64 m, v, hd, h => by
   simp only [RV.dl,beq_iff_eq] at hd
   subst hd; exact h
 | .bo a, .bo b, v, hd, h => by
   simp only [RV.dl,beq_iff_eq] at hd
   subst hd; exact h
 | .ns,.ns,_,_,h=>h
 | .np,.np,_,_,h=>h
 | .nf,.nf,_,_,h=>h
theorem dl_relV : ∀ (xs ys : List RV) (vs : List Value),RV.dlL xs ys = true → RV.relV w R xs vs → RV.relV w R ys vs
 | [],[],_,_,h=>h
 | x :: xs, y :: ys, vs, hle, h => by
   simp only [RV.dlL,Bool.and_eq_true] at hle
   simp only [RV.relV] at h ⊢
   obtain ⟨u,us,e,h1,h2⟩:=h
   exact ⟨u,us,e,dl_rel x y u hle.1 h1,dl_relV xs ys us hle.2 h2⟩
 | [],_ :: _,_,hle,_=>by simp [RV.dlL] at hle
 | _ :: _,[],_,hle,_=>by simp [RV.dlL] at hle
theorem dl_relC : ∀ (xs ys : List RV) (ad : Addr) (j : Nat),RV.dlL xs ys = true → RV.relC w R xs ad j → RV.relC w R ys ad j
 | [],[],_,_,_,h=>h
 | x :: xs, y :: ys, ad, j, hle, h => by
   simp only [RV.dlL,Bool.and_eq_true] at hle
   simp only [RV.relC] at h ⊢
   obtain ⟨⟨u,hu,ho,h1⟩,h2⟩:=h
   exact ⟨⟨u,hu,ho,dl_rel x y u hle.1 h1⟩,dl_relC xs ys ad (j + 1) hle.2 h2⟩
 | [],_ :: _,_,_,hle,_=>by simp [RV.dlL] at hle
 | _ :: _,[],_,_,hle,_=>by simp [RV.dlL] at hle
theorem dl_relE : ∀ (sz : Nat) (xs ys : List (List RV)) (ad : Addr) (j : Nat),RV.dlE xs ys = true → RV.relE w R sz xs ad j → RV.relE w R sz ys ad j
 | _,[],[],_,_,_,h=>h
 | sz, x :: xs, y :: ys, ad, j, hle, h => by
   simp only [RV.dlE,Bool.and_eq_true] at hle
   simp only [RV.relE] at h ⊢
   exact ⟨by rw [← dlL_len hle.1]; exact h.1,dl_relC x y ad j hle.1 h.2.1,dl_relE sz xs ys ad (j + sz) hle.2 h.2.2⟩
 | _,[],_ :: _,_,_,hle,_=>by simp [RV.dlE] at hle
 | _,_ :: _,[],_,_,hle,_=>by simp [RV.dlE] at hle
end
end
theorem acalls_dl {P : Program} {f : FuncId} {xs ys : List RV} {r : RV} (h : ACalls P f ys r) (hd : RV.dlL xs ys = true) : ACalls P f xs r :=
 ⟨h.1,fun w R vs hR hv=>h.2 w R vs hR (dl_relV xs ys _ hd hv)⟩
abbrev Orc:=List (FuncId × List RV × RV)
def orcGet : Orc → FuncId → List RV → Option RV
 | [],_,_=>none
 | (g,ys,r) :: l,f,xs=>if f == g && RV.dlL xs ys then some r else orcGet l f xs
def orcOk (P : Program) : Orc → Prop
 | []=>True
 | (g,ys,r) :: l=>ACalls P g ys r ∧ orcOk P l
theorem orcGet_ok {P : Program} : ∀ {l : Orc} {f : FuncId} {xs : List RV} {r : RV},orcOk P l → orcGet l f xs = some r → ACalls P f xs r
 | [],_,_,_,_,h=>by simp [orcGet] at h
 | (g, ys, r') :: l, f, xs, r, ho, h => by
   unfold orcGet at h
   split at h
   · rename_i hc
     simp only [Bool.and_eq_true,beq_iff_eq] at hc
     injection h with h; subst h
     rw [hc.1]
     exact acalls_dl ho.1 hc.2
   · exact orcGet_ok ho.2 h
def callR (orc : Orc) : Caller:=fun _ s d f xs =>
 match callee? f with
 | none=>none
 | some (F, cs) =>
   if snapBL s.as.rows (xs ++ cs) then
    match orcGet orc F (snapVL s.as.rows (xs ++ cs)) with
    | some r=>if r.flatB || AV.pureL (xs ++ cs) then some (s.put d (.r r)) else none
    | none=>none
   else none
def callX (P : Program) (fs : List (FuncId × Nat)) (orc : Orc) (ex : Code → CS → Option Outs) : Caller:=fun D s d f xs =>
 match callC P fs ex D s d f xs with
 | some t=>some t
 | none=>callR orc D s d f xs
def norm : List CS → Outs
 | []=>[]
 | t :: l=>(.normal,t) :: norm l
def leave (id : Nat) : Exit → Exit
 | .exit id'=>if id' = id then .normal else .exit id'
 | e=>e
def blk (id : Nat) : Outs → Outs
 | []=>[]
 | (e,t) :: l=>(leave id e,t) :: blk id l
def killOps : List Oper → CS → CS
 | [],s=>s
 | o :: l,s=>if cls o == 2 && decide (o.dst.getD 0 < 1000) then killOps l (s.row (o.dst.getD 0) ⟨(rowAt s.rows (o.dst.getD 0)).ver + 1,.dead⟩) else killOps l s
def killD (D : Bool) (l : List Oper) (s : CS) : CS:=match D with | true=>killOps l s | false=>s
def slots : List Operand → List Nat
 | []=>[]
 | .tmp t :: l=>t :: slots l
 | _ :: l=>slots l
def kappa (ops : Array Oper) (s : CS) : List Oper → List (Nat × Option Nat)
 | []=>[]
 | o :: l=>(slots o.op.operands.toList).map (fun t=>(t,keyOf (nth s.tm t))) ++ kappa ops s l
def drawOk (D : Bool) (ops : Array Oper) (s : CS) : Bool:=!D || lexOk ops || lexOk2 ops (kappa ops s ops.toList)
def exec (P : Program) (fs : List (FuncId × Nat)) (orc : Orc) : Nat → Code → CS → Option Outs
 | 0,_,_=>none
 | k + 1,.region _ ops D,s=>if drawOk D ops (killD D ops.toList s) then match runOps P (callX P fs orc (exec P fs orc k)) D ops ops.toList (killD D ops.toList s) with | some L=>some (norm L) | none=>none else none
 | k + 1,.seq a b,s=>bindL (exec P fs orc k a s) fun x=>match x.1 with | .normal=>exec P fs orc k b x.2 | e=>some [(e,x.2)]
 | k + 1,.loop c,s=>bindL (exec P fs orc k c s) fun x=>match x.1 with | .normal=>exec P fs orc k (.loop c) x.2 | e=>some [(e,x.2)]
 | k + 1,.cond c a b,s=>match s.as.ev c with | .r (.bo t)=>bif t then exec P fs orc k a s else exec P fs orc k b s | _=>none
 | k + 1,.block id c,s=>match exec P fs orc k c s with | some L=>some (blk id L) | none=>none
 | _ + 1,.skip,s=>some [(.normal,s)]
 | _ + 1,.label _,s=>some [(.normal,s)]
 | _ + 1,.exit id,s=>some [(.exit id,s)]
 | _ + 1,.ret,s=>some [(.ret,s)]
 | _ + 1,_,_=>none
def evalX (P : Program) (fs : List (FuncId × Nat)) (orc : Orc) (k : Nat) (F : FuncId) (args : List RV) : Option RV :=
 match P.funcs[F]? with
 | some fn => match fn.body with
   | some c=>callA P (exec P fs orc k) fn c args
   | none=>none
 | none=>none
def evalA (P : Program) (fs : List (FuncId × Nat)) (k : Nat) (F : FuncId) (args : List RV) : Option RV:=evalX P fs [] k F args
end Go.Oc

namespace Go.Oc
open Go Go.RowKit
section
variable {P : Program}
theorem norm_mem : ∀ {L : List CS} {t : CS},t ∈ L → (Exit.normal,t) ∈ norm L
 | [],_,h=>by simp at h
 | x :: l, t, h => by
   rcases List.mem_cons.1 h with rfl | h
   · simp [norm]
   · simp [norm,norm_mem h]
theorem blk_mem {id : Nat} : ∀ {L : Outs} {e : Exit} {t : CS},(e,t) ∈ L → (leave id e,t) ∈ blk id L
 | [],_,_,h=>by simp at h
 | (e', t') :: l, e, t, h => by
   rcases List.mem_cons.1 h with h | h
   · injection h with h1 h2; subst h1 h2; simp [blk]
   · simp [blk,blk_mem h]
theorem nth_look : ∀ (xs : List AV) (k t : Nat),look (argA k xs) (k + t) = nth xs t
 | [],_,_=>by simp [argA,look_nil,nth]
 | x :: xs,k,0=>by simp [argA,look_cons,nth]
 | x :: xs, k, t + 1 => by
   have:=nth_look xs (k + 1) t
   rw [show k + 1 + t = k + (t + 1) from by omega] at this
   simp only [argA,look_cons,nth,this]
   rw [if_neg (by omega)]
theorem argL_A : ∀ (xs : List RV) (k : Nat),argL k xs = argA k (xs.map .r)
 | [],_=>rfl
 | x :: xs,k=>by simp only [argL,argA,List.map_cons,argL_A xs]
theorem rowsOf_at : ∀ (L : List (Nat × RowC)) (k : Nat),rowAt (rowsOf L) k = ⟨0,lookc L k⟩
 | [],_=>rfl
 | (j, c) :: L, k => by
   simp only [rowsOf,rowAt,lookc_cons,rowsOf_at L k]
   split <;> rfl
theorem start_as {n : Nat} {xs : List AV} {L : List (Nat × RowC)} : (CS.mk n xs (rowsOf L)).as = st n (argA 0 xs) (fun _=>0) L:=by
 simp only [CS.as,st,AS.mk.injEq,true_and]
 refine ⟨?_,funext fun k=>rowsOf_at L k⟩
 funext t
 have:=nth_look xs 0 t
 rw [Nat.zero_add] at this
 exact this.symm
theorem start_as0 {n : Nat} {xs : List RV} : (CS.mk n (xs.map .r) []).as = st n (argL 0 xs) (fun _=>0) []:=by
 rw [argL_A]
 exact start_as (L:=[])
theorem as_putRows {L' : List (Nat × RowC)} {ver : Nat → Nat} {ρ : List (Nat × Nat)} : ∀ (l : List (Nat × Nat)) (s : CS),(putRows s L' ver ρ l).as = { s.as with rows:=backRows ρ ver L' l s.as.rows }
 | [],s=>rfl
 | (pk, ck) :: l, s => by
   simp only [putRows,as_putRows l,as_row,backRows]
   rfl
theorem putRows_num {L' : List (Nat × RowC)} {ver : Nat → Nat} {ρ : List (Nat × Nat)} : ∀ (l : List (Nat × Nat)) (s : CS),(putRows s L' ver ρ l).n = s.n
 | [],s=>rfl
 | (pk,ck) :: l,s=>by simp only [putRows,putRows_num l]; rfl
theorem killOps_sub : ∀ (l : List Oper) (s : CS),Sub s.as (killOps l s).as ∧ (killOps l s).n = s.n
 | [],s=>⟨Sub.refl _,rfl⟩
 | o :: l, s => by
   unfold killOps
   split
   · rename_i h
     simp only [Bool.and_eq_true,decide_eq_true_eq] at h
     obtain ⟨h1,h2⟩:=killOps_sub l (s.row (o.dst.getD 0) ⟨(rowAt s.rows (o.dst.getD 0)).ver + 1,.dead⟩)
     refine ⟨Sub.trans ?_ h1,h2⟩
     rw [as_row]
     exact sub_kill s.as (o.dst.getD 0) h.2
   · exact killOps_sub l s
theorem killD_sub (D : Bool) (l : List Oper) (s : CS) : Sub s.as (killD D l s).as ∧ (killD D l s).n = s.n:=by
 cases D with
 | true=>exact killOps_sub l s
 | false=>exact ⟨Sub.refl _,rfl⟩
def Good (P : Program) (ex : Code → CS → Option Outs) : Prop:=∀ c t L,codeOk t.n c = true → ex c t = some L → (∀ x ∈ L,x.2.n = t.n) ∧ ∀ C Q,(∀ x ∈ L,Q x.1 x.2.as) → awp P C c Q t.as
theorem callA_ok {ex : Code → CS → Option Outs} (hex : Good P ex) {F : FuncId} {fn : Func} {c : Code} {args : List RV} {r : RV} (hF : P.funcs[F]? = some fn) (hb : fn.body = some c) (hok : fnOk P F = true) (h : callA P ex fn c args = some r) : ACalls P F args r:=by
 unfold fnOk at hok
 simp only [hF,hb,Bool.and_eq_true] at hok
 unfold callA at h
 split at h
 · rename_i hlen
   split at h
   · rename_i L hL
     split at h
     · rename_i rs hrs
       injection h with h
       have hag:=agree_ok hrs
       refine acalls_of hF hb hok.2 rfl hlen h fun C=>zw (sub_look (argL 0 args) fun p hp=>?_) ?_
       · obtain ⟨i,x,rfl,e⟩:=argL_mem p hp
         simp only [argTm,Nat.zero_add,e]
       · have:=((hex c _ L hok.1 hL).2 C (fpost P fn rs) fun x hx=>?_)
         · rw [start_as0] at this
           exact this
         · have:=hag x hx
           obtain ⟨e,t⟩:=x
           cases e <;> exact this
     · cases h
   · cases h
 · cases h
theorem callO_ok {ex : Code → CS → Option Outs} (hex : Good P ex) {F : FuncId} {fn : Func} {c : Code} {args : List RV} {ty sz m : Nat} {es : List (List RV)} (hF : P.funcs[F]? = some fn) (hb : fn.body = some c) (hok : fnOk P F = true)
 (h : callO P ex fn c args = some (ty,sz,es,m)) : OCalls P F args ty sz es m:=by
 unfold fnOk at hok
 simp only [hF,hb,Bool.and_eq_true] at hok
 unfold callO at h
 split at h
 · rename_i hlen
   split at h
   · rename_i rv e t hres hL
     split at h
     · rename_i he
       split at h
       · rename_i hp
         split at h
         · rename_i j n sz1 off m1 hav
           split at h
           · rename_i n' ty1 sz' es1 hrow
             split at h
             · rename_i hc
               simp only [Bool.and_eq_true,beq_iff_eq,List.all_eq_true] at hc
               obtain ⟨⟨⟨h1,h2⟩,h3⟩,h4⟩:=hc
               subst h1 h2 h3
               injection h with h
               simp only [Prod.mk.injEq] at h
               obtain ⟨rfl,rfl,rfl,rfl⟩:=h
               refine ocalls_0 rv hF hb hok.2 rfl hres hlen h4 fun C=>?_
               have:=((hex c _ _ hok.1 hL).2 C (opostL P rv ty1 sz1 es1 m1) fun x hx=>?_)
               · rw [start_as0] at this
                 exact this
               · simp only [List.mem_singleton] at hx
                 subst hx
                 have key : resC (resA P t.as rv) fun v=>∃ j n,v = .os j n sz1 0 m1 ∧ t.as.rows j = ⟨n,.arr ty1 sz1 es1⟩:=⟨hp,j,n,hav,hrow⟩
                 cases e <;> first | exact key | cases he
             · cases h
           · cases h
         · cases h
       · cases h
     · cases h
   · cases h
 · cases h
theorem callM_ok {ex : Code → CS → Option Outs} (hex : Good P ex) {F : FuncId} {fn : Func} {c : Code} {L L' : List (Nat × RowC)} {args : List AV} {r : AV} (hF : P.funcs[F]? = some fn) (hb : fn.body = some c) (hok : fnOk P F = true)
 (h : callM P ex fn c L args = some (L',r)) : MCalls P F L L' args r:=by
 unfold fnOk at hok
 simp only [hF,hb,Bool.and_eq_true] at hok
 unfold callM at h
 split at h
 · rename_i hlen
   simp only [Bool.and_eq_true,decide_eq_true_eq] at hlen
   split at h
   · rename_i e t hL
     split at h
     · rename_i he
       split at h
       · rename_i L1 rs hfin hres
         injection h with h
         simp only [Prod.mk.injEq] at h
         obtain ⟨rfl,rfl⟩:=h
         refine mcalls_st (rs:=rs) L L1 fn.results.toList hF hb hok.2 rfl rfl hlen.1 rfl hlen.2 fun C=>?_
         have:=((hex c _ _ hok.1 hL).2 C (mpostL P fn.results.toList rs L L1) fun x hx=>?_)
         · rw [start_as] at this
           exact this
         · simp only [List.mem_singleton] at hx
           subst hx
           have key : resM P L t.as fn.results.toList rs ∧ mfin L t.as.rows L L1:=⟨resListM_ok hres,finM_ok hfin⟩
           cases e <;> first | exact key | cases he
       · cases h
     · cases h
   · cases h
 · cases h
theorem callC_ok {fs : List (FuncId × Nat)} (hfs : allOk P fs = true) {ex : Code → CS → Option Outs} (hex : Good P ex) : (callC P fs ex).ok P:=fun D s d f xs t h=>by
 unfold callC at h
 split at h
 · cases h
 · rename_i F cs hcal
   split at h
   · rename_i m fn hm hF
     have hok:=allOk_get hfs hm
     split at h
     · cases h
     · rename_i c hb
       split at h
       · rename_i hmode
         simp only [Bool.and_eq_true,beq_iff_eq,Bool.not_eq_true'] at hmode
         split at h
         · rename_i dd
           split at h
           · rename_i hsn
             simp only [Bool.and_eq_true,decide_eq_true_eq] at hsn
             split at h
             · rename_i ty sz es m' hO
               injection h with h; subst h
               refine ⟨put_num _ _ _,fun K hK=>.inr ⟨hmode.2,.inr ⟨F,cs,_,ty,sz,es,m',dd,hcal,snapBL_ok _ hsn.1,leL_refl _,callO_ok hex hF hb hok hO,rfl,hsn.2,?_⟩⟩⟩
               rw [as_put,as_row] at hK
               exact hK
             · cases h
           · cases h
         · cases h
       · split at h
         · rename_i hmode
           simp only [Bool.and_eq_true,beq_iff_eq,Bool.not_eq_true'] at hmode
           dsimp only at h
           split at h
           · rename_i args L hargs hL
             split at h
             · rename_i L' r hM
               split at h
               · rename_i hap
                 simp only [Bool.and_eq_true] at hap
                 injection h with h; subst h
                 refine ⟨(put_num _ _ _).trans (putRows_num _ _),fun K hK=>.inr ⟨hmode.2,.inl ⟨F,cs,_,L,L',args,r,hcal,hargs,lendRows_ok hL,hap.1,hap.2,callM_ok hex hF hb hok hM,?_⟩⟩⟩
                 rw [as_put,as_putRows] at hK
                 exact hK
               · cases h
             · cases h
           · cases h
         · split at h
           · rename_i hsn
             split at h
             · rename_i r hA
               split at h
               · rename_i hfl
                 simp only [Bool.or_eq_true] at hfl
                 injection h with h; subst h
                 refine ⟨put_num _ _ _,fun K hK=>.inl ⟨r,.inl ⟨F,cs,_,hcal,snapBL_ok _ hsn,leL_refl _,callA_ok hex hF hb hok hA,hfl⟩,?_⟩⟩
                 rw [as_put] at hK
                 exact hK
               · cases h
             · cases h
           · cases h
   · cases h
theorem callR_ok {orc : Orc} (ho : orcOk P orc) : (callR orc).ok P:=fun D s d f xs t h=>by
 unfold callR at h
 split at h
 · cases h
 · rename_i F cs hcal
   split at h
   · rename_i hsn
     split at h
     · rename_i r hA
       split at h
       · rename_i hfl
         simp only [Bool.or_eq_true] at hfl
         injection h with h; subst h
         refine ⟨put_num _ _ _,fun K hK=>.inl ⟨r,.inl ⟨F,cs,_,hcal,snapBL_ok _ hsn,leL_refl _,orcGet_ok ho hA,hfl⟩,?_⟩⟩
         rw [as_put] at hK
         exact hK
       · cases h
     · cases h
   · cases h
theorem callX_ok {fs : List (FuncId × Nat)} (hfs : allOk P fs = true) {orc : Orc} (ho : orcOk P orc) {ex : Code → CS → Option Outs} (hex : Good P ex) : (callX P fs orc ex).ok P:=fun D s d f xs t h=>by
 unfold callX at h
 split at h
 · rename_i t' e
   injection h with h; subst h
   exact callC_ok hfs hex D s d f xs _ e
 · exact callR_ok ho D s d f xs t h
theorem bindL_mem {α β : Type} {x : Option (List α)} {f : α → Option (List β)} {zs : List β} (h : bindL x f = some zs) {z : β} (hz : z ∈ zs) : ∃ l,x = some l ∧ ∃ a ∈ l,∃ ys,f a = some ys ∧ z ∈ ys:=by
 unfold bindL at h
 split at h
 · cases h
 · rename_i l
   refine ⟨l,rfl,?_⟩
   induction l generalizing zs with
   | nil=>injection h with h; subst h; simp at hz
   | cons b l ih =>
     unfold bindL.go at h
     split at h
     · cases h
     · rename_i ys hys
       split at h
       · cases h
       · rename_i ws hws
         injection h with h; subst h
         rcases List.mem_append.1 hz with hz | hz
         · exact ⟨b,by simp,ys,hys,hz⟩
         · obtain ⟨a,ha,y2,h1,h2⟩:=ih hz hws
           exact ⟨a,by simp [ha],y2,h1,h2⟩
theorem runOps_num {call : Caller} (hcall : call.ok P) {D : Bool} {ops : Array Oper} : ∀ (l : List Oper) {s : CS} {L : List CS},runOps P call D ops l s = some L → ∀ t ∈ L,t.n = s.n
 | [], s, L, h => by
   unfold runOps at h
   injection h with h; subst h
   intro t ht
   simp only [List.mem_singleton] at ht; rw [ht]
 | o :: l, s, L, h => by
   have go : bindL (opC P call D o s) (runOps P call D ops l) = some L → ∀ t ∈ L,t.n = s.n:=fun h t ht=>by
    obtain ⟨l1,h1,a,ha,ys,h2,h3⟩:=bindL_mem h ht
    rw [runOps_num hcall l h2 t h3,(opC_ok hcall h1 (K:=fun _=>True) fun _ _=>trivial).2 a ha]
   have sk : runOps P call D ops l (s.put o.dst (.r .ud)) = some L → ∀ t ∈ L,t.n = s.n:=fun h t ht=>by
    rw [runOps_num hcall l h t ht,put_num]
   unfold runOps at h
   split at h
   · exact go h
   · split at h
     · exact sk h
     · split at h
       · split at h
         · exact go h
         · exact sk h
       · exact sk h
       · cases h
theorem norm_mem' : ∀ {L : List CS} {x : Exit × CS},x ∈ norm L → x.1 = .normal ∧ x.2 ∈ L
 | [],_,h=>by simp [norm] at h
 | t :: l, x, h => by
   simp only [norm,List.mem_cons] at h
   rcases h with rfl | h
   · exact ⟨rfl,by simp⟩
   · have:=norm_mem' h
     exact ⟨this.1,by simp [this.2]⟩
theorem blk_mem' {id : Nat} : ∀ {L : Outs} {x : Exit × CS},x ∈ blk id L → ∃ e,(e,x.2) ∈ L
 | [],_,h=>by simp [blk] at h
 | (e', t') :: l, x, h => by
   simp only [blk,List.mem_cons] at h
   rcases h with rfl | h
   · exact ⟨e',by simp⟩
   · obtain ⟨e,he⟩:=blk_mem' h
     exact ⟨e,by simp [he]⟩
theorem kappa_ok {ops : Array Oper} {s : CS} : ∀ l : List Oper,keysOk (kappa ops s l) s.as
 | []=>fun p hp=>by simp [kappa] at hp
 | o :: l => fun p hp => by
   simp only [kappa,List.mem_append,List.mem_map] at hp
   rcases hp with ⟨t,_,rfl⟩ | hp
   · rfl
   · exact kappa_ok l p hp
theorem exec_ok (hm : P.follows .mixedOrders = true) {fs : List (FuncId × Nat)} (hfs : allOk P fs = true) {orc : Orc} (ho : orcOk P orc) : ∀ k,Good P (exec P fs orc k):=by
 intro k
 induction k using Nat.strongRecOn with
 | _ k ih =>
   cases k with
   | zero=>intro c t L _ h; cases c <;> simp [exec] at h
   | succ k =>
     intro c t L hok h
     cases c with
     | skip=>simp only [exec,Option.some.injEq] at h; subst h; exact ⟨by simp,fun C Q hQ=>zx (hQ _ (List.mem_singleton.2 rfl))⟩
     | label l=>simp only [exec,Option.some.injEq] at h; subst h; exact ⟨by simp,fun C Q hQ=>awp_label (hQ _ (List.mem_singleton.2 rfl))⟩
     | exit id=>simp only [exec,Option.some.injEq] at h; subst h; exact ⟨by simp,fun C Q hQ=>zf (hQ _ (List.mem_singleton.2 rfl))⟩
     | ret=>simp only [exec,Option.some.injEq] at h; subst h; exact ⟨by simp,fun C Q hQ=>ze (hQ _ (List.mem_singleton.2 rfl))⟩
     | region id ops D =>
       simp only [codeOk] at hok
       simp only [exec] at h
       split at h
       · rename_i hdr
         split at h
         · rename_i L' hL
           injection h with h; subst h
           have hcall:=callX_ok hfs ho (ih k (Nat.lt_succ_self k))
           have hk:=killD_sub D ops.toList t
           refine ⟨fun x hx=>(runOps_num hcall _ hL _ (norm_mem' hx).2).trans hk.2,fun C Q hQ=>zw hk.1 ?_⟩
           have:=runOps_ok hcall (K:=Q .normal) _ hL fun t ht _=>hQ _ (norm_mem ht)
           have hd : dstOk ops.toList.toArray (killD D ops.toList t).as.n = true:=by rw [show (killD D ops.toList t).as.n = t.n from hk.2]; exact hok
           cases D with
           | false=>exact awp_region (l:=ops.toList) hd this
           | true =>
             simp only [drawOk,Bool.not_true,Bool.false_or,Bool.or_eq_true] at hdr
             rcases hdr with hlex | hlex
             · exact awp_draw (l:=ops.toList) hm hlex hd this
             · exact awp_draw2 (l:=ops.toList) hm hlex hd (kappa_ok _) this
         · cases h
       · cases h
     | seq a b =>
       simp only [codeOk,Bool.and_eq_true] at hok
       simp only [exec] at h
       obtain ⟨l1,h1,h2⟩:=bindL_spec h
       have ga:=ih k (Nat.lt_succ_self k) a t l1 hok.1 h1
       refine ⟨fun x hx=>?_,fun C Q hQ=>?_⟩
       · obtain ⟨l1',h1',y,hy,ys,h3,h4⟩:=bindL_mem h hx
         rw [h1] at h1'; injection h1' with h1'; subst h1'
         have hn:=ga.1 y hy
         obtain ⟨e,u⟩:=y
         cases e <;> first
          | (have:=(ih k (Nat.lt_succ_self k) b u ys (by rw [hn]; exact hok.2) h3).1 x h4; rw [this]; exact hn)
          | (simp only [Option.some.injEq] at h3; subst h3; simp only [List.mem_singleton] at h4; rw [h4]; exact hn)
       · refine zq (ga.2 C _ fun x hx=>?_)
         obtain ⟨ys,h3,h4⟩:=h2 x hx
         have hn:=ga.1 x hx
         obtain ⟨e,u⟩:=x
         cases e <;> first
          | exact (ih k (Nat.lt_succ_self k) b u ys (by rw [hn]; exact hok.2) h3).2 C Q fun x hx=>hQ x (h4 x hx)
          | (simp only [Option.some.injEq] at h3; subst h3; exact hQ _ (h4 _ (by simp)))
     | cond c a b =>
       simp only [codeOk,Bool.and_eq_true] at hok
       simp only [exec] at h
       split at h
       · rename_i tt hc
         cases tt with
         | true =>
           have g:=ih k (Nat.lt_succ_self k) a t L hok.1 h
           exact ⟨g.1,fun C Q hQ=>zc hc (fun _=>g.2 C Q hQ) (fun e=>by cases e)⟩
         | false =>
           have g:=ih k (Nat.lt_succ_self k) b t L hok.2 h
           exact ⟨g.1,fun C Q hQ=>zc hc (fun e=>by cases e) (fun _=>g.2 C Q hQ)⟩
       · cases h
     | block id c =>
       simp only [codeOk] at hok
       simp only [exec] at h
       split at h
       · rename_i L' hL
         injection h with h; subst h
         have g:=ih k (Nat.lt_succ_self k) c t L' hok hL
         refine ⟨fun x hx=>?_,fun C Q hQ=>?_⟩
         · obtain ⟨e,he⟩:=blk_mem' hx
           exact g.1 (e,x.2) he
         · refine zd (g.2 C _ fun x hx=>?_)
           obtain ⟨e,u⟩:=x
           have:=hQ _ (blk_mem hx)
           cases e with
           | exit id' =>
             simp only [leave] at this
             simp only [inBlk]
             split <;> rename_i e <;> simp only [e,if_true,if_false] at this <;> exact this
           | _=>exact this
       · cases h
     | loop c =>
       simp only [codeOk] at hok
       have num : ∀ j,j ≤ k + 1 → ∀ (u : CS) (L' : Outs),u.n = t.n → exec P fs orc j (.loop c) u = some L' → ∀ x ∈ L',x.2.n = t.n:=by
        intro j
        induction j with
        | zero=>intro _ u L' _ hL; simp [exec] at hL
        | succ j ihj =>
          intro hj u L' hu hL x hx
          simp only [exec] at hL
          obtain ⟨l1,h1,y,hy,ys,h3,h4⟩:=bindL_mem hL hx
          have hn:=(ih j (by omega) c u l1 (by rw [hu]; exact hok) h1).1 y hy
          obtain ⟨e,v⟩:=y
          cases e <;> first
           | exact ihj (by omega) v ys (by rw [← hu]; exact hn) h3 x h4
           | (simp only [Option.some.injEq] at h3; subst h3; simp only [List.mem_singleton] at h4; rw [h4,← hu]; exact hn)
       refine ⟨num (k + 1) (Nat.le_refl _) t L rfl h,fun C Q hQ=>?_⟩
       refine awp_loop (fun j s=>j ≤ k + 1 ∧ ∃ u L',s = u.as ∧ u.n = t.n ∧ exec P fs orc j (.loop c) u = some L' ∧ ∀ x ∈ L',Q x.1 x.2.as) (k + 1) ⟨Nat.le_refl _,t,L,rfl,rfl,h,hQ⟩ ?_
       rintro j s ⟨hj,u,L',rfl,hu,hL,hQ'⟩
       cases j with
       | zero=>simp [exec] at hL
       | succ j =>
         simp only [exec] at hL
         obtain ⟨l1,h1,h2⟩:=bindL_spec hL
         have g:=ih j (by omega) c u l1 (by rw [hu]; exact hok) h1
         refine g.2 C _ fun x hx=>?_
         obtain ⟨ys,h3,h4⟩:=h2 x hx
         have hn:=g.1 x hx
         obtain ⟨e,v⟩:=x
         cases e <;> first
          | exact ⟨j,Nat.lt_succ_self j,by omega,v,ys,rfl,by rw [← hu]; exact hn,h3,fun x hx=>hQ' x (h4 x hx)⟩
          | (simp only [Option.some.injEq] at h3; subst h3; exact hQ' _ (h4 _ (by simp)))
     | _=>simp [exec] at h
theorem evalX_ok (hm : P.follows .mixedOrders = true) {fs : List (FuncId × Nat)} (hfs : allOk P fs = true) {orc : Orc} (ho : orcOk P orc) {k : Nat} {F : FuncId} {args : List RV} {r : RV} (hF : fnOk P F = true) (h : evalX P fs orc k F args = some r) : ACalls P F args r:=by
 unfold evalX at h
 split at h
 · rename_i fn hf
   split at h
   · rename_i c hb
     exact callA_ok (exec_ok hm hfs ho k) hf hb hF h
   · cases h
 · cases h
end
end Go.Oc

namespace Go.Proofs.Ytgkejinoaommeaa
open Go Go.Oc
set_option linter.unusedSimpArgs false
set_option linter.unusedVariables false
set_option maxRecDepth 8000
def lawL : List Am:=[⟨320,[⟨120,4,6⟩,⟨205,0,1⟩,⟨301,1,2⟩,⟨320,2,4⟩]⟩,⟨225,[⟨125,6,8⟩,⟨225,0,9⟩]⟩]
def lawT : List Am:=[⟨320,[⟨120,4,6⟩,⟨205,0,1⟩,⟨301,1,2⟩,⟨320,2,4⟩]⟩,⟨225,[⟨125,6,8⟩,⟨225,2,4⟩]⟩]
theorem lawL_wf : WfL 10 lawL:=by
 simp [WfL,WfA,Wf,lawL,I64]
theorem lawT_eq : lawL.map (tightA 10) = lawT:=by kernel_rfl
theorem lawL_chk : checkV 10 lawL = 0:=by kernel_rfl
theorem lawL_spans : spansV 10 lawL = [(236,343),(300,350)]:=by kernel_rfl
theorem lawL_pick : pickE 10 lawL 0 [20,10,3,60] = 0:=by kernel_rfl
theorem lawL_truth : truthV 10 lawL 0 [20,10,3,60] true = [5,0,1,4]:=by kernel_rfl
theorem lawL_is : bestL isP (spansV 10 lawL) = []:=by rw [lawL_spans]; kernel_rfl
theorem lawL_may : bestL mayP (spansV 10 lawL) = [0,1]:=by rw [lawL_spans]; kernel_rfl
def fitA : Am:=⟨320,[⟨0,0,0⟩,⟨101,0,0⟩,⟨105,0,0⟩,⟨120,0,0⟩,⟨320,0,0⟩]⟩
def fitB : Am:=⟨320,[⟨0,0,2⟩,⟨101,1,1⟩,⟨105,0,0⟩,⟨120,3,6⟩,⟨320,2,3⟩]⟩
def fitL : List Vi:=[⟨[320,120,101],0⟩,⟨[],100⟩,⟨[],60⟩]
theorem fitA_wf : WfA fitA:=by simp [WfA,Wf,fitA,I64]
theorem fit_eq : fitV fitA fitL = (fitB,9,0,0):=by kernel_rfl
theorem kTight : ACalls Try.prog 16 [lawV 10 lawL] (.tu [lawV 10 lawT,i64 0]):=by
 have:=Tight_ok 10 lawL lawL_wf
 rw [lawL_chk,lawT_eq,if_pos rfl] at this
 exact this
theorem kScore : ACalls Try.prog 21 [lawV 10 lawL] (.tu [spansR [(236,343),(300,350)],i64 0]):=by
 have:=Score_ok 10 lawL lawL_wf
 rw [lawL_chk,lawL_spans] at this
 exact this
theorem kTruth : ACalls Try.prog 40 [lawV 10 lawL,i64 0,ints [20,10,3,60],.bo true] (.tu [ints [5,0,1,4],i64 0]):=by
 have:=Truth_ok 10 lawL 0 [20,10,3,60] true lawL_wf
 rw [lawL_truth,lawL_pick] at this
 exact this
theorem kBest : ACalls Try.prog 22 [lawV 10 lawL] (.tu [ints [],ints [0,1],i64 0]):=by
 have:=Best_ok 10 lawL lawL_wf
 rw [lawL_chk,lawL_is,lawL_may] at this
 exact this
theorem kFit : ACalls Try.prog 28 [aimV fitA,visR fitL] (.tu [aimV fitB,i64 9,i64 0,i64 0]):=by
 have:=fit_ok fitA fitL fitA_wf
 rw [fit_eq] at this
 exact this
def kOrc : Orc:=[(16,[lawV 10 lawL],.tu [lawV 10 lawT,i64 0]),(21,[lawV 10 lawL],.tu [spansR [(236,343),(300,350)],i64 0]),(40,[lawV 10 lawL,i64 0,ints [20,10,3,60],.bo true],.tu [ints [5,0,1,4],i64 0]),
 (22,[lawV 10 lawL],.tu [ints [],ints [0,1],i64 0]),(28,[aimV fitA,visR fitL],.tu [aimV fitB,i64 9,i64 0,i64 0])]
theorem kOrc_ok : orcOk Try.prog kOrc:=⟨kTight,kScore,kTruth,kBest,kFit,trivial⟩
def fsK : List (FuncId × Nat):=[(47,0),(38,0),(24,0)]
theorem fsK_ok : allOk Try.prog fsK = true:=by kernel_rfl
theorem known14_ok : ACalls Try.prog 14 [] (.bo true):=evalX_ok follows fsK_ok kOrc_ok (k:=200) (by kernel_rfl) (by kernel_rfl)
end Go.Proofs.Ytgkejinoaommeaa

namespace Go.Proofs.Ytgkejinoaommeaa
open Go Go.Oc
set_option linter.unusedSimpArgs false
set_option linter.unusedVariables false
set_option maxRecDepth 8000
instance : DecidableEq Bd:=fun a b=>decidable_of_iff (a.b = b.b ∧ a.lo = b.lo ∧ a.hi = b.hi) (by cases a; cases b; simp)
instance : DecidableEq Am:=fun a b=>decidable_of_iff (a.at_ = b.at_ ∧ a.beds = b.beds) (by cases a; cases b; simp)
def greatL (l : List Am) : Bool:=decide (22 < l.length) || l.any fun a=>decide (12 < a.beds.length)
theorem eqT67 : eqN Try.prog 67 = some 3:=by kernel_rfl
theorem same_ok (a b : Am) : ACalls Try.prog 30 [aimV a,aimV b] (.bo (decide (a = b))):=by
 refine acalls_st (rs:=[.bo (decide (a = b))]) [.tmp 4] Try.func30 rfl (by kernel_rfl) Try.ntmps30 rfl (by simp) rfl fun C vs=>?_
 repeat refine zq ?_
 refine zb (by kernel_rfl) fun K hK=>?_
 simp only [go_sem]
 (try simp (disch:=omega) only [zI])
 repeat first | intro _ | refine ⟨by omega,?_⟩ | refine ⟨⟨by omega,by omega⟩,?_⟩
 refine hK _ ?_
 clear hK K
 refine zw (sub_frzP 2 2 (aimR a) (by omega) rfl rfl) ?_
 refine zw (sub_frzP 3 3 (aimR b) (by omega) rfl rfl) ?_
 refine zw (zk [2,3]) ?_
 simp only [go_sem]
 by_cases h0 : a.at_ = b.at_
 case neg =>
  have e0 : (a.at_ != b.at_) = true:=by simpa using h0
  repeat refine zq ?_
  refine zb (by kernel_rfl) fun K hK=>?_
  simp only [go_sem,e0,aimR]
  (try simp (disch:=omega) only [zI])
  repeat first | intro _ | refine ⟨by omega,?_⟩ | refine ⟨⟨by omega,by omega⟩,?_⟩
  refine hK _ ?_
  clear hK K
  repeat refine zq ?_
  refine zc rfl (fun hc=>?_) (fun hc=>?_) <;> (try simp only [go_sem] at hc)
  repeat refine zq ?_
  refine zb (by kernel_rfl) fun K hK=>?_
  simp only [go_sem]
  (try simp (disch:=omega) only [zI])
  repeat first | intro _ | refine ⟨by omega,?_⟩ | refine ⟨⟨by omega,by omega⟩,?_⟩
  refine hK _ ?_
  clear hK K
  refine ze ?_
  simp only [go_sem]
  simp
  exact fun h=>h0 (by rw [h])
 have e0 : (a.at_ != b.at_) = false:=by simpa using h0
 by_cases h1 : a.beds.length = b.beds.length
 case neg =>
  have e4 : ((a.beds.length : Int) != b.beds.length) = true:=by simp; omega
  repeat refine zq ?_
  refine zb (by kernel_rfl) fun K hK=>?_
  simp only [go_sem,e0,e4,aimR]
  (try simp (disch:=omega) only [zI])
  repeat first | intro _ | refine ⟨by omega,?_⟩ | refine ⟨⟨by omega,by omega⟩,?_⟩
  refine hK _ ?_
  clear hK K
  repeat refine zq ?_
  refine zc rfl (fun hc=>?_) (fun hc=>?_) <;> (try simp only [go_sem] at hc)
  repeat refine zq ?_
  refine zb (by kernel_rfl) fun K hK=>?_
  simp only [go_sem]
  (try simp (disch:=omega) only [zI])
  repeat first | intro _ | refine ⟨by omega,?_⟩ | refine ⟨⟨by omega,by omega⟩,?_⟩
  refine hK _ ?_
  clear hK K
  refine ze ?_
  simp only [go_sem]
  simp
  exact fun h=>h1 (by rw [h])
 have e4 : ((a.beds.length : Int) != b.beds.length) = false:=by simp [h1]
 repeat refine zq ?_
 refine zb (by kernel_rfl) fun K hK=>?_
 simp only [go_sem,e0,e4,aimR]
 (try simp (disch:=omega) only [zI])
 intro hla hlb
 repeat first | intro _ | refine ⟨by omega,?_⟩ | refine ⟨⟨by omega,by omega⟩,?_⟩
 refine hK _ ?_
 clear hK K
 refine zw (zk [2,3,19]) ?_
 simp only [go_sem]
 repeat refine zq ?_
 refine zc rfl (fun hc=>?_) (fun hc=>?_) <;> (try simp only [go_sem] at hc)
 refine zx ?_
 try simp only [go_sem]
 repeat refine zq ?_
 refine zb (by kernel_rfl) fun K hK=>?_
 simp only [go_sem]
 (try simp (disch:=omega) only [zI])
 repeat first | intro _ | refine ⟨by omega,?_⟩ | refine ⟨⟨by omega,by omega⟩,?_⟩
 refine hK _ ?_
 clear hK K
 refine zw (zk [2,3,5]) ?_
 simp only [go_sem]
 repeat refine zq ?_
 refine zd ?_
 refine awp_upto (n:=38) a.beds.length (fun i vs=>[(2,.r (.rp [i64 a.at_,bedsR a.beds])),(3,.r (.rp [i64 b.at_,bedsR b.beds])),(5,.r (i64 i))])
  (fun i=>[]) (fun i=>a.beds.take i = b.beds.take i) 0 (fit_of [] ?_ ?_) (Nat.zero_le _) (by simp) ?_
 · try simp only [go_sem]
 · try simp only [go_sem]
 · intro i vs hi hI
   repeat refine zq ?_
   refine zb (by kernel_rfl) fun K hK=>?_
   simp only [go_sem,aimR]
   (try simp (disch:=omega) only [zI])
   repeat first | intro _ | refine ⟨by omega,?_⟩ | refine ⟨⟨by omega,by omega⟩,?_⟩
   refine hK _ ?_
   clear hK K
   refine zw (zk [2,3,5,24]) ?_
   simp only [go_sem]
   repeat refine zq ?_
   refine zc rfl (fun hc=>?_) (fun hc=>?_) <;> (try simp only [go_sem] at hc)
   · skip
     have hci : i < a.beds.length:=by omega
     have hc2 : i < b.beds.length:=by omega
     obtain ⟨u,hu⟩:=opt_of_lt hci
     obtain ⟨v,hv⟩:=opt_of_lt hc2
     refine zx ?_
     try simp only [go_sem]
     repeat refine zq ?_
     refine zd ?_
     have hT:=eqT67
     repeat refine zq ?_
     refine zg follows (by decide +kernel) (by kernel_rfl) fun K hK=>?_
     simp only [go_sem,hu,hv,hci,hc2,aimR,bedR,hT,cmpL,eq_self,if_true,List.length_cons,List.length_nil]
     (try simp (disch:=omega) only [zI])
     repeat first | intro _ | refine ⟨by omega,?_⟩ | refine ⟨⟨by omega,by omega⟩,?_⟩
     refine hK _ ?_
     clear hK K
     refine zw (zk [2,3,5,37]) ?_
     simp only [go_sem]
     repeat refine zq ?_
     refine zc rfl (fun hc=>?_) (fun hc=>?_) <;> (try simp only [go_sem] at hc)
     · skip
       repeat refine zq ?_
       refine zb (by kernel_rfl) fun K hK=>?_
       simp only [go_sem]
       (try simp (disch:=omega) only [zI])
       repeat first | intro _ | refine ⟨by omega,?_⟩ | refine ⟨⟨by omega,by omega⟩,?_⟩
       refine hK _ ?_
       clear hK K
       refine zw (zk [4]) ?_
       simp only [go_sem]
       refine ze ?_
       simp only [go_sem]
       simp
       intro hab
       subst hab
       rw [hu] at hv
       injection hv with hv
       subst hv
       simp at hc
     · skip
       have huv : u = v:=by
        obtain ⟨u1,u2,u3⟩:=u
        obtain ⟨v1,v2,v3⟩:=v
        simp at hc
        simp [hc]
       refine zx ?_
       try simp only [go_sem]
       repeat refine zq ?_
       refine zb (by kernel_rfl) fun K hK=>?_
       simp only [go_sem]
       (try simp (disch:=omega) only [zI])
       repeat first | intro _ | refine ⟨by omega,?_⟩ | refine ⟨⟨by omega,by omega⟩,?_⟩
       refine hK _ ?_
       clear hK K
       try simp only [go_sem]
       refine ⟨hci,?_,fit_of [] ?_ ?_⟩
       · rw [take_of_opt hu,take_of_opt hv,hI,huv]
       · try simp only [go_sem]
       · try simp only [go_sem]
   · skip
     refine zf ?_
     simp only [go_sem]
     repeat refine zq ?_
     refine zb (by kernel_rfl) fun K hK=>?_
     simp only [go_sem]
     (try simp (disch:=omega) only [zI])
     repeat first | intro _ | refine ⟨by omega,?_⟩ | refine ⟨⟨by omega,by omega⟩,?_⟩
     refine hK _ ?_
     clear hK K
     refine zw (zk [4]) ?_
     simp only [go_sem]
     refine ze ?_
     simp only [go_sem]
     have : i = a.beds.length:=by omega
     subst this
     have hab : a.beds = b.beds:=by rwa [List.take_length,h1,List.take_length] at hI
     have : a = b:=by cases a; cases b; simp at h0 hab; simp [h0,hab]
     simp [this]
theorem equal_ok (d e : Int) (l m : List Am) : ACalls Try.prog 18 [lawV d l,lawV e m] (.bo (decide (d = e ∧ l = m))):=by
 refine acalls_st (rs:=[.bo (decide (d = e ∧ l = m))]) [.tmp 4] Try.func18 rfl (by kernel_rfl) Try.ntmps18 rfl (by simp) rfl fun C vs=>?_
 repeat refine zq ?_
 refine zb (by kernel_rfl) fun K hK=>?_
 simp only [go_sem]
 (try simp (disch:=omega) only [zI])
 repeat first | intro _ | refine ⟨by omega,?_⟩ | refine ⟨⟨by omega,by omega⟩,?_⟩
 refine hK _ ?_
 clear hK K
 refine zw (sub_frzP 2 2 [i64 d,aimsR l] (by omega) rfl rfl) ?_
 refine zw (sub_frzP 3 3 [i64 e,aimsR m] (by omega) rfl rfl) ?_
 refine zw (zk [2,3]) ?_
 simp only [go_sem]
 by_cases h0 : d = e
 case neg =>
  have e0 : (d != e) = true:=by simpa using h0
  repeat refine zq ?_
  refine zb (by kernel_rfl) fun K hK=>?_
  simp only [go_sem,e0]
  (try simp (disch:=omega) only [zI])
  repeat first | intro _ | refine ⟨by omega,?_⟩ | refine ⟨⟨by omega,by omega⟩,?_⟩
  refine hK _ ?_
  clear hK K
  repeat refine zq ?_
  refine zc rfl (fun hc=>?_) (fun hc=>?_) <;> (try simp only [go_sem] at hc)
  repeat refine zq ?_
  refine zb (by kernel_rfl) fun K hK=>?_
  simp only [go_sem]
  (try simp (disch:=omega) only [zI])
  repeat first | intro _ | refine ⟨by omega,?_⟩ | refine ⟨⟨by omega,by omega⟩,?_⟩
  refine hK _ ?_
  clear hK K
  refine ze ?_
  simp only [go_sem]
  simp
  exact fun h _=>h0 h
 have e0 : (d != e) = false:=by simpa using h0
 by_cases h1 : l.length = m.length
 case neg =>
  have e4 : ((l.length : Int) != m.length) = true:=by simp; omega
  repeat refine zq ?_
  refine zb (by kernel_rfl) fun K hK=>?_
  simp only [go_sem,e0,e4]
  (try simp (disch:=omega) only [zI])
  repeat first | intro _ | refine ⟨by omega,?_⟩ | refine ⟨⟨by omega,by omega⟩,?_⟩
  refine hK _ ?_
  clear hK K
  repeat refine zq ?_
  refine zc rfl (fun hc=>?_) (fun hc=>?_) <;> (try simp only [go_sem] at hc)
  repeat refine zq ?_
  refine zb (by kernel_rfl) fun K hK=>?_
  simp only [go_sem]
  (try simp (disch:=omega) only [zI])
  repeat first | intro _ | refine ⟨by omega,?_⟩ | refine ⟨⟨by omega,by omega⟩,?_⟩
  refine hK _ ?_
  clear hK K
  refine ze ?_
  simp only [go_sem]
  simp
  exact fun _ h=>h1 (by rw [h])
 have e4 : ((l.length : Int) != m.length) = false:=by simp [h1]
 repeat refine zq ?_
 refine zb (by kernel_rfl) fun K hK=>?_
 simp only [go_sem,e0,e4]
 (try simp (disch:=omega) only [zI])
 intro hla hlb
 repeat first | intro _ | refine ⟨by omega,?_⟩ | refine ⟨⟨by omega,by omega⟩,?_⟩
 refine hK _ ?_
 clear hK K
 refine zw (zk [2,3,19]) ?_
 simp only [go_sem]
 repeat refine zq ?_
 refine zc rfl (fun hc=>?_) (fun hc=>?_) <;> (try simp only [go_sem] at hc)
 refine zx ?_
 try simp only [go_sem]
 repeat refine zq ?_
 refine zb (by kernel_rfl) fun K hK=>?_
 simp only [go_sem]
 (try simp (disch:=omega) only [zI])
 repeat first | intro _ | refine ⟨by omega,?_⟩ | refine ⟨⟨by omega,by omega⟩,?_⟩
 refine hK _ ?_
 clear hK K
 refine zw (zk [2,3,5]) ?_
 simp only [go_sem]
 repeat refine zq ?_
 refine zd ?_
 refine awp_upto (n:=39) l.length (fun i vs=>[(2,.r (.rp [i64 d,aimsR l])),(3,.r (.rp [i64 e,aimsR m])),(5,.r (i64 i))])
  (fun i=>[]) (fun i=>l.take i = m.take i) 0 (fit_of [] ?_ ?_) (Nat.zero_le _) (by simp) ?_
 · try simp only [go_sem]
 · try simp only [go_sem]
 · intro i vs hi hI
   repeat refine zq ?_
   refine zb (by kernel_rfl) fun K hK=>?_
   simp only [go_sem]
   (try simp (disch:=omega) only [zI])
   repeat first | intro _ | refine ⟨by omega,?_⟩ | refine ⟨⟨by omega,by omega⟩,?_⟩
   refine hK _ ?_
   clear hK K
   refine zw (zk [2,3,5,24]) ?_
   simp only [go_sem]
   repeat refine zq ?_
   refine zc rfl (fun hc=>?_) (fun hc=>?_) <;> (try simp only [go_sem] at hc)
   · skip
     have hci : i < l.length:=by omega
     have hc2 : i < m.length:=by omega
     obtain ⟨u,hu⟩:=opt_of_lt hci
     obtain ⟨v,hv⟩:=opt_of_lt hc2
     refine zx ?_
     try simp only [go_sem]
     repeat refine zq ?_
     refine zd ?_
     repeat refine zq ?_
     refine zg follows (by decide +kernel) (by kernel_rfl) fun K hK=>?_
     simp only [go_sem,hu,hv,hci,hc2,aimR]
     (try simp (disch:=omega) only [zI])
     refine zh (same_ok u v) rfl (by simp only [go_sem,i64,ints]) (by simp only [go_sem,i64,ints]) (by first | exact .inl rfl | exact .inr rfl) ?_
     (try simp only [go_sem])
     (try simp (disch:=omega) only [zI])
     by_cases huv : u = v
     · have e6 : decide (u = v) = true:=by simp [huv]
       rw [e6]
       repeat first | intro _ | refine ⟨by omega,?_⟩ | refine ⟨⟨by omega,by omega⟩,?_⟩
       refine hK _ ?_
       clear hK K
       refine zw (zk [2,3,5,38]) ?_
       simp only [go_sem]
       repeat refine zq ?_
       refine zc rfl (fun hc=>?_) (fun hc=>?_) <;> (try simp only [go_sem] at hc)
       refine zx ?_
       try simp only [go_sem]
       repeat refine zq ?_
       refine zb (by kernel_rfl) fun K hK=>?_
       simp only [go_sem]
       (try simp (disch:=omega) only [zI])
       repeat first | intro _ | refine ⟨by omega,?_⟩ | refine ⟨⟨by omega,by omega⟩,?_⟩
       refine hK _ ?_
       clear hK K
       try simp only [go_sem]
       refine ⟨hci,?_,fit_of [] ?_ ?_⟩
       · rw [take_of_opt hu,take_of_opt hv,hI,huv]
       · try simp only [go_sem]
       · try simp only [go_sem]
     · have e6 : decide (u = v) = false:=by simp [huv]
       rw [e6]
       repeat first | intro _ | refine ⟨by omega,?_⟩ | refine ⟨⟨by omega,by omega⟩,?_⟩
       refine hK _ ?_
       clear hK K
       refine zw (zk [2,3,5,38]) ?_
       simp only [go_sem]
       repeat refine zq ?_
       refine zc rfl (fun hc=>?_) (fun hc=>?_) <;> (try simp only [go_sem] at hc)
       repeat refine zq ?_
       refine zb (by kernel_rfl) fun K hK=>?_
       simp only [go_sem]
       (try simp (disch:=omega) only [zI])
       repeat first | intro _ | refine ⟨by omega,?_⟩ | refine ⟨⟨by omega,by omega⟩,?_⟩
       refine hK _ ?_
       clear hK K
       refine ze ?_
       simp only [go_sem]
       simp
       rintro rfl rfl
       rw [hu] at hv
       injection hv with hv
       exact huv hv
   · skip
     refine zf ?_
     simp only [go_sem]
     repeat refine zq ?_
     refine zb (by kernel_rfl) fun K hK=>?_
     simp only [go_sem]
     (try simp (disch:=omega) only [zI])
     repeat first | intro _ | refine ⟨by omega,?_⟩ | refine ⟨⟨by omega,by omega⟩,?_⟩
     refine hK _ ?_
     clear hK K
     refine zw (zk [4]) ?_
     simp only [go_sem]
     refine ze ?_
     simp only [go_sem]
     have : i = l.length:=by omega
     subst this
     have hab : l = m:=by rwa [List.take_length,h1,List.take_length] at hI
     simp [h0,hab]
end Go.Proofs.Ytgkejinoaommeaa

namespace Go.Proofs.Ytgkejinoaommeaa
open Go Go.Oc
set_option linter.unusedSimpArgs false
set_option linter.unusedVariables false
set_option maxRecDepth 8000
def eqF {α : Type} (p : α → α → Bool) : List α → List α → Bool
 | [],[]=>true
 | x :: xs,y :: ys=>p x y && eqF p xs ys
 | _,_=>false
theorem eqF_len {α : Type} {p : α → α → Bool} : ∀ {l m : List α},eqF p l m = true → l.length = m.length
 | [],[],_=>rfl
 | x :: xs,y :: ys,h=>by simp only [eqF,Bool.and_eq_true] at h; simp [eqF_len h.2]
 | [],_ :: _,h=>by simp [eqF] at h
 | _ :: _,[],h=>by simp [eqF] at h
theorem eqF_snoc {α : Type} {p : α → α → Bool} {x y : α} : ∀ {l m : List α},l.length = m.length → eqF p (l ++ [x]) (m ++ [y]) = (eqF p l m && p x y)
 | [],[],_=>by simp [eqF]
 | a :: l,b :: m,h=>by simp only [List.cons_append,eqF]; rw [eqF_snoc (by simpa using h),Bool.and_assoc]
 | [],_ :: _,h=>by simp at h
 | _ :: _,[],h=>by simp at h
theorem eqF_bad {α : Type} {p : α → α → Bool} {x y : α} : ∀ {l m : List α} {i : Nat},l[i]? = some x → m[i]? = some y → p x y = false → eqF p l m = false
 | [],_,i,h,_,_=>by simp at h
 | _ :: _,[],i,_,h,_=>by simp at h
 | a :: l, b :: m, 0, h1, h2, h => by
   simp only [List.getElem?_cons_zero,Option.some.injEq] at h1 h2
   subst h1 h2
   simp [eqF,h]
 | a :: l, b :: m, i + 1, h1, h2, h => by
   simp only [List.getElem?_cons_succ] at h1 h2
   simp [eqF,eqF_bad h1 h2 h]
def sameB (c d : Bd) : Bool:=c.b == d.b
def sameA (x y : Am) : Bool:=x.at_ == y.at_ && eqF sameB x.beds y.beds
theorem pool11_ok (c d : Bd) : ACalls Try.prog 71 [bedV c,bedV d] (.bo (sameB c d)):=by
 refine acalls_st (rs:=[.bo (sameB c d)]) [.tmp 4] Try.func71 rfl (by kernel_rfl) Try.ntmps71 rfl (by simp) rfl fun C vs=>?_
 repeat refine zq ?_
 refine zb (by kernel_rfl) fun K hK=>?_
 simp only [go_sem]
 (try simp (disch:=omega) only [zI])
 repeat first | intro _ | refine ⟨by omega,?_⟩ | refine ⟨⟨by omega,by omega⟩,?_⟩
 refine hK _ ?_
 clear hK K
 refine zw (sub_frzP 2 2 (bedR c) (by omega) rfl rfl) ?_
 refine zw (sub_frzP 3 3 (bedR d) (by omega) rfl rfl) ?_
 refine zw (zk [2,3]) ?_
 simp only [go_sem]
 repeat refine zq ?_
 refine zb (by kernel_rfl) fun K hK=>?_
 simp only [go_sem,bedR]
 (try simp (disch:=omega) only [zI])
 repeat first | intro _ | refine ⟨by omega,?_⟩ | refine ⟨⟨by omega,by omega⟩,?_⟩
 refine hK _ ?_
 clear hK K
 refine zw (zk [4]) ?_
 simp only [go_sem]
 refine ze ?_
 simp only [go_sem]
 try rfl
theorem eqBeds_ok (p : Bd → Bd → Bool) (f : Nat) (l m : List Bd) (h : ∀ x ∈ l,∀ y ∈ m,ACalls Try.prog f [bedV x,bedV y] (.bo (p x y))) : ACalls Try.prog 70 [bedsR l,bedsR m,.fn f []] (.bo (eqF p l m)):=by
 refine acalls_st (rs:=[.bo (eqF p l m)]) [.tmp 6] Try.func70 rfl (by kernel_rfl) Try.ntmps70 rfl (by simp) rfl fun C vs=>?_
 repeat refine zq ?_
 refine zb (by kernel_rfl) fun K hK=>?_
 simp only [go_sem]
 (try simp (disch:=omega) only [zI])
 repeat first | intro _ | refine ⟨by omega,?_⟩ | refine ⟨⟨by omega,by omega⟩,?_⟩
 refine hK _ ?_
 clear hK K
 refine zw (zk [0,1,2]) ?_
 simp only [go_sem]
 repeat refine zq ?_
 refine zb (by kernel_rfl) fun K hK=>?_
 simp only [go_sem]
 (try simp (disch:=omega) only [zI])
 intro hla hlb
 by_cases h1 : l.length = m.length
 case neg =>
  have e4 : ((l.length : Int) != m.length) = true:=by simp; omega
  rw [e4]
  repeat first | intro _ | refine ⟨by omega,?_⟩ | refine ⟨⟨by omega,by omega⟩,?_⟩
  refine hK _ ?_
  clear hK K
  refine zw (zk [0,1,2,14]) ?_
  simp only [go_sem]
  repeat refine zq ?_
  refine zc rfl (fun hc=>?_) (fun hc=>?_) <;> (try simp only [go_sem] at hc)
  repeat refine zq ?_
  refine zb (by kernel_rfl) fun K hK=>?_
  simp only [go_sem]
  (try simp (disch:=omega) only [zI])
  repeat first | intro _ | refine ⟨by omega,?_⟩ | refine ⟨⟨by omega,by omega⟩,?_⟩
  refine hK _ ?_
  clear hK K
  refine zw (zk [6]) ?_
  simp only [go_sem]
  refine ze ?_
  simp only [go_sem]
  cases he : eqF p l m
  · rfl
  · exact absurd (eqF_len he) h1
 have e4 : ((l.length : Int) != m.length) = false:=by simp [h1]
 rw [e4]
 repeat first | intro _ | refine ⟨by omega,?_⟩ | refine ⟨⟨by omega,by omega⟩,?_⟩
 refine hK _ ?_
 clear hK K
 refine zw (zk [0,1,2,14]) ?_
 simp only [go_sem]
 repeat refine zq ?_
 refine zc rfl (fun hc=>?_) (fun hc=>?_) <;> (try simp only [go_sem] at hc)
 refine zx ?_
 try simp only [go_sem]
 repeat refine zq ?_
 refine zb (by kernel_rfl) fun K hK=>?_
 simp only [go_sem]
 (try simp (disch:=omega) only [zI])
 intro _
 repeat first | intro _ | refine ⟨by omega,?_⟩ | refine ⟨⟨by omega,by omega⟩,?_⟩
 refine hK _ ?_
 clear hK K
 refine zw (zk [1,2,15,16,17]) ?_
 simp only [go_sem]
 repeat refine zq ?_
 refine zd ?_
 refine awp_upto (n:=32) l.length (fun i vs=>[(1,.r (bedsR m)),(2,.r (.fn f [])),(15,.r (bedsR l)),(16,.r (i64 l.length)),(17,.r (i64 i))])
  (fun i=>[]) (fun i=>eqF p (l.take i) (m.take i) = true) 0 (fit_of [] ?_ ?_) (Nat.zero_le _) rfl ?_
 · try simp only [go_sem]
 · try simp only [go_sem]
 · intro i vs hi hI
   repeat refine zq ?_
   refine zb (by kernel_rfl) fun K hK=>?_
   simp only [go_sem]
   (try simp (disch:=omega) only [zI])
   repeat first | intro _ | refine ⟨by omega,?_⟩ | refine ⟨⟨by omega,by omega⟩,?_⟩
   refine hK _ ?_
   clear hK K
   refine zw (zk [1,2,15,16,17,18]) ?_
   simp only [go_sem]
   repeat refine zq ?_
   refine zc rfl (fun hc=>?_) (fun hc=>?_) <;> (try simp only [go_sem] at hc)
   · skip
     have hci : i < l.length:=by omega
     have hc2 : i < m.length:=by omega
     obtain ⟨x,hx⟩:=opt_of_lt hci
     obtain ⟨y,hy⟩:=opt_of_lt hc2
     have hp:=h x (mem_of_opt hx) y (mem_of_opt hy)
     refine zx ?_
     try simp only [go_sem]
     repeat refine zq ?_
     refine zd ?_
     repeat refine zq ?_
     refine zb (by kernel_rfl) fun K hK=>?_
     simp only [go_sem,hx,hci,bedR]
     (try simp (disch:=omega) only [zI])
     repeat first | intro _ | refine ⟨by omega,?_⟩ | refine ⟨⟨by omega,by omega⟩,?_⟩
     refine hK _ ?_
     clear hK K
     refine zw (sub_frzP 8 8 (bedR x) (by omega) rfl rfl) ?_
     refine zw (zk [1,2,7,8,15,16,17]) ?_
     simp only [go_sem]
     repeat refine zq ?_
     refine zb (by kernel_rfl) fun K hK=>?_
     simp only [go_sem,hy,hc2,bedR]
     (try simp (disch:=omega) only [zI])
     repeat first | intro _ | refine ⟨by omega,?_⟩ | refine ⟨⟨by omega,by omega⟩,?_⟩
     refine hK _ ?_
     clear hK K
     refine zw (sub_frzP 9 9 (bedR y) (by omega) rfl rfl) ?_
     refine zw (zk [1,2,8,9,15,16,17]) ?_
     simp only [go_sem]
     repeat refine zq ?_
     refine zb (by kernel_rfl) fun K hK=>?_
     simp only [go_sem,bedR]
     (try simp (disch:=omega) only [zI])
     refine zh (hp) rfl (by simp only [go_sem,i64,ints,bedR]) (by simp only [go_sem,i64,ints,bedR]) (by first | exact .inl rfl | exact .inr rfl) ?_
     (try simp only [go_sem,bedR])
     (try simp (disch:=omega) only [zI])
     cases hb : p x y
     · repeat first | intro _ | refine ⟨by omega,?_⟩ | refine ⟨⟨by omega,by omega⟩,?_⟩
       refine hK _ ?_
       clear hK K
       refine zw (zk [1,2,15,16,17,30]) ?_
       simp only [go_sem]
       repeat refine zq ?_
       refine zc rfl (fun hc=>?_) (fun hc=>?_) <;> (try simp only [go_sem] at hc)
       repeat refine zq ?_
       refine zb (by kernel_rfl) fun K hK=>?_
       simp only [go_sem]
       (try simp (disch:=omega) only [zI])
       repeat first | intro _ | refine ⟨by omega,?_⟩ | refine ⟨⟨by omega,by omega⟩,?_⟩
       refine hK _ ?_
       clear hK K
       refine zw (zk [6]) ?_
       simp only [go_sem]
       refine ze ?_
       simp only [go_sem]
       rw [eqF_bad hx hy hb]
     · repeat first | intro _ | refine ⟨by omega,?_⟩ | refine ⟨⟨by omega,by omega⟩,?_⟩
       refine hK _ ?_
       clear hK K
       refine zw (zk [1,2,15,16,17,30]) ?_
       simp only [go_sem]
       repeat refine zq ?_
       refine zc rfl (fun hc=>?_) (fun hc=>?_) <;> (try simp only [go_sem] at hc)
       refine zx ?_
       try simp only [go_sem]
       repeat refine zq ?_
       refine zb (by kernel_rfl) fun K hK=>?_
       simp only [go_sem]
       (try simp (disch:=omega) only [zI])
       repeat first | intro _ | refine ⟨by omega,?_⟩ | refine ⟨⟨by omega,by omega⟩,?_⟩
       refine hK _ ?_
       clear hK K
       try simp only [go_sem]
       refine ⟨hci,?_,fit_of [] ?_ ?_⟩
       · rw [take_of_opt hx,take_of_opt hy,eqF_snoc (by simp; omega),hI,hb]; rfl
       · try simp only [go_sem]
       · try simp only [go_sem]
   · skip
     refine zf ?_
     simp only [go_sem]
     repeat refine zq ?_
     refine zb (by kernel_rfl) fun K hK=>?_
     simp only [go_sem]
     (try simp (disch:=omega) only [zI])
     repeat first | intro _ | refine ⟨by omega,?_⟩ | refine ⟨⟨by omega,by omega⟩,?_⟩
     refine hK _ ?_
     clear hK K
     refine zw (zk [6]) ?_
     simp only [go_sem]
     refine ze ?_
     simp only [go_sem]
     have : i = l.length:=by omega
     rw [this,List.take_length,h1,List.take_length] at hI
     rw [hI]
theorem pool1_ok (x y : Am) : ACalls Try.prog 69 [aimV x,aimV y] (.bo (sameA x y)):=by
 have hE:=eqBeds_ok sameB 71 x.beds y.beds (fun c _ d _=>pool11_ok c d)
 refine acalls_st (rs:=[.bo (sameA x y)]) [.tmp 4] Try.func69 rfl (by kernel_rfl) Try.ntmps69 rfl (by simp) rfl fun C vs=>?_
 repeat refine zq ?_
 refine zb (by kernel_rfl) fun K hK=>?_
 simp only [go_sem]
 (try simp (disch:=omega) only [zI])
 repeat first | intro _ | refine ⟨by omega,?_⟩ | refine ⟨⟨by omega,by omega⟩,?_⟩
 refine hK _ ?_
 clear hK K
 refine zw (sub_frzP 2 2 (aimR x) (by omega) rfl rfl) ?_
 refine zw (sub_frzP 3 3 (aimR y) (by omega) rfl rfl) ?_
 refine zw (zk [2,3]) ?_
 simp only [go_sem]
 cases h0 : (x.at_ == y.at_)
 · repeat refine zq ?_
   refine zb (by kernel_rfl) fun K hK=>?_
   simp only [go_sem,h0,aimR]
   (try simp (disch:=omega) only [zI])
   repeat first | intro _ | refine ⟨by omega,?_⟩ | refine ⟨⟨by omega,by omega⟩,?_⟩
   refine hK _ ?_
   clear hK K
   refine zw (zk [4]) ?_
   simp only [go_sem]
   refine ze ?_
   simp only [go_sem]
   simp [sameA,h0]
 · repeat refine zq ?_
   refine zb (by kernel_rfl) fun K hK=>?_
   simp only [go_sem,h0,aimR]
   (try simp (disch:=omega) only [zI])
   refine zh (hE) rfl (by simp only [go_sem,i64,ints,h0,aimR]) (by simp only [go_sem,i64,ints,h0,aimR]) (by first | exact .inl rfl | exact .inr rfl) ?_
   (try simp only [go_sem,h0,aimR])
   (try simp (disch:=omega) only [zI])
   repeat first | intro _ | refine ⟨by omega,?_⟩ | refine ⟨⟨by omega,by omega⟩,?_⟩
   refine hK _ ?_
   clear hK K
   refine zw (zk [4]) ?_
   simp only [go_sem]
   refine ze ?_
   simp only [go_sem]
   simp [sameA,h0]
theorem eqAims_ok (p : Am → Am → Bool) (f : Nat) (l m : List Am) (h : ∀ x ∈ l,∀ y ∈ m,ACalls Try.prog f [aimV x,aimV y] (.bo (p x y))) : ACalls Try.prog 72 [aimsR l,aimsR m,.fn f []] (.bo (eqF p l m)):=by
 refine acalls_st (rs:=[.bo (eqF p l m)]) [.tmp 6] Try.func72 rfl (by kernel_rfl) Try.ntmps72 rfl (by simp) rfl fun C vs=>?_
 repeat refine zq ?_
 refine zb (by kernel_rfl) fun K hK=>?_
 simp only [go_sem]
 (try simp (disch:=omega) only [zI])
 repeat first | intro _ | refine ⟨by omega,?_⟩ | refine ⟨⟨by omega,by omega⟩,?_⟩
 refine hK _ ?_
 clear hK K
 refine zw (zk [0,1,2]) ?_
 simp only [go_sem]
 repeat refine zq ?_
 refine zb (by kernel_rfl) fun K hK=>?_
 simp only [go_sem]
 (try simp (disch:=omega) only [zI])
 intro hla hlb
 by_cases h1 : l.length = m.length
 case neg =>
  have e4 : ((l.length : Int) != m.length) = true:=by simp; omega
  rw [e4]
  repeat first | intro _ | refine ⟨by omega,?_⟩ | refine ⟨⟨by omega,by omega⟩,?_⟩
  refine hK _ ?_
  clear hK K
  refine zw (zk [0,1,2,14]) ?_
  simp only [go_sem]
  repeat refine zq ?_
  refine zc rfl (fun hc=>?_) (fun hc=>?_) <;> (try simp only [go_sem] at hc)
  repeat refine zq ?_
  refine zb (by kernel_rfl) fun K hK=>?_
  simp only [go_sem]
  (try simp (disch:=omega) only [zI])
  repeat first | intro _ | refine ⟨by omega,?_⟩ | refine ⟨⟨by omega,by omega⟩,?_⟩
  refine hK _ ?_
  clear hK K
  refine zw (zk [6]) ?_
  simp only [go_sem]
  refine ze ?_
  simp only [go_sem]
  cases he : eqF p l m
  · rfl
  · exact absurd (eqF_len he) h1
 have e4 : ((l.length : Int) != m.length) = false:=by simp [h1]
 rw [e4]
 repeat first | intro _ | refine ⟨by omega,?_⟩ | refine ⟨⟨by omega,by omega⟩,?_⟩
 refine hK _ ?_
 clear hK K
 refine zw (zk [0,1,2,14]) ?_
 simp only [go_sem]
 repeat refine zq ?_
 refine zc rfl (fun hc=>?_) (fun hc=>?_) <;> (try simp only [go_sem] at hc)
 refine zx ?_
 try simp only [go_sem]
 repeat refine zq ?_
 refine zb (by kernel_rfl) fun K hK=>?_
 simp only [go_sem]
 (try simp (disch:=omega) only [zI])
 intro _
 repeat first | intro _ | refine ⟨by omega,?_⟩ | refine ⟨⟨by omega,by omega⟩,?_⟩
 refine hK _ ?_
 clear hK K
 refine zw (zk [1,2,15,16,17]) ?_
 simp only [go_sem]
 repeat refine zq ?_
 refine zd ?_
 refine awp_upto (n:=32) l.length (fun i vs=>[(1,.r (aimsR m)),(2,.r (.fn f [])),(15,.r (aimsR l)),(16,.r (i64 l.length)),(17,.r (i64 i))])
  (fun i=>[]) (fun i=>eqF p (l.take i) (m.take i) = true) 0 (fit_of [] ?_ ?_) (Nat.zero_le _) rfl ?_
 · try simp only [go_sem]
 · try simp only [go_sem]
 · intro i vs hi hI
   repeat refine zq ?_
   refine zb (by kernel_rfl) fun K hK=>?_
   simp only [go_sem]
   (try simp (disch:=omega) only [zI])
   repeat first | intro _ | refine ⟨by omega,?_⟩ | refine ⟨⟨by omega,by omega⟩,?_⟩
   refine hK _ ?_
   clear hK K
   refine zw (zk [1,2,15,16,17,18]) ?_
   simp only [go_sem]
   repeat refine zq ?_
   refine zc rfl (fun hc=>?_) (fun hc=>?_) <;> (try simp only [go_sem] at hc)
   · skip
     have hci : i < l.length:=by omega
     have hc2 : i < m.length:=by omega
     obtain ⟨x,hx⟩:=opt_of_lt hci
     obtain ⟨y,hy⟩:=opt_of_lt hc2
     have hp:=h x (mem_of_opt hx) y (mem_of_opt hy)
     refine zx ?_
     try simp only [go_sem]
     repeat refine zq ?_
     refine zd ?_
     repeat refine zq ?_
     refine zb (by kernel_rfl) fun K hK=>?_
     simp only [go_sem,hx,hci,aimR]
     (try simp (disch:=omega) only [zI])
     repeat first | intro _ | refine ⟨by omega,?_⟩ | refine ⟨⟨by omega,by omega⟩,?_⟩
     refine hK _ ?_
     clear hK K
     refine zw (sub_frzP 8 8 (aimR x) (by omega) rfl rfl) ?_
     refine zw (zk [1,2,7,8,15,16,17]) ?_
     simp only [go_sem]
     repeat refine zq ?_
     refine zb (by kernel_rfl) fun K hK=>?_
     simp only [go_sem,hy,hc2,aimR]
     (try simp (disch:=omega) only [zI])
     repeat first | intro _ | refine ⟨by omega,?_⟩ | refine ⟨⟨by omega,by omega⟩,?_⟩
     refine hK _ ?_
     clear hK K
     refine zw (sub_frzP 9 9 (aimR y) (by omega) rfl rfl) ?_
     refine zw (zk [1,2,8,9,15,16,17]) ?_
     simp only [go_sem]
     repeat refine zq ?_
     refine zb (by kernel_rfl) fun K hK=>?_
     simp only [go_sem,aimR]
     (try simp (disch:=omega) only [zI])
     refine zh (hp) rfl (by simp only [go_sem,i64,ints,aimR]) (by simp only [go_sem,i64,ints,aimR]) (by first | exact .inl rfl | exact .inr rfl) ?_
     (try simp only [go_sem,aimR])
     (try simp (disch:=omega) only [zI])
     cases hb : p x y
     · repeat first | intro _ | refine ⟨by omega,?_⟩ | refine ⟨⟨by omega,by omega⟩,?_⟩
       refine hK _ ?_
       clear hK K
       refine zw (zk [1,2,15,16,17,30]) ?_
       simp only [go_sem]
       repeat refine zq ?_
       refine zc rfl (fun hc=>?_) (fun hc=>?_) <;> (try simp only [go_sem] at hc)
       repeat refine zq ?_
       refine zb (by kernel_rfl) fun K hK=>?_
       simp only [go_sem]
       (try simp (disch:=omega) only [zI])
       repeat first | intro _ | refine ⟨by omega,?_⟩ | refine ⟨⟨by omega,by omega⟩,?_⟩
       refine hK _ ?_
       clear hK K
       refine zw (zk [6]) ?_
       simp only [go_sem]
       refine ze ?_
       simp only [go_sem]
       rw [eqF_bad hx hy hb]
     · repeat first | intro _ | refine ⟨by omega,?_⟩ | refine ⟨⟨by omega,by omega⟩,?_⟩
       refine hK _ ?_
       clear hK K
       refine zw (zk [1,2,15,16,17,30]) ?_
       simp only [go_sem]
       repeat refine zq ?_
       refine zc rfl (fun hc=>?_) (fun hc=>?_) <;> (try simp only [go_sem] at hc)
       refine zx ?_
       try simp only [go_sem]
       repeat refine zq ?_
       refine zb (by kernel_rfl) fun K hK=>?_
       simp only [go_sem]
       (try simp (disch:=omega) only [zI])
       repeat first | intro _ | refine ⟨by omega,?_⟩ | refine ⟨⟨by omega,by omega⟩,?_⟩
       refine hK _ ?_
       clear hK K
       try simp only [go_sem]
       refine ⟨hci,?_,fit_of [] ?_ ?_⟩
       · rw [take_of_opt hx,take_of_opt hy,eqF_snoc (by simp; omega),hI,hb]; rfl
       · try simp only [go_sem]
       · try simp only [go_sem]
   · skip
     refine zf ?_
     simp only [go_sem]
     repeat refine zq ?_
     refine zb (by kernel_rfl) fun K hK=>?_
     simp only [go_sem]
     (try simp (disch:=omega) only [zI])
     repeat first | intro _ | refine ⟨by omega,?_⟩ | refine ⟨⟨by omega,by omega⟩,?_⟩
     refine hK _ ?_
     clear hK K
     refine zw (zk [6]) ?_
     simp only [go_sem]
     refine ze ?_
     simp only [go_sem]
     have : i = l.length:=by omega
     rw [this,List.take_length,h1,List.take_length] at hI
     rw [hI]
end Go.Proofs.Ytgkejinoaommeaa

namespace Go.Proofs.Ytgkejinoaommeaa
open Go Go.Oc
set_option linter.unusedSimpArgs false
set_option linter.unusedVariables false
set_option maxRecDepth 8000
def poolB (c d : Bd) : Bd:=⟨c.b,c.lo + d.lo,c.hi + d.hi⟩
def poolA (x y : Am) : Am:=⟨x.at_,List.zipWith poolB x.beds y.beds⟩
def poolL (l m : List Am) : List Am:=List.zipWith poolA l m
def poolE (d : Int) (l : List Am) (e : Int) (m : List Am) : Int :=
 if checkV d l ≠ 0 then checkV d l else if checkV e m ≠ 0 then checkV e m else if eqF sameA l m = false then 4 else if 3000 < d + e then 8 else 0
def poolV (d : Int) (l : List Am) (e : Int) (m : List Am) : RV:=if poolE d l e m = 0 then lawV (d + e) (poolL l m) else .ag [i64 0,.ns]
theorem eqF_get {α : Type} {p : α → α → Bool} : ∀ {l m : List α} {i : Nat} {x y : α},eqF p l m = true → l[i]? = some x → m[i]? = some y → p x y = true
 | x :: xs, y :: ys, 0, _, _, h, h1, h2 => by
   simp only [List.getElem?_cons_zero,Option.some.injEq] at h1 h2
   subst h1 h2
   simp only [eqF,Bool.and_eq_true] at h
   exact h.1
 | x :: xs, y :: ys, i + 1, _, _, h, h1, h2 => by
   simp only [List.getElem?_cons_succ] at h1 h2
   simp only [eqF,Bool.and_eq_true] at h
   exact eqF_get h.2 h1 h2
 | [],_,_,_,_,_,h1,_=>by simp at h1
 | _ :: _,[],_,_,_,_,_,h2=>by simp at h2
theorem pool_ok (d : Int) (l : List Am) (e : Int) (m : List Am) (hw : WfL d l) (hw2 : WfL e m) : ACalls Try.prog 45 [lawV d l,lawV e m] (.tu [poolV d l e m,i64 (poolE d l e m)]):=by
 have hc1:=check_ok d l hw
 have hc2:=check_ok e m hw2
 refine acalls_stR (rs:=[poolV d l e m,i64 (poolE d l e m)]) [.cell 4 24,.tmp 5] Try.func45 rfl (by kernel_rfl) Try.ntmps45 rfl (by simp) rfl fun C hC vs=>?_
 repeat refine zq ?_
 refine zb (by kernel_rfl) fun K hK=>?_
 simp only [go_sem]
 (try simp (disch:=omega) only [zI])
 repeat first | intro _ | refine ⟨by omega,?_⟩ | refine ⟨⟨by omega,by omega⟩,?_⟩
 refine hK _ ?_
 clear hK K
 refine zw (sub_frzP 2 2 [i64 d,aimsR l] (by omega) rfl rfl) ?_
 refine zw (sub_frzP 3 3 [i64 e,aimsR m] (by omega) rfl rfl) ?_
 refine zw (zk [2,3,4]) ?_
 simp only [go_sem]
 repeat refine zq ?_
 refine zb (by kernel_rfl) fun K hK=>?_
 simp only [go_sem]
 (try simp (disch:=omega) only [zI])
 repeat first | intro _ | refine ⟨by omega,?_⟩ | refine ⟨⟨by omega,by omega⟩,?_⟩
 refine hK _ ?_
 clear hK K
 refine zw (zk [2,3,4,19,20]) ?_
 simp only [go_sem]
 repeat refine zq ?_
 refine zd ?_
 refine awp_upto (n:=109) 2 (fun i vs=>[(2,.r (.rp [i64 d,aimsR l])),(3,.r (.rp [i64 e,aimsR m])),(4,.pt 4 (vs 4) 0),(19,.ag [.r (i64 d),.r (aimsR l),.r (i64 e),.r (aimsR m)]),(20,.r (i64 i))])
  (fun i=>[(4,.box [.r (i64 0),.r .ns])]) (fun i=>(1 ≤ i → checkV d l = 0) ∧ (2 ≤ i → checkV e m = 0)) 0 (fit_of [] ?_ ?_) (Nat.zero_le _) ⟨fun h=>by omega,fun h=>by omega⟩ ?_
 · try simp only [go_sem]
 · try simp only [go_sem]
 · intro i vs hi hI
   repeat refine zq ?_
   refine zb (by kernel_rfl) fun K hK=>?_
   simp only [go_sem]
   (try simp (disch:=omega) only [zI])
   repeat first | intro _ | refine ⟨by omega,?_⟩ | refine ⟨⟨by omega,by omega⟩,?_⟩
   refine hK _ ?_
   clear hK K
   refine zw (zk [2,3,4,19,20,21]) ?_
   simp only [go_sem]
   repeat refine zq ?_
   refine zc rfl (fun hc=>?_) (fun hc=>?_) <;> (try simp only [go_sem] at hc)
   · skip
     have hci : i < 2:=by omega
     have h01 : i = 0 ∨ i = 1:=by omega
     refine zx ?_
     try simp only [go_sem]
     repeat refine zq ?_
     refine zd ?_
     rcases h01 with rfl | rfl
     · repeat refine zq ?_
       refine zb (by kernel_rfl) fun K hK=>?_
       simp only [go_sem]
       (try simp (disch:=omega) only [zI])
       repeat first | intro _ | refine ⟨by omega,?_⟩ | refine ⟨⟨by omega,by omega⟩,?_⟩
       refine hK _ ?_
       clear hK K
       refine zw (sub_frzP 7 7 [i64 d,aimsR l] (by omega) rfl rfl) ?_
       refine zw (zk [2,3,4,7,19,20]) ?_
       simp only [go_sem]
       repeat refine zq ?_
       refine zb (by kernel_rfl) fun K hK=>?_
       simp only [go_sem]
       (try simp (disch:=omega) only [zI])
       refine zh (hc1) rfl (by simp only [go_sem,i64,ints]) (by simp only [go_sem,i64,ints]) (by first | exact .inl rfl | exact .inr rfl) ?_
       (try simp only [go_sem])
       (try simp (disch:=omega) only [zI])
       repeat first | intro _ | refine ⟨by omega,?_⟩ | refine ⟨⟨by omega,by omega⟩,?_⟩
       refine hK _ ?_
       clear hK K
       refine zw (zk [2,3,4,8,19,20]) ?_
       simp only [go_sem]
       by_cases h0 : checkV d l = 0
       · rw [h0]
         repeat refine zq ?_
         refine zb (by kernel_rfl) fun K hK=>?_
         simp only [go_sem,bne_self_eq_false]
         (try simp (disch:=omega) only [zI])
         repeat first | intro _ | refine ⟨by omega,?_⟩ | refine ⟨⟨by omega,by omega⟩,?_⟩
         refine hK _ ?_
         clear hK K
         refine zw (zk [2,3,4,8,19,20,26]) ?_
         simp only [go_sem]
         repeat refine zq ?_
         refine zc rfl (fun hc=>?_) (fun hc=>?_) <;> (try simp only [go_sem] at hc)
         refine zx ?_
         try simp only [go_sem]
         repeat refine zq ?_
         refine zb (by kernel_rfl) fun K hK=>?_
         simp only [go_sem]
         (try simp (disch:=omega) only [zI])
         repeat first | intro _ | refine ⟨by omega,?_⟩ | refine ⟨⟨by omega,by omega⟩,?_⟩
         refine hK _ ?_
         clear hK K
         try simp only [go_sem]
         refine fit_of [] ?_ ?_
         · try simp only [go_sem]
         · try simp only [go_sem]
       · have hp : poolE d l e m = checkV d l:=by simp [poolE,h0]
         have e0 : (checkV d l != 0) = true:=by simpa using h0
         repeat refine zq ?_
         refine zb (by kernel_rfl) fun K hK=>?_
         simp only [go_sem,e0]
         (try simp (disch:=omega) only [zI])
         repeat first | intro _ | refine ⟨by omega,?_⟩ | refine ⟨⟨by omega,by omega⟩,?_⟩
         refine hK _ ?_
         clear hK K
         refine zw (zk [2,3,4,8,19,20,26]) ?_
         simp only [go_sem]
         repeat refine zq ?_
         refine zc rfl (fun hc=>?_) (fun hc=>?_) <;> (try simp only [go_sem] at hc)
         repeat refine zq ?_
         refine zb (by kernel_rfl) fun K hK=>?_
         simp only [go_sem]
         (try simp (disch:=omega) only [zI])
         repeat first | intro _ | refine ⟨by omega,?_⟩ | refine ⟨⟨by omega,by omega⟩,?_⟩
         refine hK _ ?_
         clear hK K
         refine zw (zk [4,5]) ?_
         simp only [go_sem]
         refine ze ?_
         simp only [go_sem]
         simp [poolV,hp,h0,leL_refl.le_refl]
     · obtain ⟨hI1,_⟩:=hI
       have hI1:=hI1 (by omega)
       repeat refine zq ?_
       refine zb (by kernel_rfl) fun K hK=>?_
       simp only [go_sem]
       (try simp (disch:=omega) only [zI])
       repeat first | intro _ | refine ⟨by omega,?_⟩ | refine ⟨⟨by omega,by omega⟩,?_⟩
       refine hK _ ?_
       clear hK K
       refine zw (sub_frzP 7 7 [i64 e,aimsR m] (by omega) rfl rfl) ?_
       refine zw (zk [2,3,4,7,19,20]) ?_
       simp only [go_sem]
       repeat refine zq ?_
       refine zb (by kernel_rfl) fun K hK=>?_
       simp only [go_sem]
       (try simp (disch:=omega) only [zI])
       refine zh (hc2) rfl (by simp only [go_sem,i64,ints]) (by simp only [go_sem,i64,ints]) (by first | exact .inl rfl | exact .inr rfl) ?_
       (try simp only [go_sem])
       (try simp (disch:=omega) only [zI])
       repeat first | intro _ | refine ⟨by omega,?_⟩ | refine ⟨⟨by omega,by omega⟩,?_⟩
       refine hK _ ?_
       clear hK K
       refine zw (zk [2,3,4,8,19,20]) ?_
       simp only [go_sem]
       by_cases h0 : checkV e m = 0
       · rw [h0]
         repeat refine zq ?_
         refine zb (by kernel_rfl) fun K hK=>?_
         simp only [go_sem,bne_self_eq_false]
         (try simp (disch:=omega) only [zI])
         repeat first | intro _ | refine ⟨by omega,?_⟩ | refine ⟨⟨by omega,by omega⟩,?_⟩
         refine hK _ ?_
         clear hK K
         refine zw (zk [2,3,4,8,19,20,26]) ?_
         simp only [go_sem]
         repeat refine zq ?_
         refine zc rfl (fun hc=>?_) (fun hc=>?_) <;> (try simp only [go_sem] at hc)
         refine zx ?_
         try simp only [go_sem]
         repeat refine zq ?_
         refine zb (by kernel_rfl) fun K hK=>?_
         simp only [go_sem]
         (try simp (disch:=omega) only [zI])
         repeat first | intro _ | refine ⟨by omega,?_⟩ | refine ⟨⟨by omega,by omega⟩,?_⟩
         refine hK _ ?_
         clear hK K
         try simp only [go_sem]
         refine ⟨hI1,fit_of [] ?_ ?_⟩
         · try simp only [go_sem]
         · try simp only [go_sem]
       · have hp : poolE d l e m = checkV e m:=by simp [poolE,h0,hI1]
         have e0 : (checkV e m != 0) = true:=by simpa using h0
         repeat refine zq ?_
         refine zb (by kernel_rfl) fun K hK=>?_
         simp only [go_sem,e0]
         (try simp (disch:=omega) only [zI])
         repeat first | intro _ | refine ⟨by omega,?_⟩ | refine ⟨⟨by omega,by omega⟩,?_⟩
         refine hK _ ?_
         clear hK K
         refine zw (zk [2,3,4,8,19,20,26]) ?_
         simp only [go_sem]
         repeat refine zq ?_
         refine zc rfl (fun hc=>?_) (fun hc=>?_) <;> (try simp only [go_sem] at hc)
         repeat refine zq ?_
         refine zb (by kernel_rfl) fun K hK=>?_
         simp only [go_sem]
         (try simp (disch:=omega) only [zI])
         repeat first | intro _ | refine ⟨by omega,?_⟩ | refine ⟨⟨by omega,by omega⟩,?_⟩
         refine hK _ ?_
         clear hK K
         refine zw (zk [4,5]) ?_
         simp only [go_sem]
         refine ze ?_
         simp only [go_sem]
         simp [poolV,hp,h0,leL_refl.le_refl]
   · skip
     have h2 : 2 ≤ i:=by omega
     have z1:=hI.1 (by omega)
     have z2:=hI.2 h2
     obtain ⟨c1,c2,c3,c4,c5⟩:=checkV_zero z1
     obtain ⟨d1,d2,d3,d4,d5⟩:=checkV_zero z2
     refine zf ?_
     simp only [go_sem]
     repeat refine zq ?_
     refine zb (by kernel_rfl) fun K hK=>?_
     simp only [go_sem]
     (try simp (disch:=omega) only [zI])
     repeat first | intro _ | refine ⟨by omega,?_⟩ | refine ⟨⟨by omega,by omega⟩,?_⟩
     refine hK _ ?_
     clear hK K
     refine zw (zk [2,3,4,9]) ?_
     simp only [go_sem]
     repeat refine zq ?_
     refine zd ?_
     repeat refine zq ?_
     refine zb (by kernel_rfl) fun K hK=>?_
     simp only [go_sem]
     (try simp (disch:=omega) only [zI])
     refine zh (eqAims_ok sameA 69 l m (fun x _ y _=>pool1_ok x y)) rfl (by simp only [go_sem,i64,ints]) (by simp only [go_sem,i64,ints]) (by first | exact .inl rfl | exact .inr rfl) ?_
     (try simp only [go_sem])
     (try simp (disch:=omega) only [zI])
     cases hq : eqF sameA l m
     · have hp : poolE d l e m = 4:=by simp [poolE,z1,z2,hq]
       repeat first | intro _ | refine ⟨by omega,?_⟩ | refine ⟨⟨by omega,by omega⟩,?_⟩
       refine hK _ ?_
       clear hK K
       refine zw (zk [2,3,4,30]) ?_
       simp only [go_sem]
       repeat refine zq ?_
       refine zc rfl (fun hc=>?_) (fun hc=>?_) <;> (try simp only [go_sem] at hc)
       repeat refine zq ?_
       refine zb (by kernel_rfl) fun K hK=>?_
       simp only [go_sem]
       (try simp (disch:=omega) only [zI])
       repeat first | intro _ | refine ⟨by omega,?_⟩ | refine ⟨⟨by omega,by omega⟩,?_⟩
       refine hK _ ?_
       clear hK K
       refine zw (zk [4,5]) ?_
       simp only [go_sem]
       refine ze ?_
       simp only [go_sem]
       simp [poolV,hp,leL_refl.le_refl]
     repeat first | intro _ | refine ⟨by omega,?_⟩ | refine ⟨⟨by omega,by omega⟩,?_⟩
     refine hK _ ?_
     clear hK K
     refine zw (zk [2,3,4,30]) ?_
     simp only [go_sem]
     repeat refine zq ?_
     refine zc rfl (fun hc=>?_) (fun hc=>?_) <;> (try simp only [go_sem] at hc)
     repeat refine zq ?_
     refine zb (by kernel_rfl) fun K hK=>?_
     simp only [go_sem]
     (try simp (disch:=omega) only [zI])
     repeat first | intro _ | refine ⟨by omega,?_⟩ | refine ⟨⟨by omega,by omega⟩,?_⟩
     refine hK _ ?_
     clear hK K
     refine zw (zk [2,3,4,39]) ?_
     simp only [go_sem]
     repeat refine zq ?_
     refine zc rfl (fun hc=>?_) (fun hc=>?_) <;> (try simp only [go_sem] at hc)
     · have hp : poolE d l e m = 8:=by
        have : 3000 < d + e:=by omega
        simp [poolE,z1,z2,hq,this]
       repeat refine zq ?_
       refine zb (by kernel_rfl) fun K hK=>?_
       simp only [go_sem]
       (try simp (disch:=omega) only [zI])
       repeat first | intro _ | refine ⟨by omega,?_⟩ | refine ⟨⟨by omega,by omega⟩,?_⟩
       refine hK _ ?_
       clear hK K
       refine zw (zk [4,5]) ?_
       simp only [go_sem]
       refine ze ?_
       simp only [go_sem]
       simp [poolV,hp,leL_refl.le_refl]
     have hp : poolE d l e m = 0:=by
      have : ¬ 3000 < d + e:=by omega
      simp [poolE,z1,z2,hq,this]
     have hpv : poolV d l e m = lawV (d + e) (poolL l m):=by simp [poolV,hp]
     have hlen:=eqF_len hq
     rw [hp,hpv]
     refine zx ?_
     try simp only [go_sem]
     repeat refine zq ?_
     refine zb (by kernel_rfl) fun K hK=>?_
     simp only [go_sem]
     (try simp (disch:=omega) only [zI])
     repeat first | intro _ | refine ⟨by omega,?_⟩ | refine ⟨⟨by omega,by omega⟩,?_⟩
     refine hK _ ?_
     clear hK K
     refine zw (zk [2,3,4,10]) ?_
     simp only [go_sem]
     repeat refine zq ?_
     refine zb (by kernel_rfl) fun K hK=>?_
     simp only [go_sem]
     (try simp (disch:=omega) only [zI])
     refine zh (all_ok d l) rfl (by simp only [go_sem,i64,ints]) (by simp only [go_sem,i64,ints]) (by first | exact .inl rfl | exact .inr rfl) ?_
     (try simp only [go_sem])
     (try simp (disch:=omega) only [zI])
     repeat first | intro _ | refine ⟨by omega,?_⟩ | refine ⟨⟨by omega,by omega⟩,?_⟩
     refine hK _ ?_
     clear hK K
     refine zw (zk [3,4,10,54]) ?_
     simp only [go_sem]
     repeat refine zq ?_
     refine zd ?_
     refine zw (sub_ownB 10 1 30 36 2 (by omega) (by omega) rfl rfl) ?_
     try simp only [go_sem]
     refine awp_rangeF hC (enumA d l) (all1_ok d l) [3,4,10,54] (by decide) (fun vs=>[(3,.r (.rp [i64 e,aimsR m])),(4,.pt 4 (vs 4) 0),(10,.pt 10 (vs 10) 0),(54,.r (.fn 73 [.rp [i64 d,aimsR l]]))])
      (fun i vs=>[(4,.box [.r (i64 0),.r .ns]),(10,.box [.r (i64 (d + e)),.os 30 (vs 30) 2 0 i]),(30,.arr 36 2 (((poolL l m).take i).map aimR))])
      (fun i=>True) (zj [] ?_ ?_) trivial (fun _=>rfl) (fun _=>rfl) (fun _ _=>rfl) (by simp) (fun e he=>enumA_len he) ?_ ?_
     · try simp only [go_sem]
     · try simp only [go_sem]
     · intro i e1 vs us C he _
       obtain ⟨x,hx,rfl⟩:=enumA_get he
       have hil : i < l.length:=(List.getElem?_eq_some_iff.1 hx).1
       have him : i < m.length:=by omega
       obtain ⟨y,hy⟩:=opt_of_lt him
       have hxy:=eqF_get hq hx hy
       simp only [sameA,Bool.and_eq_true] at hxy
       have hbl:=eqF_len hxy.2
       have hxl:=c2 x (mem_of_opt hx)
       have hsx:=chOk_small (aimOk_facts (c5 x (mem_of_opt hx))).2.2.2.1 (by omega)
       have hsy:=chOk_small (aimOk_facts (d5 y (mem_of_opt hy))).2.2.2.1 (by omega)
       have hpl : (poolL l m)[i]? = some (poolA x y):=by simp [poolL,List.getElem?_zipWith,hx,hy]
       have hpll : (poolL l m).length = l.length:=by simp [poolL,hlen]
       have hlt : ((poolL l m).take i).length = i:=by rw [List.length_take]; omega
       have htx : (poolL l m).take (i + 1) = (poolL l m).take i ++ [poolA x y]:=take_of_opt hpl
       repeat refine zq ?_
       refine zb (by kernel_rfl) fun K hK=>?_
       simp only [go_sem]
       (try simp (disch:=omega) only [zI])
       repeat first | intro _ | refine ⟨by omega,?_⟩ | refine ⟨⟨by omega,by omega⟩,?_⟩
       refine hK _ ?_
       clear hK K
       repeat refine zq ?_
       refine zb (by kernel_rfl) fun K hK=>?_
       simp only [go_sem]
       (try simp (disch:=omega) only [zI])
       repeat first | intro _ | refine ⟨by omega,?_⟩ | refine ⟨⟨by omega,by omega⟩,?_⟩
       refine hK _ ?_
       clear hK K
       refine ⟨rfl,fun C'=>?_⟩
       refine zw (sub_frzP 12 12 [i64 x.at_,bedsR x.beds,i64 d] (by omega) rfl rfl) ?_
       refine zw (zk [3,4,10,11,12,54]) ?_
       simp only [go_sem]
       repeat refine zq ?_
       refine zd ?_
       repeat refine zq ?_
       refine zb (by kernel_rfl) fun K hK=>?_
       simp only [go_sem]
       (try simp (disch:=omega) only [zI])
       repeat first | intro _ | refine ⟨by omega,?_⟩ | refine ⟨⟨by omega,by omega⟩,?_⟩
       refine hK _ ?_
       clear hK K
       refine zw (zk [3,4,10,11,12,13,54]) ?_
       simp only [go_sem]
       repeat refine zq ?_
       refine zb (by kernel_rfl) fun K hK=>?_
       simp only [go_sem]
       (try simp (disch:=omega) only [zI])
       intro _
       repeat first | intro _ | refine ⟨by omega,?_⟩ | refine ⟨⟨by omega,by omega⟩,?_⟩
       refine hK _ ?_
       clear hK K
       refine zw (zk [3,4,10,11,13,54,63,64,65]) ?_
       simp only [go_sem]
       repeat refine zq ?_
       refine zd ?_
       refine zw (sub_ownB 13 1 31 67 3 (by omega) (by omega) rfl rfl) ?_
       try simp only [go_sem]
       refine awp_uptoV (n:=109) x.beds.length (fun k vs=>[(3,.r (.rp [i64 e,aimsR m])),(4,.pt 4 (vs 4) 0),(10,.pt 10 (vs 10) 0),(11,.r (i64 i)),(13,.pt 13 (vs 13) 0),(54,.r (.fn 73 [.rp [i64 d,aimsR l]])),(63,.r (bedsR x.beds)),(64,.r (i64 x.beds.length)),(65,.r (i64 k))])
        (fun k vs=>[(0,.sus [.r (.rp [i64 e,aimsR m]),.pt 4 (vs 4) 0,.pt 10 (vs 10) 0,.r (.fn 73 [.rp [i64 d,aimsR l]])] us),(4,.box [.r (i64 0),.r .ns]),(10,.box [.r (i64 (d + e)),.os 30 (vs 30) 2 0 i]),(13,.box [.r (i64 x.at_),.os 31 (vs 31) 3 0 k]),(30,.arr 36 2 (((poolL l m).take i).map aimR)),(31,.arr 67 3 (((poolA x y).beds.take k).map bedR))])
        (fun _=>True) 0 (zj [] ?_ ?_) (Nat.zero_le _) trivial ?_
       · try simp only [go_sem]
       · try simp only [go_sem]
       · intro k vs hk _
         have hlk : ((poolA x y).beds.take k).length = k:=by rw [List.length_take]; simp [poolA]; omega
         repeat refine zq ?_
         refine zb (by kernel_rfl) fun K hK=>?_
         simp only [go_sem]
         (try simp (disch:=omega) only [zI])
         repeat first | intro _ | refine ⟨by omega,?_⟩ | refine ⟨⟨by omega,by omega⟩,?_⟩
         refine hK _ ?_
         clear hK K
         refine zw (zk [3,4,10,11,13,54,63,64,65,66]) ?_
         simp only [go_sem]
         repeat refine zq ?_
         refine zc rfl (fun hc=>?_) (fun hc=>?_) <;> (try simp only [go_sem] at hc)
         · skip
           have hck:=hc
           obtain ⟨u,hu⟩:=opt_of_lt hck
           have hckv : k < y.beds.length:=by omega
           obtain ⟨v,hv⟩:=opt_of_lt hckv
           have bu:=hsx u (mem_of_opt hu)
           have bv:=hsy v (mem_of_opt hv)
           have htk : (poolA x y).beds.take (k + 1) = (poolA x y).beds.take k ++ [poolB u v]:=take_of_opt (by simp [poolA,List.getElem?_zipWith,hu,hv])
           refine zx ?_
           try simp only [go_sem]
           repeat refine zq ?_
           refine zd ?_
           repeat refine zq ?_
           refine zb (by kernel_rfl) fun K hK=>?_
           simp only [go_sem,hu,hck,bedR]
           (try simp (disch:=omega) only [zI])
           repeat first | intro _ | refine ⟨by omega,?_⟩ | refine ⟨⟨by omega,by omega⟩,?_⟩
           refine hK _ ?_
           clear hK K
           refine zw (zk [3,4,10,11,13,14,15,54,63,64,65]) ?_
           simp only [go_sem]
           repeat refine zq ?_
           refine zb (by kernel_rfl) fun K hK=>?_
           simp only [go_sem,hy,him,aimR,hv,hckv,bedR]
           (try simp (disch:=omega) only [zI])
           repeat first | intro _ | refine ⟨by omega,?_⟩ | refine ⟨⟨by omega,by omega⟩,?_⟩
           refine hK _ ?_
           clear hK K
           refine zw (sub_frzP 16 16 [i64 v.b,i64 v.lo,i64 v.hi] (by omega) rfl rfl) ?_
           refine zw (zk [3,4,10,11,13,15,16,54,63,64,65]) ?_
           simp only [go_sem]
           repeat refine zq ?_
           refine zb (by kernel_rfl) fun K hK=>?_
           simp only [go_sem]
           (try simp (disch:=omega) only [zI])
           repeat first | intro _ | refine ⟨by omega,?_⟩ | refine ⟨⟨by omega,by omega⟩,?_⟩
           refine hK _ ?_
           clear hK K
           refine zw (zk [3,4,10,11,13,15,54,63,64,65]) ?_
           simp only [go_sem]
           repeat refine zq ?_
           refine zb (by kernel_rfl) fun K hK=>?_
           simp only [go_sem,hlk]
           (try simp (disch:=omega) only [zI])
           repeat first | intro _ | refine ⟨by omega,?_⟩ | refine ⟨⟨by omega,by omega⟩,?_⟩
           refine hK _ ?_
           clear hK K
           refine zw (zk [3,4,10,11,13,54,63,64,65]) ?_
           simp only [go_sem]
           repeat refine zq ?_
           refine zb (by kernel_rfl) fun K hK=>?_
           simp only [go_sem]
           (try simp (disch:=omega) only [zI])
           repeat first | intro _ | refine ⟨by omega,?_⟩ | refine ⟨⟨by omega,by omega⟩,?_⟩
           refine hK _ ?_
           clear hK K
           try simp only [go_sem]
           refine ⟨hck,zj [15] ?_ ?_⟩
           · try simp only [go_sem]
           · try simp only [go_sem]
             rw [htk]
             simp [bedR,poolB]
         · skip
           have hkk : k = x.beds.length:=by omega
           subst hkk
           have ebl : (poolA x y).beds.take x.beds.length = (poolA x y).beds:=List.take_of_length_le (by simp [poolA]; omega)
           have ebn : ((poolA x y).beds.map bedR).length = x.beds.length:=by simp [poolA]; omega
           have etl : List.take x.beds.length ((poolA x y).beds.map bedR) = (poolA x y).beds.map bedR:=List.take_of_length_le (by omega)
           rw [ebl]
           refine zf ?_
           simp only [go_sem]
           refine zw (sub_frzB 13 1 31 (by omega) (by omega) rfl rfl rfl (by rw [ebn]; omega)) ?_
           simp only [go_sem,List.drop_zero,etl,List.set_cons_succ,List.set_cons_zero]
           refine zw (zk [3,4,10,13,54]) ?_
           simp only [go_sem]
           repeat refine zq ?_
           refine zb (by kernel_rfl) fun K hK=>?_
           simp only [go_sem,hlt]
           (try simp (disch:=omega) only [zI])
           repeat first | intro _ | refine ⟨by omega,?_⟩ | refine ⟨⟨by omega,by omega⟩,?_⟩
           refine hK _ ?_
           clear hK K
           try simp only [go_sem]
           refine zj (F:=fun _=>[]) [13] (by try simp only [go_sem]) ?_
           try simp only [go_sem]
           rw [htx]
           simp [aimR,poolA]
     · intro vs us _
       try simp only [go_sem]
       refine zw (sub_wake rfl) ?_
       repeat refine zq ?_
       refine zb (by kernel_rfl) fun K hK=>?_
       simp only [go_sem]
       (try simp (disch:=omega) only [zI])
       repeat first | intro _ | refine ⟨by omega,?_⟩ | refine ⟨⟨by omega,by omega⟩,?_⟩
       refine hK _ ?_
       clear hK K
       refine ze ?_
       simp only [go_sem]
       have hel : (enumA d l).length = l.length:=by simp [enumA]
       rw [hel]
       have hpll : (poolL l m).length = l.length:=by simp [poolL,hlen]
       have hfull : (poolL l m).take l.length = poolL l m:=List.take_of_length_le (by omega)
       rw [hfull,List.take_of_length_le (by simp [hpll])]
       simp [leL_refl.le_refl,hpll]
end Go.Proofs.Ytgkejinoaommeaa

namespace Go.Proofs.Ytgkejinoaommeaa
open Go Go.Oc
set_option linter.unusedSimpArgs false
set_option linter.unusedVariables false
set_option maxRecDepth 8000
theorem iterM_b (x x' : Lw) (most w : Int) (n n' : Nat) : ∀ k,(iterM x most w n k).1.map (·.b) = (iterM x' most w n' k).1.map (·.b)
 | 0=>rfl
 | k + 1 => by
   have ih:=iterM_b x x' most w n n' k
   have hl : (iterM x most w n k).1.length = (iterM x' most w n' k).1.length:=by have:=congrArg List.length ih; simpa using this
   simp only [iterM,addM,hl]
   split
   · simp only [List.map_append,ih,List.map_cons,List.map_nil]
   · exact ih
theorem set_b {l : List Bd} {k : Nat} {lo hi : Int} : (l.set k ⟨(l.getD k ⟨0,0,0⟩).b,lo,hi⟩).map (·.b) = l.map (·.b):=by
 rw [List.map_set]
 refine List.ext_getElem? fun i=>?_
 rw [List.getElem?_set]
 split
 · rename_i e
   subst e
   split
   · rename_i h
     rw [List.length_map] at h
     rw [List.getElem?_map,List.getElem?_eq_getElem h,List.getD_eq_getElem?_getD,List.getElem?_eq_getElem h]; rfl
   · rename_i h
     rw [List.getElem?_eq_none (by omega)]
 · rfl
theorem raiseB_b (D : Int) (l : List Bd) (k : Nat) : (raiseB D l k).map (·.b) = l.map (·.b):=by
 unfold raiseB
 split
 · exact set_b
 · rfl
theorem raiseN_b (D : Int) (l : List Bd) : ∀ k,(raiseN D l k).map (·.b) = l.map (·.b)
 | 0=>rfl
 | k + 1=>by simp only [raiseN,raiseB_b,raiseN_b D l k]
theorem fixM_b (x : Lw) (D : Int) (l : List Bd) : (fixM x D l).map (·.b) = l.map (·.b):=by
 unfold fixM
 rw [raiseN_b,raiseB_b]
 simp [capB,Function.comp_def]
theorem eqF_b : ∀ {l m : List Bd},l.map (·.b) = m.map (·.b) → eqF sameB l m = true
 | [],[],_=>rfl
 | x :: l, y :: m, h => by
   simp only [List.map_cons,List.cons.injEq] at h
   simp only [eqF,sameB,h.1,beq_self_eq_true,eqF_b h.2,Bool.and_true]
 | [],_ :: _,h=>by simp at h
 | _ :: _,[],h=>by simp at h
theorem eqF_b' : ∀ {l m : List Bd},eqF sameB l m = true → l.map (·.b) = m.map (·.b)
 | [],[],_=>rfl
 | x :: l, y :: m, h => by
   simp only [eqF,sameB,Bool.and_eq_true,beq_iff_eq] at h
   simp only [List.map_cons,h.1,eqF_b' h.2]
 | [],_ :: _,h=>by simp [eqF] at h
 | _ :: _,[],h=>by simp [eqF] at h
theorem eqF_map {α : Type} {f g : α → Am} : ∀ {I : List α},(∀ i ∈ I,sameA (f i) (g i) = true) → eqF sameA (I.map f) (I.map g) = true
 | [],_=>rfl
 | i :: I, h => by
   simp only [List.map_cons,eqF,h i (by simp),Bool.true_and]
   exact eqF_map fun j hj=>h j (by simp [hj])
theorem aims_same {x x' : Lw} (h : x'.which = x.which) (hr : x'.rest = x.rest) (most : Int) : eqF sameA (aimsM x most) (aimsM x' most) = true:=by
 have hc : cntM x' = cntM x:=by unfold cntM; rw [h]
 unfold aimsM rawM
 rw [hc]
 split
 · rw [hr]
   exact eqF_map fun a _=>by
    simp only [sameA,beq_self_eq_true,Bool.true_and]
    exact eqF_b (by rw [fixM_b,fixM_b])
 · rw [List.map_map,List.map_map]
   refine eqF_map fun i _=>?_
   simp only [Function.comp_def,sameA,beq_self_eq_true,Bool.true_and]
   refine eqF_b ?_
   rw [fixM_b,fixM_b]
   unfold bedsM
   rw [h]
   exact iterM_b _ _ _ _ _ _ _
theorem den_le {x : Lw} (hx : WfLw x) {most : Int} (hm : 0 ≤ most ∧ most ≤ 40) : denM x most ≤ 420:=by
 have hr:=hx.rest
 have h1 : ∀ a ∈ rawM x most,0 ≤ loS a.beds ∧ loS a.beds ≤ 400:=fun a ha=>by
  unfold rawM at ha
  split at ha
  · rw [List.mem_singleton] at ha
    subst ha
    simp only [loS,List.map_cons,List.map_nil,List.sum_cons,List.sum_nil]; omega
  · obtain ⟨i,_,rfl⟩:=List.mem_map.1 ha
    have hI:=iterM_ok hx hm.1 (x.which.getD i 0) (nM x most i) 13 (Nat.le_refl _)
    have h2:=loS_le (B:=most) (l:=bedsM x most i) fun c hc=>by have:=(hI.each c hc).2; omega
    have h3 : (bedsM x most i).length ≤ 10:=hI.len
    simp only
    have h4 : most * ((bedsM x most i).length : Int) ≤ 40 * 10:=Int.mul_le_mul hm.2 (by omega) (by omega) (by omega)
    omega
 have h2 : 0 ≤ sumsM (rawM x most) ∧ sumsM (rawM x most) ≤ 400:=sumsM_le (by omega) (by omega) h1
 unfold denM
 omega
theorem bAt_zip {l m : List Bd} (h : l.length = m.length) {i : Nat} (hi : i < l.length) : bAt (List.zipWith poolB l m) i = poolB (bAt l i) (bAt m i):=by
 unfold bAt
 rw [List.getD_eq_getElem?_getD,List.getD_eq_getElem?_getD,List.getD_eq_getElem?_getD,List.getElem?_zipWith,List.getElem?_eq_getElem hi,List.getElem?_eq_getElem (by omega)]
 rfl
theorem zip_b : ∀ {l m : List Bd},l.length = m.length → (List.zipWith poolB l m).map (·.b) = l.map (·.b)
 | [],[],_=>rfl
 | x :: l,y :: m,h=>by simp only [List.zipWith_cons_cons,List.map_cons,zip_b (show l.length = m.length by simpa using h)]; rfl
 | [],_ :: _,h=>by simp at h
 | _ :: _,[],h=>by simp at h
theorem zip_lo : ∀ {l m : List Bd},l.length = m.length → loS (List.zipWith poolB l m) = loS l + loS m ∧ hiS (List.zipWith poolB l m) = hiS l + hiS m
 | [],[],_=>by simp [loS,hiS]
 | x :: l, y :: m, h => by
   obtain ⟨h1,h2⟩:=zip_lo (show l.length = m.length by simpa using h)
   simp only [loS,hiS,List.zipWith_cons_cons,List.map_cons,List.sum_cons,poolB] at h1 h2 ⊢
   omega
 | [],_ :: _,h=>by simp at h
 | _ :: _,[],h=>by simp at h
theorem zip_comm : ∀ {l m : List Bd},l.map (·.b) = m.map (·.b) → List.zipWith poolB l m = List.zipWith poolB m l
 | [],[],_=>rfl
 | x :: l, y :: m, h => by
   simp only [List.map_cons,List.cons.injEq] at h
   simp only [List.zipWith_cons_cons,zip_comm h.2,poolB,h.1,Int.add_comm]
 | [],_ :: _,h=>by simp at h
 | _ :: _,[],h=>by simp at h
theorem sameA_iff {x y : Am} (h : sameA x y = true) : x.at_ = y.at_ ∧ x.beds.map (·.b) = y.beds.map (·.b):=by
 simp only [sameA,Bool.and_eq_true,beq_iff_eq] at h
 exact ⟨h.1,eqF_b' h.2⟩
theorem poolL_comm : ∀ {l m : List Am},eqF sameA l m = true → poolL l m = poolL m l
 | [],[],_=>rfl
 | x :: l, y :: m, h => by
   simp only [eqF,Bool.and_eq_true] at h
   obtain ⟨h1,h2⟩:=sameA_iff h.1
   have:=poolL_comm h.2
   unfold poolL at this ⊢
   simp only [List.zipWith_cons_cons,this,poolA,h1,zip_comm h2]
 | [],_ :: _,h=>by simp [eqF] at h
 | _ :: _,[],h=>by simp [eqF] at h
theorem eqF_sym : ∀ {l m : List Am},eqF sameA l m = true → eqF sameA m l = true
 | [],[],_=>rfl
 | x :: l, y :: m, h => by
   simp only [eqF,Bool.and_eq_true] at h ⊢
   obtain ⟨h1,h2⟩:=sameA_iff h.1
   exact ⟨by simp only [sameA,h1,beq_self_eq_true,Bool.true_and]; exact eqF_b h2.symm,eqF_sym h.2⟩
 | [],_ :: _,h=>by simp [eqF] at h
 | _ :: _,[],h=>by simp [eqF] at h
theorem poolL_get {l m : List Am} {i : Nat} {x y : Am} (hx : l[i]? = some x) (hy : m[i]? = some y) : (poolL l m)[i]? = some (poolA x y):=by
 unfold poolL
 rw [List.getElem?_zipWith,hx,hy]
theorem pool_made {d e : Int} (hd : 1 ≤ d ∧ 1 ≤ e ∧ d + e ≤ 3000) {x y : Am} (hx : MadeI d x) (hy : MadeI e y) (hs : sameA x y = true) : MadeI (d + e) (poolA x y):=by
 obtain ⟨s1,s2⟩:=sameA_iff hs
 have hl : x.beds.length = y.beds.length:=by have:=congrArg List.length s2; simpa using this
 have o1:=hx.ok
 have o2:=hy.ok
 have hlen:=hx.len
 simp only [aimOk,chOk,Bool.and_eq_true,decide_eq_true_eq,List.all_eq_true] at o1 o2
 obtain ⟨⟨⟨⟨⟨p1,p2⟩,p3⟩,p4⟩,p5⟩,p6⟩:=o1
 obtain ⟨⟨⟨⟨⟨q1,q2⟩,q3⟩,q4⟩,q5⟩,q6⟩:=o2
 obtain ⟨z1,z2⟩:=zip_lo hl
 have hzl : (List.zipWith poolB x.beds y.beds).length = x.beds.length:=by rw [List.length_zipWith]; omega
 have hch : chOk (d + e) (List.zipWith poolB x.beds y.beds) = true:=by
  simp only [chOk,Bool.and_eq_true,decide_eq_true_eq,List.all_eq_true]
  intro c hc
  obtain ⟨k,hk,rfl⟩:=mem_bAt hc
  rw [hzl] at hk
  have g1:=p4 _ (bAt_mem hk)
  have g2:=q4 _ (bAt_mem (show k < y.beds.length by omega))
  rw [bAt_zip hl hk]
  simp only [poolB]; omega
 have hne : (List.zipWith poolB x.beds y.beds).isEmpty = false:=by
  cases hq : List.zipWith poolB x.beds y.beds with
  | nil=>rw [hq] at hzl; simp at hzl; omega
  | cons=>rfl
 refine ⟨?_,⟨hx.wf.1,fun c hc=>?_⟩,?_⟩
 · simp only [aimOk,poolA,seqOk_map (zip_b hl),p3,p1,hch,hne,Bool.not_false,Bool.and_true,Bool.true_and,Bool.and_eq_true]
   exact ⟨decide_eq_true (by omega),decide_eq_true (by omega)⟩
 · simp only [poolA] at hc
   have g:=List.all_eq_true.1 hch c hc
   simp only [Bool.and_eq_true,decide_eq_true_eq] at g
   have : c.b ∈ x.beds.map (·.b):=by rw [← zip_b hl]; exact List.mem_map.2 ⟨c,hc,rfl⟩
   obtain ⟨c0,hc0,e0⟩:=List.mem_map.1 this
   have:=(hx.wf.2 c0 hc0).1
   rw [e0] at this
   refine ⟨this,?_,?_⟩ <;> unfold I64 <;> omega
 · simp only [poolA]; omega
theorem truth_sum2 {d e : Int} {x y : List Bd} (hl : x.length = y.length) {n m : List Int} (hn : TruthN d x n) (hm : TruthN e y m) : TruthN (d + e) (List.zipWith poolB x y) (List.zipWith (· + ·) n m):=by
 have h1:=hn.len
 have h2:=hm.len
 have hs : ∀ {n m : List Int},n.length = m.length → (List.zipWith (· + ·) n m).sum = n.sum + m.sum:=fun {n}=>by
  induction n with
  | nil => intro m h; cases m with
    | nil=>rfl
    | cons=>simp at h
  | cons a n ih =>
    intro m h
    cases m with
    | nil=>simp at h
    | cons b m =>
      have:=ih (m:=m) (by simpa using h)
      simp only [List.zipWith_cons_cons,List.sum_cons,this]; omega
 refine ⟨by rw [List.length_zipWith,List.length_zipWith]; omega,fun i hi=>?_,by rw [hs (by omega),hn.sum,hm.sum]⟩
 rw [List.length_zipWith] at hi
 rw [bAt_zip hl (by omega),List.getD_eq_getElem?_getD,List.getElem?_zipWith,List.getElem?_eq_getElem (by omega),List.getElem?_eq_getElem (show i < m.length by omega)]
 have e1:=hn.each i (by omega)
 have e2:=hm.each i (by omega)
 rw [List.getD_eq_getElem?_getD,List.getElem?_eq_getElem (by omega)] at e1 e2
 simp only [Option.getD_some] at e1 e2
 simp only [poolB,Option.getD_some]
 omega
theorem dot_sum2 : ∀ {n m v : List Int},n.length = m.length → dotV (List.zipWith (· + ·) n m) v = dotV n v + dotV m v
 | [],[],v,_=>by cases v <;> simp [dotV]
 | a :: n,b :: m,[],_=>by simp [dotV]
 | a :: n, b :: m, c :: v, h => by
   have:=dot_sum2 (n:=n) (m:=m) (v:=v) (by simpa using h)
   simp only [List.zipWith_cons_cons,dotV,this,Int.add_mul]; omega
 | [],_ :: _,_,h=>by simp at h
 | _ :: _,[],_,h=>by simp at h
theorem scores_b {l m : List Bd} (h : l.map (·.b) = m.map (·.b)) : scoresOf l = scoresOf m:=by
 have e : ∀ l : List Bd,scoresOf l = (l.map (·.b)).map scoreOf:=fun l=>by simp [scoresOf]
 rw [e,e,h]
theorem span_pool {d e : Int} {x y : Am} (hx : MadeI d x) (hy : MadeI e y) (hs : sameA x y = true) :
 (spanOf (d + e) (poolA x y)).1 ≤ (spanOf d x).1 + (spanOf e y).1 ∧ (spanOf d x).2 + (spanOf e y).2 ≤ (spanOf (d + e) (poolA x y)).2:=by
 obtain ⟨s1,s2⟩:=sameA_iff hs
 have hl : x.beds.length = y.beds.length:=by have:=congrArg List.length s2; simpa using this
 have o1:=hx.ok
 have o2:=hy.ok
 simp only [aimOk,chOk,Bool.and_eq_true,decide_eq_true_eq,List.all_eq_true] at o1 o2
 obtain ⟨⟨⟨_,p4⟩,p5⟩,p6⟩:=o1
 obtain ⟨⟨⟨_,q4⟩,q5⟩,q6⟩:=o2
 have e1 : scoresOf (poolA x y).beds = scoresOf x.beds:=scores_b (zip_b hl)
 have e2 : scoresOf y.beds = scoresOf x.beds:=scores_b s2.symm
 have key : ∀ cm : Int → Int → Int,TruthN d x.beds (filledV cm d x.beds (scoresOf x.beds)) ∧ TruthN e y.beds (filledV cm e y.beds (scoresOf x.beds)):=fun cm =>
  ⟨filled_truth (fun c hc=>(p4 c hc).1.2) p5 p6,filled_truth (fun c hc=>(q4 c hc).1.2) q5 q6⟩
 obtain ⟨a1,a2⟩:=key cmpI
 obtain ⟨b1,b2⟩:=key fun x y=>cmpI y x
 have hzl : (List.zipWith poolB x.beds y.beds).length = x.beds.length:=by rw [List.length_zipWith]; omega
 have f1:=(filled_bound (vals:=scoresOf x.beds) (by rw [hzl]; simp [scoresOf]) (truth_sum2 hl a1 a2)).1
 have f2:=(filled_bound (vals:=scoresOf x.beds) (by rw [hzl]; simp [scoresOf]) (truth_sum2 hl b1 b2)).2
 rw [dot_sum2 (by rw [a1.len,a2.len,hl])] at f1
 rw [dot_sum2 (by rw [b1.len,b2.len,hl])] at f2
 unfold spanOf
 rw [e1,e2]
 exact ⟨f1,f2⟩
end Go.Proofs.Ytgkejinoaommeaa

namespace Go.Proofs.Ytgkejinoaommeaa
open Go Go.Oc
set_option linter.unusedSimpArgs false
set_option linter.unusedVariables false
set_option maxRecDepth 8000
theorem dotV_le {B : Int} (hB : 0 ≤ B) : ∀ {n v : List Int},(∀ x ∈ n,0 ≤ x ∧ x ≤ 3000) → (∀ x ∈ v,0 ≤ x ∧ x ≤ B) → 0 ≤ dotV n v ∧ dotV n v ≤ 3000 * B * n.length
 | [],_,_,_=>by simp [dotV]
 | x :: n, [], _, _ => by
   simp only [dotV]
   refine ⟨Int.le_refl _,Int.mul_nonneg (Int.mul_nonneg (by omega) hB) (by omega)⟩
 | x :: n, y :: v, h1, h2 => by
   have ih:=dotV_le hB (n:=n) (v:=v) (fun z hz=>h1 z (by simp [hz])) fun z hz=>h2 z (by simp [hz])
   have hx:=h1 x (by simp)
   have hy:=h2 y (by simp)
   have m1:=Int.mul_nonneg hx.1 hy.1
   have m2:=Int.mul_le_mul hx.2 hy.2 hy.1 (by omega)
   simp only [dotV,List.length_cons,Int.natCast_add,Int.mul_add]
   omega
end Go.Proofs.Ytgkejinoaommeaa

namespace Go.Proofs.Ytgkejinoaommeaa
open Go Go.Oc
set_option linter.unusedSimpArgs false
set_option linter.unusedVariables false
set_option maxRecDepth 8000
theorem sum_take {l : List Int} {k : Nat} {v : Int} (h : l[k]? = some v) : (l.take (k + 1)).sum = (l.take k).sum + v:=by
 rw [take_of_opt h,List.sum_append]; simp
theorem sum_bnd {B : Int} (hB : 0 ≤ B) : ∀ {l : List Int},(∀ x ∈ l,0 ≤ x ∧ x ≤ B) → 0 ≤ l.sum ∧ l.sum ≤ B * l.length
 | [],_=>by simp
 | x :: l, h => by
   have ih:=sum_bnd hB (l:=l) fun z hz=>h z (by simp [hz])
   have:=h x (by simp)
   simp only [List.sum_cons,List.length_cons,Int.natCast_add,Int.mul_add]
   omega
theorem isTruth_ok (a : Am) (den : Int) (y : List Int) (h : TruthN den a.beds y) (h1 : ∀ c ∈ a.beds,0 ≤ c.lo ∧ c.hi ≤ 10000) (hl : a.beds.length ≤ 1000) (hd : 0 ≤ den ∧ den ≤ 1000000) : ACalls Try.prog 44 [.ag [i64 a.at_,bedsR a.beds],i64 den,ints y] (.bo true):=by
 have hyl:=h.len
 have hyb : ∀ x ∈ y,0 ≤ x ∧ x ≤ 10000:=fun x hx=>by
  obtain ⟨k,hk⟩:=List.getElem?_of_mem hx
  have hkl:=(List.getElem?_eq_some_iff.1 hk).1
  have e:=h.each k (by omega)
  have g:=h1 _ (bAt_mem (show k < a.beds.length by omega))
  rw [List.getD_eq_getElem?_getD,hk] at e
  simp only [Option.getD_some] at e
  omega
 have c0 : ((y.length : Int) != (a.beds.length : Int)) = false:=by simp [hyl]
 refine acalls_st (rs:=[.bo true]) [.tmp 6] Try.func44 rfl (by kernel_rfl) Try.ntmps44 rfl (by simp) rfl fun C vs=>?_
 repeat refine zq ?_
 refine zb (by kernel_rfl) fun K hK=>?_
 simp only [go_sem]
 (try simp (disch:=omega) only [zI])
 repeat first | intro _ | refine ⟨by omega,?_⟩ | refine ⟨⟨by omega,by omega⟩,?_⟩
 refine hK _ ?_
 clear hK K
 refine zw (sub_frzP 3 3 [i64 a.at_,bedsR a.beds] (by omega) rfl rfl) ?_
 refine zw (zk [1,2,3]) ?_
 simp only [go_sem]
 repeat refine zq ?_
 refine zb (by kernel_rfl) fun K hK=>?_
 simp only [go_sem,hyl,bne_self_eq_false]
 (try simp (disch:=omega) only [zI])
 repeat first | intro _ | refine ⟨by omega,?_⟩ | refine ⟨⟨by omega,by omega⟩,?_⟩
 refine hK _ ?_
 clear hK K
 refine zw (zk [1,2,3,13]) ?_
 simp only [go_sem]
 repeat refine zq ?_
 refine zc rfl (fun hc=>?_) (fun hc=>?_) <;> (try simp only [go_sem] at hc)
 refine zx ?_
 try simp only [go_sem]
 repeat refine zq ?_
 refine zb (by kernel_rfl) fun K hK=>?_
 simp only [go_sem]
 (try simp (disch:=omega) only [zI])
 repeat first | intro _ | refine ⟨by omega,?_⟩ | refine ⟨⟨by omega,by omega⟩,?_⟩
 refine hK _ ?_
 clear hK K
 refine zw (zk [1,2,3,7]) ?_
 simp only [go_sem]
 repeat refine zq ?_
 refine zd ?_
 refine awp_uptoV (n:=54) y.length (fun i vs=>[(1,.r (i64 (den - (y.take i).sum))),(2,.r (ints y)),(3,.r (.rp [i64 a.at_,bedsR a.beds])),(7,.r (i64 (i : Int)))])
  (fun i vs=>[]) (fun _=>True) 0 (zj [] ?_ ?_) (Nat.zero_le _) trivial ?_
 · try simp only [go_sem]
   simp
 · try simp only [go_sem]
 · intro i vs hi _
   have hti:=sum_bnd (B:=10000) (by omega) (l:=y.take i) fun x hx=>hyb x (List.mem_of_mem_take hx)
   have htl : (y.take i).length ≤ 1000:=by rw [List.length_take]; omega
   repeat refine zq ?_
   refine zb (by kernel_rfl) fun K hK=>?_
   simp only [go_sem]
   (try simp (disch:=omega) only [zI])
   repeat first | intro _ | refine ⟨by omega,?_⟩ | refine ⟨⟨by omega,by omega⟩,?_⟩
   refine hK _ ?_
   clear hK K
   refine zw (zk [1,2,3,7,17]) ?_
   simp only [go_sem]
   repeat refine zq ?_
   refine zc rfl (fun hc=>?_) (fun hc=>?_) <;> (try simp only [go_sem] at hc)
   · have hci : i < y.length:=by omega
     obtain ⟨v,hv⟩:=opt_of_lt hci
     have hib : i < a.beds.length:=by omega
     obtain ⟨c,hc1⟩:=opt_of_lt hib
     have e:=h.each i hib
     have hvb:=hyb v (mem_of_opt hv)
     have eb : bAt a.beds i = c:=by unfold bAt; rw [List.getD_eq_getElem?_getD,hc1]; rfl
     have ev : y.getD i 0 = v:=by rw [List.getD_eq_getElem?_getD,hv]; rfl
     rw [eb,ev] at e
     have d1 : decide (v < c.lo) = false:=decide_eq_false (by omega)
     have d1' : ¬ v < c.lo:=by omega
     have d2 : decide (c.hi < v) = false:=decide_eq_false (by omega)
     have d2' : ¬ c.hi < v:=by omega
     have hst:=sum_take hv
     refine zx ?_
     try simp only [go_sem]
     repeat refine zq ?_
     refine zd ?_
     repeat refine zq ?_
     refine zg follows (by decide +kernel) (by kernel_rfl) fun K hK=>?_
     simp only [go_sem,hv,hc1,hci,hib,bedR,d1,d1',d2,d2']
     (try simp (disch:=omega) only [zI])
     repeat first | intro _ | refine ⟨by omega,?_⟩ | refine ⟨⟨by omega,by omega⟩,?_⟩
     refine hK _ ?_
     clear hK K
     refine zw (zk [1,2,3,7,45]) ?_
     simp only [go_sem]
     repeat refine zq ?_
     refine zc rfl (fun hc=>?_) (fun hc=>?_) <;> (try simp only [go_sem] at hc)
     refine zx ?_
     try simp only [go_sem]
     repeat refine zq ?_
     refine zb (by kernel_rfl) fun K hK=>?_
     simp only [go_sem,hv,hci]
     (try simp (disch:=omega) only [zI])
     repeat first | intro _ | refine ⟨by omega,?_⟩ | refine ⟨⟨by omega,by omega⟩,?_⟩
     refine hK _ ?_
     clear hK K
     refine zw (zk [1,2,3,7]) ?_
     simp only [go_sem]
     repeat refine zq ?_
     refine zb (by kernel_rfl) fun K hK=>?_
     simp only [go_sem]
     (try simp (disch:=omega) only [zI])
     repeat first | intro _ | refine ⟨by omega,?_⟩ | refine ⟨⟨by omega,by omega⟩,?_⟩
     refine hK _ ?_
     clear hK K
     try simp only [go_sem]
     refine ⟨by omega,zj [] ?_ ?_⟩
     · try simp only [go_sem]
       rw [hst,Int.sub_sub]
     · try simp only [go_sem]
   · have hie : i = y.length:=by omega
     subst hie
     have hs:=h.sum
     rw [List.take_of_length_le (Nat.le_refl y.length),hs,Int.sub_self]
     refine zf ?_
     simp only [go_sem]
     repeat refine zq ?_
     refine zb (by kernel_rfl) fun K hK=>?_
     simp only [go_sem]
     (try simp (disch:=omega) only [zI])
     repeat first | intro _ | refine ⟨by omega,?_⟩ | refine ⟨⟨by omega,by omega⟩,?_⟩
     refine hK _ ?_
     clear hK K
     refine zw (zk [6]) ?_
     simp only [go_sem]
     refine ze ?_
     simp only [go_sem]
end Go.Proofs.Ytgkejinoaommeaa
