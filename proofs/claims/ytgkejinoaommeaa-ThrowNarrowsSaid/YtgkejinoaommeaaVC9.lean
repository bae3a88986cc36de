/- Part 9 of the texts of this claim. -/
import Derived.Test.YtgkejinoaommeaaVC8
import Derived.Test.YtgkejinoaommeaaVC4
import Derived.Test.YtgkejinoaommeaaVC7
import Derived.Test.YtgkejinoaommeaaVC6
namespace Go.Oc
open Go Go.RowKit
instance {c : Prop} [h : Decidable c] {v : AV} : Decidable (Res.when c v).pre:=h
instance {v : AV} : Decidable (Res.val v).pre:=.isTrue trivial
instance : Decidable Res.bad.pre:=.isFalse id
instance {c a : Prop} [h : Decidable c] {y : Yi} : Decidable (Res.mk c a y).pre:=h
def nilB {α : Type} (l : List α) : Decidable (l = []):=match l with
 | []=>.isTrue rfl
 | _ :: _=>.isFalse (by simp)
instance {α : Type} {l : List α} : Decidable (l = []):=nilB l
def RowC.isDead : RowC → Bool
 | .dead=>true
 | _=>false
theorem isDead_iff {c : RowC} : c = .dead ↔ c.isDead = true:=by cases c <;> simp [RowC.isDead]
instance {c : RowC} : Decidable (c = .dead):=decidable_of_iff _ isDead_iff.symm
def decNews {s : AS} {y : AV} {c : Prop} {sz : Nat} {es : List (List RV)} (h : news? s y = some (c,sz,es)) : Decidable c:=by
 unfold news? at h
 split at h
 · exact .isTrue (by injection h with h; injection h with h1 _; rw [← h1]; trivial)
 · exact .isTrue (by injection h with h; injection h with h1 _; rw [← h1]; trivial)
 · split at h
   · rename_i k n sz off m _ n' t sz' es' _
     exact decidable_of_iff (n = n' ∧ sz = sz' ∧ off + m ≤ es'.length) (by injection h with h; injection h with h1 _; rw [← h1])
   · cases h
 · cases h
def decLen {s : AS} {y : AV} {c : Prop} {m : Nat} (h : lenA s y = some (c,m)) : Decidable c:=by
 unfold lenA at h
 split at h
 · exact .isTrue (by injection h with h; injection h with h1 _; rw [← h1]; trivial)
 · exact .isTrue (by injection h with h; injection h with h1 _; rw [← h1]; trivial)
 · rename_i k n sz off m
   exact decidable_of_iff (n = s.ver k) (by injection h with h; injection h with h1 _; rw [← h1])
 · cases h
section
variable {P : Program} {s : AS}
instance {c a b : AV} : Decidable (sPick c a b).pre:=by delta sPick; split <;> infer_instance
instance {op : BinOp} {t : TypeId} {x y : AV} : Decidable (sEq P op t x y).pre:=by delta sEq; split <;> (try split) <;> infer_instance
instance {op : BinOp} {t : TypeId} {x y : AV} : Decidable (sBin P op t x y).pre:=by delta sBin; split <;> (try split) <;> infer_instance
instance {op : UnOp} {x : AV} : Decidable (sUn op x).pre:=by delta sUn; split <;> infer_instance
instance {a b : TypeId} {x : AV} : Decidable (sConv P a b x).pre:=by delta sConv; split <;> infer_instance
instance {t : TypeId} {a : AV} : Decidable (sLoad P s t a).pre:=by delta sLoad; split <;> (try split) <;> infer_instance
instance {t : TypeId} {a x : AV} : Decidable (sStore P s t a x).pre:=by delta sStore; split <;> (try split) <;> infer_instance
instance {d : Nat} {x : AV} : Decidable (sBox s d x).pre:=by delta sBox; split <;> infer_instance
instance {d : Nat} {t : TypeId} : Decidable (sAlloc P s d t).pre:=by delta sAlloc; split <;> infer_instance
instance {t : TypeId} {a : AV} {f : Nat} : Decidable (sField P s t a f).pre:=by delta sField; split <;> (try split) <;> (try split) <;> infer_instance
instance {cs : AV} {o sz : Nat} {agg : Bool} {c : Prop} [Decidable c] : Decidable (sPart cs o sz agg c).pre:=by delta sPart; split <;> infer_instance
instance {t : TypeId} {x : AV} {f : Nat} : Decidable (sFieldV P t x f).pre:=by delta sFieldV; split <;> (try split) <;> infer_instance
instance {t : TypeId} {x i : AV} : Decidable (sIndexV P t x i).pre:=by delta sIndexV; split <;> infer_instance
instance {t : TypeId} {x i : AV} : Decidable (sIndex P s t x i).pre:=by delta sIndex; split <;> (try split) <;> infer_instance
instance {x mx : AV} {lo hi : Option AV} : Decidable (sSlice3 s x lo hi mx).pre:=by
 delta sSlice3
 split
 · have:=decLen ‹lenA _ _ = some (_,_)›
   infer_instance
 · infer_instance
instance {n esz : Nat} {x : AV} {lo hi mx : Option AV} : Decidable (sSliceA n esz x lo hi mx).pre:=by delta sSliceA; split <;> infer_instance
instance {t : TypeId} {x : AV} {lo hi mx : Option AV} : Decidable (sSlice P s t x lo hi mx).pre:=by delta sSlice; split <;> (try split) <;> (try split) <;> infer_instance
instance {t : TypeId} {ps : List (Nat × AV)} : Decidable (sBuild P s t ps).pre:=by delta sBuild; split <;> (try split) <;> infer_instance
instance {t : TypeId} {n : Nat} {ps : List (Nat × AV)} : Decidable (sBuildSlice P s t n ps).pre:=by delta sBuildSlice; split <;> (try split) <;> (try split) <;> infer_instance
instance {d : Nat} {t : TypeId} {l c : AV} : Decidable (sMakeSlice P s d t l c).pre:=by delta sMakeSlice; split <;> infer_instance
instance {d : Nat} {t t' : TypeId} {x y : AV} : Decidable (sAppend P s d t t' x y).pre:=by
 delta sAppend
 split
 · rename_i h
   have:=decNews h
   infer_instance
 · rename_i h
   have:=decNews h
   infer_instance
 · rename_i h
   have:=decNews h
   split
   · infer_instance
   · split <;> infer_instance
   · infer_instance
 · infer_instance
instance {d : Nat} {t t' : TypeId} {x y : AV} : Decidable (sAppendZ P s d t t' x y).pre:=by delta sAppendZ; split <;> infer_instance
instance {t : TypeId} {x : AV} : Decidable (sCap P t x).pre:=by delta sCap; split <;> infer_instance
instance {t : TypeId} {x : AV} : Decidable (sClear P s t x).pre:=by delta sClear; split <;> (try split) <;> infer_instance
instance {t : TypeId} {x : AV} : Decidable (sLen P s t x).pre:=by delta sLen; split <;> (try split) <;> infer_instance
instance {r : Option RV} : Decidable (sMinMax r).pre:=by delta sMinMax; split <;> infer_instance
instance {x : AV} {i : Nat} : Decidable (sExtract x i).pre:=by delta sExtract; split <;> (try split) <;> infer_instance
instance {x : AV} : Decidable (sNil s x).pre:=by delta sNil; split <;> infer_instance
instance {d : Nat} {t : TypeId} : Decidable (sMakeMap P s d t).pre:=by delta sMakeMap; split <;> infer_instance
instance {t : TypeId} {x key : AV} {ok : Bool} : Decidable (sLookup P s t x key ok).pre:=by delta sLookup; split <;> (try split) <;> (try split) <;> infer_instance
instance {t : TypeId} {x key : AV} : Decidable (sMapEntry P s t x key).pre:=by delta sMapEntry; split <;> (try split) <;> (try split) <;> infer_instance
instance {x st v : AV} : Decidable (sEntryStore s x st v).pre:=by delta sEntryStore; split <;> (try split) <;> (try split) <;> infer_instance
instance {t : TypeId} {x key v : AV} : Decidable (sMapUpdate P s t x key v).pre:=by delta sMapUpdate; split <;> (try split) <;> (try split) <;> infer_instance
instance {d : Nat} {t : TypeId} {x : AV} : Decidable (sRange P s d t x).pre:=by delta sRange; split <;> (try split) <;> infer_instance
instance {x : AV} : Decidable (sEntry s x).pre:=by delta sEntry; split <;> (try split) <;> infer_instance
instance {d : Nat} {b : Builtin} {ts : List TypeId} {xs : List AV} : Decidable (sBuiltin P s d b ts xs).pre:=by delta sBuiltin; split <;> (try split) <;> infer_instance
instance decStep {o : Oper} : Decidable (step P o s).pre:=by delta step; split <;> (try split) <;> infer_instance
end
def nth : List AV → Nat → AV
 | [],_=>.r .un
 | x :: _,0=>x
 | _ :: l,t + 1=>nth l t
def setAt : List AV → Nat → AV → List AV
 | [],0,v=>[v]
 | [],d + 1,v=>.r .un :: setAt [] d v
 | _ :: l,0,v=>v :: l
 | x :: l,d + 1,v=>x :: setAt l d v
theorem nth_setAt : ∀ (l : List AV) (d : Nat) (v : AV) (t : Nat),nth (setAt l d v) t = if t = d then v else nth l t
 | [],0,v,0=>by simp [setAt,nth]
 | [],0,v,t + 1=>by simp [setAt,nth]
 | [],d + 1,v,0=>by simp [setAt,nth]
 | [],d + 1,v,t + 1=>by simp only [setAt,nth,nth_setAt [] d v t,Nat.add_right_cancel_iff]
 | x :: l,0,v,0=>by simp [setAt,nth]
 | x :: l,0,v,t + 1=>by simp [setAt,nth]
 | x :: l,d + 1,v,0=>by simp [setAt,nth]
 | x :: l,d + 1,v,t + 1=>by simp only [setAt,nth,nth_setAt l d v t,Nat.add_right_cancel_iff]
def rowAt : List (Nat × Row) → Nat → Row
 | [],_=>⟨0,.dead⟩
 | (j,r) :: l,k=>if k = j then r else rowAt l k
def setRow : List (Nat × Row) → Nat → Row → List (Nat × Row)
 | [],k,r=>[(k,r)]
 | (j,q) :: l,k,r=>if k = j then (j,r) :: l else (j,q) :: setRow l k r
theorem rowAt_setRow : ∀ (l : List (Nat × Row)) (k : Nat) (r : Row) (j : Nat),rowAt (setRow l k r) j = if j = k then r else rowAt l j
 | [],k,r,j=>rfl
 | (i, q) :: l, k, r, j => by
   unfold setRow
   split
   · rename_i e; subst e
     simp only [rowAt]
     split <;> rfl
   · rename_i e
     simp only [rowAt,rowAt_setRow l k r j]
     by_cases e1 : j = i
     · have : ¬ j = k:=by omega
       simp [e1]; omega
     · simp [e1]
structure CS where
 n : Nat
 tm : List AV
 rows : List (Nat × Row)
def CS.as (s : CS) : AS:=⟨s.n,nth s.tm,rowAt s.rows⟩
def CS.put (s : CS) (d : Option Nat) (v : AV) : CS:=match d with | some d=>⟨s.n,setAt s.tm d v,s.rows⟩ | none=>s
def CS.row (s : CS) (k : Nat) (r : Row) : CS:=⟨s.n,s.tm,setRow s.rows k r⟩
def CS.effs (s : CS) : List (Nat × Row) → CS
 | []=>s
 | (k,r) :: l=>(s.row k r).effs l
def CS.app (s : CS) (d : Option Nat) (y : Yi) : CS:=(s.effs y.eff).put d y.av
theorem as_put (s : CS) (d : Option Nat) (v : AV) : (s.put d v).as = s.as.put d v:=by
 cases d with
 | none=>rfl
 | some d =>
   simp only [CS.put,CS.as,AS.put,AS.mk.injEq,true_and,and_true]
   funext t
   rw [nth_setAt]; rfl
theorem as_row (s : CS) (k : Nat) (r : Row) : (s.row k r).as = s.as.row k r:=by
 simp only [CS.row,CS.as,AS.row,AS.mk.injEq,true_and]
 funext j
 rw [rowAt_setRow]; rfl
theorem as_effs : ∀ (l : List (Nat × Row)) (s : CS),(s.effs l).as = { s.as with rows:=l.foldl (fun f p=>upd f p.1 p.2) s.as.rows }
 | [],s=>rfl
 | (k, r) :: l, s => by
   simp only [CS.effs,as_effs l,as_row,List.foldl_cons]
   rfl
theorem as_app (s : CS) (d : Option Nat) (y : Yi) : (s.app d y).as = s.as.app d y:=by
 unfold CS.app AS.app
 rw [as_put,as_effs]
 rfl
theorem put_num (s : CS) (d : Option Nat) (v : AV) : (s.put d v).n = s.n:=by cases d <;> rfl
theorem effs_num : ∀ (l : List (Nat × Row)) (s : CS),(s.effs l).n = s.n
 | [],s=>rfl
 | (k,r) :: l,s=>by simp only [CS.effs,effs_num l]; rfl
theorem app_num (s : CS) (d : Option Nat) (y : Yi) : (s.app d y).n = s.n:=by simp only [CS.app,put_num,effs_num]
def bindL {α β : Type} (x : Option (List α)) (f : α → Option (List β)) : Option (List β) :=
 match x with
 | none=>none
 | some l=>go l
 where go : List α → Option (List β)
 | []=>some []
 | a :: l => match f a with
   | none=>none
   | some ys => match go l with
     | none=>none
     | some zs=>some (ys ++ zs)
theorem bindL_go {α β : Type} {f : α → Option (List β)} : ∀ {l : List α} {zs : List β},bindL.go f l = some zs → ∀ a ∈ l,∃ ys,f a = some ys ∧ ∀ y ∈ ys,y ∈ zs
 | [],_,_,a,ha=>by simp at ha
 | b :: l, zs, h, a, ha => by
   unfold bindL.go at h
   split at h
   · cases h
   · rename_i ys hys
     split at h
     · cases h
     · rename_i ws hws
       injection h with h; subst h
       rcases List.mem_cons.1 ha with rfl | ha
       · exact ⟨ys,hys,fun y hy=>by simp [hy]⟩
       · obtain ⟨y2,h1,h2⟩:=bindL_go hws a ha
         exact ⟨y2,h1,fun y hy=>by simp [h2 y hy]⟩
theorem bindL_spec {α β : Type} {x : Option (List α)} {f : α → Option (List β)} {zs : List β} (h : bindL x f = some zs) : ∃ l,x = some l ∧ ∀ a ∈ l,∃ ys,f a = some ys ∧ ∀ y ∈ ys,y ∈ zs:=by
 unfold bindL at h
 split at h
 · cases h
 · exact ⟨_,rfl,bindL_go h⟩
abbrev Caller:=Bool → CS → Option Nat → AV → List AV → Option CS
def Caller.ok (P : Program) (call : Caller) : Prop :=
 ∀ D s d f xs t,call D s d f xs = some t → t.n = s.n ∧ ∀ K : AS → Prop,K t.as → acall P s.as f xs (fun r=>K (s.as.put d (.r r))) ∨ (D = false ∧ (mcall P s.as d f xs K ∨ ocall P s.as d f xs K))
def each {α : Type} (f : Nat → α → CS) : List α → Nat → List CS
 | [],_=>[]
 | e :: l,i=>f i e :: each f l (i + 1)
theorem each_mem {α : Type} {f : Nat → α → CS} : ∀ {l : List α} {i j : Nat} {e : α},l[j]? = some e → f (i + j) e ∈ each f l i
 | [],_,_,_,h=>by simp at h
 | x :: l,i,0,e,h=>by simp at h; subst h; simp [each]
 | x :: l, i, j + 1, e, h => by
   simp at h
   have:=each_mem (f:=f) (i:=i + 1) h
   rw [show i + 1 + j = i + (j + 1) from by omega] at this
   simp [each,this]
theorem each_num {α : Type} {f : Nat → α → CS} {n : Nat} (h : ∀ i e,(f i e).n = n) : ∀ {l : List α} {i : Nat},∀ t ∈ each f l i,t.n = n
 | [],_,t,ht=>by simp [each] at ht
 | x :: l, i, t, ht => by
   simp only [each,List.mem_cons] at ht
   rcases ht with rfl | ht
   · exact h _ _
   · exact each_num h t ht
def nextC (s : CS) (d : Option Nat) (x : AV) : Option (List CS) :=
 match x with
 | .mi k n =>
   match rowAt s.rows k with
   | ⟨n', .mi km nm left _⟩ =>
     if n = n' ∧ nm = (rowAt s.rows km).ver ∧ k ≠ km then
      match left with
      | []=>some [s.put d (.r (.tu [.bo false]))]
      | e :: l=>some (each (fun i e'=>CS.put (s.row k ⟨n',.mi km nm ((e :: l).eraseIdx i) (some e')⟩) d (.r (.tu [.bo true,e'.1,e'.2]))) (e :: l) 0)
     else none
   | _=>none
 | _=>none
theorem nextC_ok {s : CS} {d : Option Nat} {x : AV} {L : List CS} (h : nextC s d x = some L) {K : AS → Prop} (hK : ∀ t ∈ L,K t.as) : sNext s.as d x K ∧ ∀ t ∈ L,t.n = s.n:=by
 unfold nextC at h
 split at h
 · rename_i k n
   split at h
   · rename_i n' km nm left cur hr
     split at h
     · rename_i hc
       have hr' : s.as.rows k = ⟨n',.mi km nm left cur⟩:=hr
       unfold sNext
       simp only [hr']
       split at h
       · injection h with h; subst h
         refine ⟨⟨hc.1,hc.2.1,hc.2.2,fun _=>?_,fun i e he=>by simp at he⟩,fun t ht=>?_⟩
         · rw [← as_put]; exact hK _ (by simp)
         · simp only [List.mem_singleton] at ht; rw [ht,put_num]
       · rename_i e l
         injection h with h; subst h
         refine ⟨⟨hc.1,hc.2.1,hc.2.2,fun h=>by simp at h,fun i e' he=>?_⟩,fun t ht=>?_⟩
         · rw [← as_row,← as_put]
           have:=each_mem (f:=fun i e'=>CS.put (s.row k ⟨n',.mi km nm ((e :: l).eraseIdx i) (some e')⟩) d (.r (.tu [.bo true,e'.1,e'.2]))) (i:=0) he
           rw [Nat.zero_add] at this
           exact hK _ this
         · exact each_num (fun i e=>by rw [put_num]; rfl) t ht
     · cases h
   · cases h
 · cases h
def opC (P : Program) (call : Caller) (D : Bool) (o : Oper) (s : CS) : Option (List CS) :=
 match o.op with
 | .call ⟨.value f, args, _⟩ =>
   match call D s o.dst (s.as.ev f) (args.toList.map s.as.ev) with
   | some t=>some [t]
   | none=>none
 | .next x false=>if D then none else nextC s o.dst (s.as.ev x)
 | _ =>
   if (step P o s.as).pre then
    if D && cls o == 2 && !((rowAt s.rows (o.dst.getD 0)).c.isDead && o.dst.isSome) then none
    else some [s.app o.dst (step P o s.as).y]
   else none
theorem opC_ok {P : Program} {call : Caller} (hcall : call.ok P) {D : Bool} {o : Oper} {s : CS} {L : List CS} (h : opC P call D o s = some L) {K : AS → Prop} (hK : ∀ t ∈ L,K t.as) : xop P D o K s.as ∧ ∀ t ∈ L,t.n = s.n:=by
 unfold opC at h
 split at h
 · rename_i f args ts ho
   split at h
   · rename_i t ht
     injection h with h; subst h
     obtain ⟨hn,hc⟩:=hcall _ _ _ _ _ _ ht
     have hc:=hc K (hK t (by simp))
     refine ⟨?_,fun t' ht'=>by simp only [List.mem_singleton] at ht'; rw [ht']; exact hn⟩
     unfold xop
     split
     · rename_i hD
       unfold aop
       rw [ho]
       rcases hc with hc | ⟨hc,_⟩
       · exact .inl hc
       · rw [hD] at hc; cases hc
     · rw [ho]
       rcases hc with hc | ⟨_,hc⟩
       · exact .inl hc
       · exact .inr (hc.imp id .inl)
   · cases h
 · rename_i x ho
   split at h
   · cases h
   · rename_i hD
     have:=nextC_ok h hK
     refine ⟨?_,this.2⟩
     unfold xop
     rw [if_neg hD,ho]
     exact this.1
 · rename_i h1 h2
   split at h
   · rename_i hp
     split at h
     · cases h
     · rename_i hdead
       injection h with h; subst h
       refine ⟨?_,fun t ht=>by simp only [List.mem_singleton] at ht; rw [ht,app_num]⟩
       have key : ∀ D',(D' = true → D = true) → aop P D' o K s.as:=fun D' hD'=>by
        unfold aop
        split
        · rename_i f args ts ho; exact (h1 f args ts ho).elim
        · rename_i x ho; exact (h2 x ho).elim
        · refine ⟨hp,fun hD hc=>?_,fun _=>?_⟩
          · have hD:=hD' hD
            cases e : ((rowAt s.rows (o.dst.getD 0)).c.isDead && o.dst.isSome) with
            | false=>exact (hdead (by simp only [hD,hc,e]; rfl)).elim
            | true =>
              simp only [Bool.and_eq_true] at e
              exact ⟨isDead_iff.2 e.1,e.2⟩
          · rw [← as_app]; exact hK _ (by simp)
       unfold xop
       split
       · rename_i hD; exact key true fun _=>hD
       · split
         · rename_i f args ts ho; exact (h1 f args ts ho).elim
         · rename_i x ho; exact (h2 x ho).elim
         · exact key false fun h=>by cases h
   · cases h
def runOps (P : Program) (call : Caller) (D : Bool) (ops : Array Oper) : List Oper → CS → Option (List CS)
 | [],s=>some [s]
 | o :: rest, s =>
   match o.guard with
   | none=>bindL (opC P call D o s) (runOps P call D ops rest)
   | some (g, want) =>
     match ((ops[g]?).bind (·.dst) : Option Nat) with
     | none=>runOps P call D ops rest (s.put o.dst (.r .ud))
     | some t =>
       match nth s.tm t with
       | .r (.bo b)=>if b == want then bindL (opC P call D o s) (runOps P call D ops rest) else runOps P call D ops rest (s.put o.dst (.r .ud))
       | .r .ud=>runOps P call D ops rest (s.put o.dst (.r .ud))
       | _=>none
theorem runOps_ok {P : Program} {call : Caller} (hcall : call.ok P) {D : Bool} {ops : Array Oper} {K : AS → Prop} : ∀ (l : List Oper) {s : CS} {L : List CS},runOps P call D ops l s = some L → (∀ t ∈ L,t.n = s.n → K t.as) → aops P D ops l K s.as
 | [], s, L, h, hK => by
   unfold runOps at h
   injection h with h; subst h
   exact hK s (by simp) rfl
 | o :: l, s, L, h, hK => by
   have go : ∀ {s1 : CS},s1.n = s.n → bindL (opC P call D o s1) (runOps P call D ops l) = some L → xop P D o (aops P D ops l K) s1.as:=fun hn h=>by
    obtain ⟨l1,h1,h2⟩:=bindL_spec h
    have hnum:=(opC_ok hcall h1 (K:=fun _=>True) fun _ _=>trivial).2
    refine (opC_ok hcall h1 fun t ht=>?_).1
    obtain ⟨ys,hys,hsub⟩:=h2 t ht
    exact runOps_ok hcall l hys fun t' ht' hn'=>hK t' (hsub t' ht') (by rw [hn',hnum t ht,hn])
   have sk : runOps P call D ops l (s.put o.dst (.r .ud)) = some L → aops P D ops l K (s.as.put o.dst (.r .ud)):=fun h=>by
    rw [← as_put]
    exact runOps_ok hcall l h fun t ht hn=>hK t ht (by rw [hn,put_num])
   unfold runOps at h
   unfold aops
   split at h
   · rename_i hg
     rw [hg]
     exact go rfl h
   · rename_i g want hg
     rw [hg]
     dsimp only
     split at h
     · rename_i ht; rw [ht]; exact sk h
     · rename_i t ht
       rw [ht]
       dsimp only
       split at h
       · rename_i b hb
         have hb' : s.as.tm t = .r (.bo b):=hb
         rw [hb']
         dsimp only
         split at h
         · rename_i e
           have e : b = want:=by simpa using e
           subst e
           refine ⟨fun _=>?_,fun e=>(by cases b <;> cases e)⟩
           rw [put_self hb']
           exact go rfl h
         · rename_i e
           have e : b = !want:=by cases b <;> cases want <;> simp_all
           subst e
           refine ⟨fun e=>(by cases want <;> cases e),fun _=>?_⟩
           rw [put_self hb']
           exact sk h
       · rename_i hb
         have hb' : s.as.tm t = .r .ud:=hb
         rw [hb']
         exact sk h
       · cases h
def codeOk (n : Nat) : Code → Bool
 | .region _ ops _=>dstOk ops n
 | .seq a b=>codeOk n a && codeOk n b
 | .cond _ a b=>codeOk n a && codeOk n b
 | .block _ c=>codeOk n c
 | .loop c=>codeOk n c
 | _=>true
structure Modes where
 fs : List (FuncId × Nat)
def modeOf : List (FuncId × Nat) → FuncId → Option Nat
 | [],_=>none
 | (g,m) :: l,f=>if f = g then some m else modeOf l f
def fnOk (P : Program) (f : FuncId) : Bool :=
 match P.funcs[f]? with
 | some fn => match fn.body with
   | some c=>codeOk fn.ntmps c && callable P f
   | none=>false
 | none=>false
def allOk (P : Program) : List (FuncId × Nat) → Bool
 | []=>true
 | (f,_) :: l=>fnOk P f && allOk P l
theorem allOk_get {P : Program} : ∀ {l : List (FuncId × Nat)} {f : FuncId} {m : Nat},allOk P l = true → modeOf l f = some m → fnOk P f = true
 | [],_,_,_,h=>by simp [modeOf] at h
 | (g, k) :: l, f, m, ha, h => by
   simp only [allOk,Bool.and_eq_true] at ha
   unfold modeOf at h
   split at h
   · rename_i e; subst e; exact ha.1
   · exact allOk_get ha.2 h
mutual
def snapB (rows : Nat → Row) : AV → Bool
 | .r _=>true
 | .os k n sz off m=>n == (rows k).ver && match (rows k).c with | .arr _ sz' es=>sz == sz' && decide (off + m ≤ es.length) | _=>false
 | .pt k n off=>n == (rows k).ver && match (rows k).c with | .box cs=>snap1B rows (cs.drop off) | _=>false
 | .pe k n sz idx _=>n == (rows k).ver && match (rows k).c with | .arr _ sz' es=>sz == sz' && decide (idx < es.length) | _=>false
 | .fn _ cs=>snapBL rows cs
 | .ag cs=>snapBL rows cs
 | .tu cs=>snapBL rows cs
 | .mp _ _=>false
 | .mi _ _=>false
 | .pu _ _ _=>false
def snapBL (rows : Nat → Row) : List AV → Bool
 | []=>true
 | x :: xs=>snapB rows x && snapBL rows xs
def snap1B (rows : Nat → Row) : List AV → Bool
 | []=>true
 | .os k n sz off m :: xs=>(n == (rows k).ver && match (rows k).c with | .arr _ sz' es=>sz == sz' && decide (off + m ≤ es.length) | _=>false) && snap1B rows xs
 | _ :: xs=>snap1B rows xs
end
end Go.Oc

namespace Go.Oc
open Go Go.RowKit
section
variable {rows : Nat → Row}
theorem osB {k n sz off m : Nat} (h : (n == (rows k).ver && match (rows k).c with | .arr _ sz' es=>sz == sz' && decide (off + m ≤ es.length) | _=>false) = true) :
 n = (rows k).ver ∧ match (rows k).c with | .arr _ sz' es=>sz = sz' ∧ off + m ≤ es.length | .arc _ sz' es _=>sz = sz' ∧ off + m ≤ es.length | _=>False:=by
 simp only [Bool.and_eq_true,beq_iff_eq] at h
 refine ⟨h.1,?_⟩
 have h:=h.2
 split at h
 · rename_i e; simp only [e]; simpa using h
 · cases h
theorem snap1B_ok : ∀ (xs : List AV),snap1B rows xs = true → snap1PL rows xs
 | [],_=>trivial
 | x :: xs, h => by
   cases x with
   | os k n sz off m =>
     simp only [snap1B,Bool.and_eq_true (_ && _)] at h
     exact ⟨osB h.1,snap1B_ok xs h.2⟩
   | _=>simp only [snap1B] at h; exact ⟨trivial,snap1B_ok xs h⟩
mutual
theorem snapB_ok : ∀ (x : AV),snapB rows x = true → snapP rows x
 | .r _,_=>by simp only [snapP]
 | .os k n sz off m,h=>by simp only [snapB] at h; simp only [snapP]; exact ⟨(osB h).1,osP (osB h).2⟩
 | .pt k n off, h => by
   simp only [snapB,Bool.and_eq_true,beq_iff_eq] at h
   simp only [snapP]
   refine ⟨h.1,?_⟩
   have h:=h.2
   generalize (rows k).c = c at h ⊢
   cases c <;> first | exact snap1B_ok _ h | cases h
 | .pe k n sz idx _, h => by
   simp only [snapB,Bool.and_eq_true,beq_iff_eq] at h
   simp only [snapP]
   refine ⟨h.1,?_⟩
   have h:=h.2
   generalize (rows k).c = c at h ⊢
   cases c <;> first | (simp only [Bool.and_eq_true,beq_iff_eq,decide_eq_true_eq] at h; exact h) | cases h
 | .fn _ cs,h=>by simp only [snapB] at h; simp only [snapP]; exact snapBL_ok cs h
 | .ag cs,h=>by simp only [snapB] at h; simp only [snapP]; exact snapBL_ok cs h
 | .tu cs,h=>by simp only [snapB] at h; simp only [snapP]; exact snapBL_ok cs h
 | .mp _ _,h=>by simp [snapB] at h
 | .mi _ _,h=>by simp [snapB] at h
 | .pu _ _ _,h=>by simp [snapB] at h
theorem snapBL_ok : ∀ (xs : List AV),snapBL rows xs = true → snapPL rows xs
 | [],_=>trivial
 | x :: xs, h => by
   simp only [snapBL,Bool.and_eq_true] at h
   exact ⟨snapB_ok x h.1,snapBL_ok xs h.2⟩
end
end
instance {P : Program} {s : AS} {v : ResultVar} : Decidable (resA P s v).pre:=match v with
 | .tmp _=>.isTrue trivial
 | .cell a t=>inferInstanceAs (Decidable (sLoad P s t (s.tm a)).pre)
def resList (P : Program) (s : AS) : List ResultVar → Option (List RV)
 | []=>some []
 | v :: vs =>
   if (resA P s v).pre then
    if snapB s.rows (resA P s v).y.av then
     match resList P s vs with
     | some rs=>some (snapV s.rows (resA P s v).y.av :: rs)
     | none=>none
    else none
   else none
theorem resList_ok {P : Program} {s : AS} : ∀ {vs : List ResultVar} {rs : List RV},resList P s vs = some rs → resOk P s vs rs
 | [],rs,h=>by injection h with h; exact h.symm
 | v :: vs, rs, h => by
   unfold resList at h
   split at h
   · rename_i hp
     split at h
     · rename_i hs
       split at h
       · rename_i rs' hr
         injection h with h; subst h
         exact ⟨hp,snapB_ok _ hs,_,rs',rfl,leL_refl.le_refl _,resList_ok hr⟩
       · cases h
     · cases h
   · cases h
abbrev Outs:=List (Exit × CS)
def endRs (P : Program) (res : List ResultVar) (x : Exit × CS) : Option (List RV) :=
 match x.1 with
 | .normal=>resList P x.2.as res
 | .ret=>resList P x.2.as res
 | _=>none
theorem endRs_ok {P : Program} {res : List ResultVar} {x : Exit × CS} {rs : List RV} (h : endRs P res x = some rs) : fpostL P res rs x.1 x.2.as:=by
 obtain ⟨e,t⟩:=x
 unfold endRs at h
 cases e <;> first | exact resList_ok h | cases h
def sameRs : List RV → List RV → Bool
 | [],[]=>true
 | .bo a :: l,.bo b :: l'=>(a == b) && sameRs l l'
 | .it .i64 a :: l,.it .i64 b :: l'=>(a == b) && sameRs l l'
 | _,_=>false
theorem sameRs_ok : ∀ {l l' : List RV},sameRs l l' = true → l = l':=fun {l l'} h=>by
 fun_induction sameRs l l' with
 | case1=>rfl
 | case2 a l b l' ih=>simp only [Bool.and_eq_true,beq_iff_eq] at h; rw [h.1,ih h.2]
 | case3 a l b l' ih=>simp only [Bool.and_eq_true,beq_iff_eq] at h; rw [h.1,ih h.2]
 | case4=>cases h
def agree (P : Program) (res : List ResultVar) : Outs → Option (List RV)
 | []=>none
 | [x]=>endRs P res x
 | x :: l => match endRs P res x, agree P res l with
   | some r,some r'=>if sameRs r r' then some r else none
   | _,_=>none
theorem agree_ok {P : Program} {res : List ResultVar} : ∀ {L : Outs} {rs : List RV},agree P res L = some rs → ∀ x ∈ L,fpostL P res rs x.1 x.2.as
 | [],_,h=>by simp [agree] at h
 | [x], rs, h => fun y hy => by
   simp only [List.mem_singleton] at hy
   subst hy
   exact endRs_ok (by simpa only [agree] using h)
 | x :: y :: l, rs, h => fun z hz => by
   simp only [agree] at h
   split at h
   · rename_i r r' h1 h2
     split at h
     · rename_i e
       injection h with h; subst h
       have e:=sameRs_ok e
       subst e
       rcases List.mem_cons.1 hz with rfl | hz
       · exact endRs_ok h1
       · exact agree_ok (L:=y :: l) h2 z hz
     · cases h
   · cases h
def isEnd : Exit → Bool
 | .normal=>true
 | .ret=>true
 | _=>false
def callA (P : Program) (ex : Code → CS → Option Outs) (fn : Func) (c : Code) (args : List RV) : Option RV :=
 if args.length ≤ fn.ntmps then
  match ex c ⟨fn.ntmps,args.map .r,[]⟩ with
  | some L => match agree P fn.results.toList L with
    | some rs=>some (resV rs)
    | none=>none
  | none=>none
 else none
def callO (P : Program) (ex : Code → CS → Option Outs) (fn : Func) (c : Code) (args : List RV) : Option (Nat × Nat × List (List RV) × Nat) :=
 if args.length ≤ fn.ntmps then
  match fn.results.toList,ex c ⟨fn.ntmps,args.map .r,[]⟩ with
  | [rv], some [(e, t)] =>
    if isEnd e then
    if (resA P t.as rv).pre then
     match (resA P t.as rv).y.av with
     | .os j n sz off m =>
       match rowAt t.rows j with
       | ⟨n',.arr ty sz' es⟩=>if n == n' && sz == sz' && off == 0 && es.all RV.flatL then some (ty,sz,es,m) else none
       | _=>none
     | _=>none
    else none
    else none
  | _,_=>none
 else none
mutual
def keysA : AV → List Nat
 | .pt k _ _=>[k]
 | .pe k _ _ _ _=>[k]
 | .os k _ _ _ _=>[k]
 | .mp k _=>[k]
 | .fn _ cs=>keysL cs
 | .ag cs=>keysL cs
 | .tu cs=>keysL cs
 | _=>[]
def keysL : List AV → List Nat
 | []=>[]
 | x :: xs=>keysA x ++ keysL xs
end
def keysB (rows : Nat → Row) : List Nat → List Nat
 | []=>[]
 | k :: ks=>k :: ((match (rows k).c with | .box cs=>keysL cs | _=>[]) ++ keysB rows ks)
def mkRho : List Nat → Nat → List (Nat × Nat)
 | [],_=>[]
 | k :: ks,i=>if (k :: ks).length > 1 && ks.contains k then mkRho ks i else (i,k) :: mkRho ks (i + 1)
def lendRows (ρ : List (Nat × Nat)) (s : AS) : List (Nat × Nat) → Option (List (Nat × RowC))
 | []=>some []
 | (pk, ck) :: l => match lendC ρ s.ver (s.rows ck).c, lendRows ρ s l with
   | some c,some L=>some ((pk,c) :: L)
   | _,_=>none
theorem lendRows_ok {ρ : List (Nat × Nat)} {s : AS} : ∀ {l : List (Nat × Nat)} {L : List (Nat × RowC)},lendRows ρ s l = some L → lendOk ρ s l L
 | [],L,h=>by injection h with h; subst h; trivial
 | (pk, ck) :: l, L, h => by
   unfold lendRows at h
   split at h
   · rename_i c L' h1 h2
     injection h with h; subst h
     exact ⟨rfl,h1,lendRows_ok h2⟩
   · cases h
def frzB (ks : List (Nat × RowC)) (rows : Nat → Row) : AV → Bool
 | .os j n sz off m=>if keyIn ks j then true else (decide (j < 1000) && snapB rows (.os j n sz off m))
 | _=>true
theorem frzB_ok {ks : List (Nat × RowC)} {rows : Nat → Row} {x : AV} (h : frzB ks rows x = true) : frzP1 ks rows x:=by
 cases x with
 | os j n sz off m =>
   simp only [frzB] at h
   simp only [frzP1]
   split at h
   · rename_i e; rw [if_pos e]; trivial
   · rename_i e
     rw [if_neg e]
     simp only [Bool.and_eq_true,decide_eq_true_eq] at h
     refine ⟨h.1,?_⟩
     have h2:=h.2
     simp only [snapB] at h2
     have h3:=osB h2
     refine ⟨h3.1,?_⟩
     have h4:=h3.2
     generalize (rows j).c = c at h4 ⊢
     cases c <;> exact h4
 | _=>simp only [frzP1]
def frzBL (ks : List (Nat × RowC)) (rows : Nat → Row) : List AV → Bool
 | []=>true
 | x :: xs=>frzB ks rows x && frzBL ks rows xs
theorem frzBL_ok {ks : List (Nat × RowC)} {rows : Nat → Row} : ∀ {xs : List AV},frzBL ks rows xs = true → frzPL ks rows xs
 | [],_=>trivial
 | x :: xs, h => by
   simp only [frzBL,Bool.and_eq_true] at h
   exact ⟨frzB_ok h.1,frzBL_ok h.2⟩
def frzBC (ks : List (Nat × RowC)) (rows : Nat → Row) : RowC → Bool
 | .box cs=>frzBL ks rows cs
 | _=>true
theorem frzBC_ok {ks : List (Nat × RowC)} {rows : Nat → Row} {c : RowC} (h : frzBC ks rows c = true) : frzPC ks rows c:=by
 cases c <;> first | exact frzBL_ok h | trivial
def finM (ks : List (Nat × RowC)) (rows : Nat → Row) : List (Nat × RowC) → Option (List (Nat × RowC))
 | []=>some []
 | (k,_) :: L=>if okC (rows k).c && frzBC ks rows (rows k).c then match finM ks rows L with | some L'=>some ((k,frzC ks rows (rows k).c) :: L') | none=>none else none
theorem finM_ok {ks : List (Nat × RowC)} {rows : Nat → Row} : ∀ {L L' : List (Nat × RowC)},finM ks rows L = some L' → mfin ks rows L L'
 | [],L',h=>by injection h with h; subst h; trivial
 | (k, c) :: L, L', h => by
   unfold finM at h
   split at h
   · rename_i hc
     simp only [Bool.and_eq_true] at hc
     split at h
     · rename_i L'' h2
       injection h with h; subst h
       exact ⟨rfl,hc.1,frzBC_ok hc.2,rfl,finM_ok h2⟩
     · cases h
   · cases h
def resListM (P : Program) (ks : List (Nat × RowC)) (s : AS) : List ResultVar → Option (List AV)
 | []=>some []
 | v :: vs =>
   if (resA P s v).pre then
    if frzB ks s.rows (resA P s v).y.av then
     match resListM P ks s vs with
     | some rs=>some (frz1 ks s.rows (resA P s v).y.av :: rs)
     | none=>none
    else none
   else none
theorem resListM_ok {P : Program} {ks : List (Nat × RowC)} {s : AS} : ∀ {vs : List ResultVar} {rs : List AV},resListM P ks s vs = some rs → resM P ks s vs rs
 | [],rs,h=>by injection h with h; exact h.symm
 | v :: vs, rs, h => by
   unfold resListM at h
   split at h
   · rename_i hp
     split at h
     · rename_i hs
       split at h
       · rename_i rs' hr
         injection h with h; subst h
         exact ⟨hp,frzB_ok hs,rs',rfl,resListM_ok hr⟩
       · cases h
     · cases h
   · cases h
def rowsOf : List (Nat × RowC) → List (Nat × Row)
 | []=>[]
 | (k,c) :: L=>(k,⟨0,c⟩) :: rowsOf L
def callM (P : Program) (ex : Code → CS → Option Outs) (fn : Func) (c : Code) (L : List (Nat × RowC)) (args : List AV) : Option (List (Nat × RowC) × AV) :=
 if args.length ≤ fn.ntmps && pinned L then
  match ex c ⟨fn.ntmps,args,rowsOf L⟩ with
  | some [(e, t)] =>
    if isEnd e then
     match finM L t.as.rows L,resListM P L t.as fn.results.toList with
     | some L',some rs=>some (L',resMV rs)
     | _,_=>none
    else none
  | _=>none
 else none
def putRows (s : CS) (L' : List (Nat × RowC)) (ver : Nat → Nat) (ρ : List (Nat × Nat)) : List (Nat × Nat) → CS
 | []=>s
 | (pk,ck) :: l=>putRows (s.row ck ⟨ver ck,backC ρ ver (lookc L' pk)⟩) L' ver ρ l
def callC (P : Program) (fs : List (FuncId × Nat)) (ex : Code → CS → Option Outs) : Caller:=fun D s d f xs =>
 match callee? f with
 | none=>none
 | some (F, cs) =>
   match modeOf fs F,P.funcs[F]? with
   | some m, some fn =>
     match fn.body with
     | none=>none
     | some c =>
       if m == 1 && !D then
        match d with
        | some dd =>
          if snapBL s.as.rows (xs ++ cs) && decide (dd < 1000) then
           match callO P ex fn c (snapVL s.as.rows (xs ++ cs)) with
           | some (t,sz,es,m)=>some ((s.row dd ⟨(s.as.rows dd).ver + 1,.arr t sz es⟩).put d (.os dd ((s.as.rows dd).ver + 1) sz 0 m))
           | none=>none
          else none
        | none=>none
       else if m == 2 && !D then
        let ρ:=mkRho (keysB s.as.rows (keysL (xs ++ cs))) 1000
        match lendL ρ s.as.ver (xs ++ cs),lendRows ρ s.as ρ with
        | some args, some L =>
          match callM P ex fn c L args with
          | some (L',r)=>if apart ρ && sameKeys ρ L' then some ((putRows s L' s.as.ver ρ ρ).put d (backA ρ s.as.ver r)) else none
          | none=>none
        | _,_=>none
       else if snapBL s.as.rows (xs ++ cs) then
        match callA P ex fn c (snapVL s.as.rows (xs ++ cs)) with
        | some r=>if r.flatB || AV.pureL (xs ++ cs) then some (s.put d (.r r)) else none
        | none=>none
       else none
   | _,_=>none
mutual
def RV.dl : RV → RV → Bool
 | .ns,.sl _ []=>true
 | .sl s es,.sl t fs=>s == t && RV.dlE es fs
 | .ag xs,.ag ys=>RV.dlL xs ys
 | .rp xs,.rp ys=>RV.dlL xs ys
 | .fn f xs,.fn g ys=>f == g && RV.dlL xs ys
 | .it .i64 n,.it .i64 m=>n == m
 | .bo a,.bo b=>a == b
 | .ns,.ns=>true
 | .np,.np=>true
 | .nf,.nf=>true
 | _,_=>false
def RV.dlL : List RV → List RV → Bool
 | [],[]=>true
 | x :: xs,y :: ys=>RV.dl x y && RV.dlL xs ys
 | _,_=>false
def RV.dlE : List (List RV) → List (List RV) → Bool
 | [],[]=>true
 | x :: xs,y :: ys=>RV.dlL x y && RV.dlE xs ys
 | _,_=>false
end
theorem dlL_len : ∀ {xs ys : List RV},RV.dlL xs ys = true → xs.length = ys.length
 | [],[],_=>rfl
 | x :: xs, y :: ys, h => by
   simp only [RV.dlL,Bool.and_eq_true] at h
   simp [dlL_len h.2]
 | [],_ :: _,h=>by simp [RV.dlL] at h
 | _ :: _,[],h=>by simp [RV.dlL] at h
theorem dlE_len : ∀ {xs ys : List (List RV)},RV.dlE xs ys = true → xs.length = ys.length
 | [],[],_=>rfl
 | x :: xs, y :: ys, h => by
   simp only [RV.dlE,Bool.and_eq_true] at h
   simp [dlE_len h.2]
 | [],_ :: _,h=>by simp [RV.dlE] at h
 | _ :: _,[],h=>by simp [RV.dlE] at h
section
variable {w : World} {R : Nat → Prop}
mutual
theorem dl_rel : ∀ (x y : RV) (v : Value),RV.dl x y = true → x.rel w R v → y.rel w R v
 | .ns, .sl sz [], v, _, h => by
   simp only [RV.rel] at h ⊢
   obtain ⟨A,rfl⟩:=h
   exact ⟨A,0,rfl,Nat.le_refl _,Nat.zero_le _,fun h=>absurd rfl h⟩
 | .sl s es, .sl t fs, v, hd, h => by
   simp only [RV.dl,Bool.and_eq_true,beq_iff_eq] at hd
   obtain ⟨rfl,hd⟩:=hd
   have hl:=dlE_len hd
   simp only [RV.rel] at h ⊢
   obtain ⟨A,c,hv,h1,h2,h3⟩:=h
   refine ⟨A,c,by rw [← hl]; exact hv,by rw [← hl]; exact h1,h2,fun hne=>?_⟩
   obtain ⟨ad,e,hr,hc⟩:=h3 (fun e=>hne (by rw [e] at hl; exact List.eq_nil_of_length_eq_zero hl.symm))
   exact ⟨ad,e,hr,dl_relE s es fs ad 0 hd hc⟩
 | .ag xs, .ag ys, v, hd, h => by
   simp only [RV.dl] at hd
   simp only [RV.rel] at h ⊢
   obtain ⟨vs,e,h1,hV⟩:=h
   exact ⟨vs,e,h1,dl_relV xs ys _ hd hV⟩
 | .rp xs, .rp ys, v, hd, h => by
   simp only [RV.dl] at hd
   simp only [RV.rel] at h ⊢
   obtain ⟨ad,e,hR,hC⟩:=h
   exact ⟨ad,e,hR,dl_relC xs ys _ _ hd hC⟩
 | .fn f xs, .fn g ys, v, hd, h => by
   simp only [RV.dl,Bool.and_eq_true,beq_iff_eq] at hd
   simp only [RV.rel] at h ⊢
   obtain ⟨vs,e,hV⟩:=h
   exact ⟨vs,by rw [← hd.1]; exact e,dl_relV xs ys _ hd.2 hV⟩
 | .it .i64 n, .it .i64 m, v, hd, h => by
   simp only [RV.dl,beq_iff_eq] at hd
   subst hd; exact h
 | .bo a, .bo b, v, hd, h => by
   simp only [RV.dl,beq_iff_eq] at hd
   subst hd; exact h
 | .ns,.ns,_,_,h=>h
 | .np,.np,_,_,h=>h
 | .nf,.nf,_,_,h=>h
theorem dl_relV : ∀ (xs ys : List RV) (vs : List Value),RV.dlL xs ys = true → RV.relV w R xs vs → RV.relV w R ys vs
 | [],[],_,_,h=>h
 | x :: xs, y :: ys, vs, hle, h => by
   simp only [RV.dlL,Bool.and_eq_true] at hle
   simp only [RV.relV] at h ⊢
   obtain ⟨u,us,e,h1,h2⟩:=h
   exact ⟨u,us,e,dl_rel x y u hle.1 h1,dl_relV xs ys us hle.2 h2⟩
 | [],_ :: _,_,hle,_=>by simp [RV.dlL] at hle
 | _ :: _,[],_,hle,_=>by simp [RV.dlL] at hle
theorem dl_relC : ∀ (xs ys : List RV) (ad : Addr) (j : Nat),RV.dlL xs ys = true → RV.relC w R xs ad j → RV.relC w R ys ad j
 | [],[],_,_,_,h=>h
 | x :: xs, y :: ys, ad, j, hle, h => by
   simp only [RV.dlL,Bool.and_eq_true] at hle
   simp only [RV.relC] at h ⊢
   obtain ⟨⟨u,hu,ho,h1⟩,h2⟩:=h
   exact ⟨⟨u,hu,ho,dl_rel x y u hle.1 h1⟩,dl_relC xs ys ad (j + 1) hle.2 h2⟩
 | [],_ :: _,_,_,hle,_=>by simp [RV.dlL] at hle
 | _ :: _,[],_,_,hle,_=>by simp [RV.dlL] at hle
theorem dl_relE : ∀ (sz : Nat) (xs ys : List (List RV)) (ad : Addr) (j : Nat),RV.dlE xs ys = true → RV.relE w R sz xs ad j → RV.relE w R sz ys ad j
 | _,[],[],_,_,_,h=>h
 | sz, x :: xs, y :: ys, ad, j, hle, h => by
   simp only [RV.dlE,Bool.and_eq_true] at hle
   simp only [RV.relE] at h ⊢
   exact ⟨by rw [← dlL_len hle.1]; exact h.1,dl_relC x y ad j hle.1 h.2.1,dl_relE sz xs ys ad (j + sz) hle.2 h.2.2⟩
 | _,[],_ :: _,_,_,hle,_=>by simp [RV.dlE] at hle
 | _,_ :: _,[],_,_,hle,_=>by simp [RV.dlE] at hle
end
end
theorem acalls_dl {P : Program} {f : FuncId} {xs ys : List RV} {r : RV} (h : ACalls P f ys r) (hd : RV.dlL xs ys = true) : ACalls P f xs r :=
 ⟨h.1,fun w R vs hR hv=>h.2 w R vs hR (dl_relV xs ys _ hd hv)⟩
abbrev Orc:=List (FuncId × List RV × RV)
def orcGet : Orc → FuncId → List RV → Option RV
 | [],_,_=>none
 | (g,ys,r) :: l,f,xs=>if f == g && RV.dlL xs ys then some r else orcGet l f xs
def orcOk (P : Program) : Orc → Prop
 | []=>True
 | (g,ys,r) :: l=>ACalls P g ys r ∧ orcOk P l
theorem orcGet_ok {P : Program} : ∀ {l : Orc} {f : FuncId} {xs : List RV} {r : RV},orcOk P l → orcGet l f xs = some r → ACalls P f xs r
 | [],_,_,_,_,h=>by simp [orcGet] at h
 | (g, ys, r') :: l, f, xs, r, ho, h => by
   unfold orcGet at h
   split at h
   · rename_i hc
     simp only [Bool.and_eq_true,beq_iff_eq] at hc
     injection h with h; subst h
     rw [hc.1]
     exact acalls_dl ho.1 hc.2
   · exact orcGet_ok ho.2 h
def callR (orc : Orc) : Caller:=fun _ s d f xs =>
 match callee? f with
 | none=>none
 | some (F, cs) =>
   if snapBL s.as.rows (xs ++ cs) then
    match orcGet orc F (snapVL s.as.rows (xs ++ cs)) with
    | some r=>if r.flatB || AV.pureL (xs ++ cs) then some (s.put d (.r r)) else none
    | none=>none
   else none
def callX (P : Program) (fs : List (FuncId × Nat)) (orc : Orc) (ex : Code → CS → Option Outs) : Caller:=fun D s d f xs =>
 match callC P fs ex D s d f xs with
 | some t=>some t
 | none=>callR orc D s d f xs
def norm : List CS → Outs
 | []=>[]
 | t :: l=>(.normal,t) :: norm l
def leave (id : Nat) : Exit → Exit
 | .exit id'=>if id' = id then .normal else .exit id'
 | e=>e
def blk (id : Nat) : Outs → Outs
 | []=>[]
 | (e,t) :: l=>(leave id e,t) :: blk id l
def killOps : List Oper → CS → CS
 | [],s=>s
 | o :: l,s=>if cls o == 2 && decide (o.dst.getD 0 < 1000) then killOps l (s.row (o.dst.getD 0) ⟨(rowAt s.rows (o.dst.getD 0)).ver + 1,.dead⟩) else killOps l s
def killD (D : Bool) (l : List Oper) (s : CS) : CS:=match D with | true=>killOps l s | false=>s
def slots : List Operand → List Nat
 | []=>[]
 | .tmp t :: l=>t :: slots l
 | _ :: l=>slots l
def kappa (ops : Array Oper) (s : CS) : List Oper → List (Nat × Option Nat)
 | []=>[]
 | o :: l=>(slots o.op.operands.toList).map (fun t=>(t,keyOf (nth s.tm t))) ++ kappa ops s l
def drawOk (D : Bool) (ops : Array Oper) (s : CS) : Bool:=!D || lexOk ops || lexOk2 ops (kappa ops s ops.toList)
def exec (P : Program) (fs : List (FuncId × Nat)) (orc : Orc) : Nat → Code → CS → Option Outs
 | 0,_,_=>none
 | k + 1,.region _ ops D,s=>if drawOk D ops (killD D ops.toList s) then match runOps P (callX P fs orc (exec P fs orc k)) D ops ops.toList (killD D ops.toList s) with | some L=>some (norm L) | none=>none else none
 | k + 1,.seq a b,s=>bindL (exec P fs orc k a s) fun x=>match x.1 with | .normal=>exec P fs orc k b x.2 | e=>some [(e,x.2)]
 | k + 1,.loop c,s=>bindL (exec P fs orc k c s) fun x=>match x.1 with | .normal=>exec P fs orc k (.loop c) x.2 | e=>some [(e,x.2)]
 | k + 1,.cond c a b,s=>match s.as.ev c with | .r (.bo t)=>bif t then exec P fs orc k a s else exec P fs orc k b s | _=>none
 | k + 1,.block id c,s=>match exec P fs orc k c s with | some L=>some (blk id L) | none=>none
 | _ + 1,.skip,s=>some [(.normal,s)]
 | _ + 1,.label _,s=>some [(.normal,s)]
 | _ + 1,.exit id,s=>some [(.exit id,s)]
 | _ + 1,.ret,s=>some [(.ret,s)]
 | _ + 1,_,_=>none
def evalX (P : Program) (fs : List (FuncId × Nat)) (orc : Orc) (k : Nat) (F : FuncId) (args : List RV) : Option RV :=
 match P.funcs[F]? with
 | some fn => match fn.body with
   | some c=>callA P (exec P fs orc k) fn c args
   | none=>none
 | none=>none
def evalA (P : Program) (fs : List (FuncId × Nat)) (k : Nat) (F : FuncId) (args : List RV) : Option RV:=evalX P fs [] k F args
end Go.Oc

namespace Go.Oc
open Go Go.RowKit
section
variable {P : Program}
theorem norm_mem : ∀ {L : List CS} {t : CS},t ∈ L → (Exit.normal,t) ∈ norm L
 | [],_,h=>by simp at h
 | x :: l, t, h => by
   rcases List.mem_cons.1 h with rfl | h
   · simp [norm]
   · simp [norm,norm_mem h]
theorem blk_mem {id : Nat} : ∀ {L : Outs} {e : Exit} {t : CS},(e,t) ∈ L → (leave id e,t) ∈ blk id L
 | [],_,_,h=>by simp at h
 | (e', t') :: l, e, t, h => by
   rcases List.mem_cons.1 h with h | h
   · injection h with h1 h2; subst h1 h2; simp [blk]
   · simp [blk,blk_mem h]
theorem nth_look : ∀ (xs : List AV) (k t : Nat),look (argA k xs) (k + t) = nth xs t
 | [],_,_=>by simp [argA,look_nil,nth]
 | x :: xs,k,0=>by simp [argA,look_cons,nth]
 | x :: xs, k, t + 1 => by
   have:=nth_look xs (k + 1) t
   rw [show k + 1 + t = k + (t + 1) from by omega] at this
   simp only [argA,look_cons,nth,this]
   rw [if_neg (by omega)]
theorem argL_A : ∀ (xs : List RV) (k : Nat),argL k xs = argA k (xs.map .r)
 | [],_=>rfl
 | x :: xs,k=>by simp only [argL,argA,List.map_cons,argL_A xs]
theorem rowsOf_at : ∀ (L : List (Nat × RowC)) (k : Nat),rowAt (rowsOf L) k = ⟨0,lookc L k⟩
 | [],_=>rfl
 | (j, c) :: L, k => by
   simp only [rowsOf,rowAt,lookc_cons,rowsOf_at L k]
   split <;> rfl
theorem start_as {n : Nat} {xs : List AV} {L : List (Nat × RowC)} : (CS.mk n xs (rowsOf L)).as = st n (argA 0 xs) (fun _=>0) L:=by
 simp only [CS.as,st,AS.mk.injEq,true_and]
 refine ⟨?_,funext fun k=>rowsOf_at L k⟩
 funext t
 have:=nth_look xs 0 t
 rw [Nat.zero_add] at this
 exact this.symm
theorem start_as0 {n : Nat} {xs : List RV} : (CS.mk n (xs.map .r) []).as = st n (argL 0 xs) (fun _=>0) []:=by
 rw [argL_A]
 exact start_as (L:=[])
theorem as_putRows {L' : List (Nat × RowC)} {ver : Nat → Nat} {ρ : List (Nat × Nat)} : ∀ (l : List (Nat × Nat)) (s : CS),(putRows s L' ver ρ l).as = { s.as with rows:=backRows ρ ver L' l s.as.rows }
 | [],s=>rfl
 | (pk, ck) :: l, s => by
   simp only [putRows,as_putRows l,as_row,backRows]
   rfl
theorem putRows_num {L' : List (Nat × RowC)} {ver : Nat → Nat} {ρ : List (Nat × Nat)} : ∀ (l : List (Nat × Nat)) (s : CS),(putRows s L' ver ρ l).n = s.n
 | [],s=>rfl
 | (pk,ck) :: l,s=>by simp only [putRows,putRows_num l]; rfl
theorem killOps_sub : ∀ (l : List Oper) (s : CS),Sub s.as (killOps l s).as ∧ (killOps l s).n = s.n
 | [],s=>⟨Sub.refl _,rfl⟩
 | o :: l, s => by
   unfold killOps
   split
   · rename_i h
     simp only [Bool.and_eq_true,decide_eq_true_eq] at h
     obtain ⟨h1,h2⟩:=killOps_sub l (s.row (o.dst.getD 0) ⟨(rowAt s.rows (o.dst.getD 0)).ver + 1,.dead⟩)
     refine ⟨Sub.trans ?_ h1,h2⟩
     rw [as_row]
     exact sub_kill s.as (o.dst.getD 0) h.2
   · exact killOps_sub l s
theorem killD_sub (D : Bool) (l : List Oper) (s : CS) : Sub s.as (killD D l s).as ∧ (killD D l s).n = s.n:=by
 cases D with
 | true=>exact killOps_sub l s
 | false=>exact ⟨Sub.refl _,rfl⟩
def Good (P : Program) (ex : Code → CS → Option Outs) : Prop:=∀ c t L,codeOk t.n c = true → ex c t = some L → (∀ x ∈ L,x.2.n = t.n) ∧ ∀ C Q,(∀ x ∈ L,Q x.1 x.2.as) → awp P C c Q t.as
theorem callA_ok {ex : Code → CS → Option Outs} (hex : Good P ex) {F : FuncId} {fn : Func} {c : Code} {args : List RV} {r : RV} (hF : P.funcs[F]? = some fn) (hb : fn.body = some c) (hok : fnOk P F = true) (h : callA P ex fn c args = some r) : ACalls P F args r:=by
 unfold fnOk at hok
 simp only [hF,hb,Bool.and_eq_true] at hok
 unfold callA at h
 split at h
 · rename_i hlen
   split at h
   · rename_i L hL
     split at h
     · rename_i rs hrs
       injection h with h
       have hag:=agree_ok hrs
       refine acalls_of hF hb hok.2 rfl hlen h fun C=>zw (sub_look (argL 0 args) fun p hp=>?_) ?_
       · obtain ⟨i,x,rfl,e⟩:=argL_mem p hp
         simp only [argTm,Nat.zero_add,e]
       · have:=((hex c _ L hok.1 hL).2 C (fpost P fn rs) fun x hx=>?_)
         · rw [start_as0] at this
           exact this
         · have:=hag x hx
           obtain ⟨e,t⟩:=x
           cases e <;> exact this
     · cases h
   · cases h
 · cases h
theorem callO_ok {ex : Code → CS → Option Outs} (hex : Good P ex) {F : FuncId} {fn : Func} {c : Code} {args : List RV} {ty sz m : Nat} {es : List (List RV)} (hF : P.funcs[F]? = some fn) (hb : fn.body = some c) (hok : fnOk P F = true)
 (h : callO P ex fn c args = some (ty,sz,es,m)) : OCalls P F args ty sz es m:=by
 unfold fnOk at hok
 simp only [hF,hb,Bool.and_eq_true] at hok
 unfold callO at h
 split at h
 · rename_i hlen
   split at h
   · rename_i rv e t hres hL
     split at h
     · rename_i he
       split at h
       · rename_i hp
         split at h
         · rename_i j n sz1 off m1 hav
           split at h
           · rename_i n' ty1 sz' es1 hrow
             split at h
             · rename_i hc
               simp only [Bool.and_eq_true,beq_iff_eq,List.all_eq_true] at hc
               obtain ⟨⟨⟨h1,h2⟩,h3⟩,h4⟩:=hc
               subst h1 h2 h3
               injection h with h
               simp only [Prod.mk.injEq] at h
               obtain ⟨rfl,rfl,rfl,rfl⟩:=h
               refine ocalls_0 rv hF hb hok.2 rfl hres hlen h4 fun C=>?_
               have:=((hex c _ _ hok.1 hL).2 C (opostL P rv ty1 sz1 es1 m1) fun x hx=>?_)
               · rw [start_as0] at this
                 exact this
               · simp only [List.mem_singleton] at hx
                 subst hx
                 have key : resC (resA P t.as rv) fun v=>∃ j n,v = .os j n sz1 0 m1 ∧ t.as.rows j = ⟨n,.arr ty1 sz1 es1⟩:=⟨hp,j,n,hav,hrow⟩
                 cases e <;> first | exact key | cases he
             · cases h
           · cases h
         · cases h
       · cases h
     · cases h
   · cases h
 · cases h
theorem callM_ok {ex : Code → CS → Option Outs} (hex : Good P ex) {F : FuncId} {fn : Func} {c : Code} {L L' : List (Nat × RowC)} {args : List AV} {r : AV} (hF : P.funcs[F]? = some fn) (hb : fn.body = some c) (hok : fnOk P F = true)
 (h : callM P ex fn c L args = some (L',r)) : MCalls P F L L' args r:=by
 unfold fnOk at hok
 simp only [hF,hb,Bool.and_eq_true] at hok
 unfold callM at h
 split at h
 · rename_i hlen
   simp only [Bool.and_eq_true,decide_eq_true_eq] at hlen
   split at h
   · rename_i e t hL
     split at h
     · rename_i he
       split at h
       · rename_i L1 rs hfin hres
         injection h with h
         simp only [Prod.mk.injEq] at h
         obtain ⟨rfl,rfl⟩:=h
         refine mcalls_st (rs:=rs) L L1 fn.results.toList hF hb hok.2 rfl rfl hlen.1 rfl hlen.2 fun C=>?_
         have:=((hex c _ _ hok.1 hL).2 C (mpostL P fn.results.toList rs L L1) fun x hx=>?_)
         · rw [start_as] at this
           exact this
         · simp only [List.mem_singleton] at hx
           subst hx
           have key : resM P L t.as fn.results.toList rs ∧ mfin L t.as.rows L L1:=⟨resListM_ok hres,finM_ok hfin⟩
           cases e <;> first | exact key | cases he
       · cases h
     · cases h
   · cases h
 · cases h
theorem callC_ok {fs : List (FuncId × Nat)} (hfs : allOk P fs = true) {ex : Code → CS → Option Outs} (hex : Good P ex) : (callC P fs ex).ok P:=fun D s d f xs t h=>by
 unfold callC at h
 split at h
 · cases h
 · rename_i F cs hcal
   split at h
   · rename_i m fn hm hF
     have hok:=allOk_get hfs hm
     split at h
     · cases h
     · rename_i c hb
       split at h
       · rename_i hmode
         simp only [Bool.and_eq_true,beq_iff_eq,Bool.not_eq_true'] at hmode
         split at h
         · rename_i dd
           split at h
           · rename_i hsn
             simp only [Bool.and_eq_true,decide_eq_true_eq] at hsn
             split at h
             · rename_i ty sz es m' hO
               injection h with h; subst h
               refine ⟨put_num _ _ _,fun K hK=>.inr ⟨hmode.2,.inr ⟨F,cs,_,ty,sz,es,m',dd,hcal,snapBL_ok _ hsn.1,leL_refl _,callO_ok hex hF hb hok hO,rfl,hsn.2,?_⟩⟩⟩
               rw [as_put,as_row] at hK
               exact hK
             · cases h
           · cases h
         · cases h
       · split at h
         · rename_i hmode
           simp only [Bool.and_eq_true,beq_iff_eq,Bool.not_eq_true'] at hmode
           dsimp only at h
           split at h
           · rename_i args L hargs hL
             split at h
             · rename_i L' r hM
               split at h
               · rename_i hap
                 simp only [Bool.and_eq_true] at hap
                 injection h with h; subst h
                 refine ⟨(put_num _ _ _).trans (putRows_num _ _),fun K hK=>.inr ⟨hmode.2,.inl ⟨F,cs,_,L,L',args,r,hcal,hargs,lendRows_ok hL,hap.1,hap.2,callM_ok hex hF hb hok hM,?_⟩⟩⟩
                 rw [as_put,as_putRows] at hK
                 exact hK
               · cases h
             · cases h
           · cases h
         · split at h
           · rename_i hsn
             split at h
             · rename_i r hA
               split at h
               · rename_i hfl
                 simp only [Bool.or_eq_true] at hfl
                 injection h with h; subst h
                 refine ⟨put_num _ _ _,fun K hK=>.inl ⟨r,.inl ⟨F,cs,_,hcal,snapBL_ok _ hsn,leL_refl _,callA_ok hex hF hb hok hA,hfl⟩,?_⟩⟩
                 rw [as_put] at hK
                 exact hK
               · cases h
             · cases h
           · cases h
   · cases h
theorem callR_ok {orc : Orc} (ho : orcOk P orc) : (callR orc).ok P:=fun D s d f xs t h=>by
 unfold callR at h
 split at h
 · cases h
 · rename_i F cs hcal
   split at h
   · rename_i hsn
     split at h
     · rename_i r hA
       split at h
       · rename_i hfl
         simp only [Bool.or_eq_true] at hfl
         injection h with h; subst h
         refine ⟨put_num _ _ _,fun K hK=>.inl ⟨r,.inl ⟨F,cs,_,hcal,snapBL_ok _ hsn,leL_refl _,orcGet_ok ho hA,hfl⟩,?_⟩⟩
         rw [as_put] at hK
         exact hK
       · cases h
     · cases h
   · cases h
theorem callX_ok {fs : List (FuncId × Nat)} (hfs : allOk P fs = true) {orc : Orc} (ho : orcOk P orc) {ex : Code → CS → Option Outs} (hex : Good P ex) : (callX P fs orc ex).ok P:=fun D s d f xs t h=>by
 unfold callX at h
 split at h
 · rename_i t' e
   injection h with h; subst h
   exact callC_ok hfs hex D s d f xs _ e
 · exact callR_ok ho D s d f xs t h
theorem bindL_mem {α β : Type} {x : Option (List α)} {f : α → Option (List β)} {zs : List β} (h : bindL x f = some zs) {z : β} (hz : z ∈ zs) : ∃ l,x = some l ∧ ∃ a ∈ l,∃ ys,f a = some ys ∧ z ∈ ys:=by
 unfold bindL at h
 split at h
 · cases h
 · rename_i l
   refine ⟨l,rfl,?_⟩
   induction l generalizing zs with
   | nil=>injection h with h; subst h; simp at hz
   | cons b l ih =>
     unfold bindL.go at h
     split at h
     · cases h
     · rename_i ys hys
       split at h
       · cases h
       · rename_i ws hws
         injection h with h; subst h
         rcases List.mem_append.1 hz with hz | hz
         · exact ⟨b,by simp,ys,hys,hz⟩
         · obtain ⟨a,ha,y2,h1,h2⟩:=ih hz hws
           exact ⟨a,by simp [ha],y2,h1,h2⟩
theorem runOps_num {call : Caller} (hcall : call.ok P) {D : Bool} {ops : Array Oper} : ∀ (l : List Oper) {s : CS} {L : List CS},runOps P call D ops l s = some L → ∀ t ∈ L,t.n = s.n
 | [], s, L, h => by
   unfold runOps at h
   injection h with h; subst h
   intro t ht
   simp only [List.mem_singleton] at ht; rw [ht]
 | o :: l, s, L, h => by
   have go : bindL (opC P call D o s) (runOps P call D ops l) = some L → ∀ t ∈ L,t.n = s.n:=fun h t ht=>by
    obtain ⟨l1,h1,a,ha,ys,h2,h3⟩:=bindL_mem h ht
    rw [runOps_num hcall l h2 t h3,(opC_ok hcall h1 (K:=fun _=>True) fun _ _=>trivial).2 a ha]
   have sk : runOps P call D ops l (s.put o.dst (.r .ud)) = some L → ∀ t ∈ L,t.n = s.n:=fun h t ht=>by
    rw [runOps_num hcall l h t ht,put_num]
   unfold runOps at h
   split at h
   · exact go h
   · split at h
     · exact sk h
     · split at h
       · split at h
         · exact go h
         · exact sk h
       · exact sk h
       · cases h
theorem norm_mem' : ∀ {L : List CS} {x : Exit × CS},x ∈ norm L → x.1 = .normal ∧ x.2 ∈ L
 | [],_,h=>by simp [norm] at h
 | t :: l, x, h => by
   simp only [norm,List.mem_cons] at h
   rcases h with rfl | h
   · exact ⟨rfl,by simp⟩
   · have:=norm_mem' h
     exact ⟨this.1,by simp [this.2]⟩
theorem blk_mem' {id : Nat} : ∀ {L : Outs} {x : Exit × CS},x ∈ blk id L → ∃ e,(e,x.2) ∈ L
 | [],_,h=>by simp [blk] at h
 | (e', t') :: l, x, h => by
   simp only [blk,List.mem_cons] at h
   rcases h with rfl | h
   · exact ⟨e',by simp⟩
   · obtain ⟨e,he⟩:=blk_mem' h
     exact ⟨e,by simp [he]⟩
theorem kappa_ok {ops : Array Oper} {s : CS} : ∀ l : List Oper,keysOk (kappa ops s l) s.as
 | []=>fun p hp=>by simp [kappa] at hp
 | o :: l => fun p hp => by
   simp only [kappa,List.mem_append,List.mem_map] at hp
   rcases hp with ⟨t,_,rfl⟩ | hp
   · rfl
   · exact kappa_ok l p hp
theorem exec_ok (hm : P.follows .mixedOrders = true) {fs : List (FuncId × Nat)} (hfs : allOk P fs = true) {orc : Orc} (ho : orcOk P orc) : ∀ k,Good P (exec P fs orc k):=by
 intro k
 induction k using Nat.strongRecOn with
 | _ k ih =>
   cases k with
   | zero=>intro c t L _ h; cases c <;> simp [exec] at h
   | succ k =>
     intro c t L hok h
     cases c with
     | skip=>simp only [exec,Option.some.injEq] at h; subst h; exact ⟨by simp,fun C Q hQ=>zx (hQ _ (List.mem_singleton.2 rfl))⟩
     | label l=>simp only [exec,Option.some.injEq] at h; subst h; exact ⟨by simp,fun C Q hQ=>awp_label (hQ _ (List.mem_singleton.2 rfl))⟩
     | exit id=>simp only [exec,Option.some.injEq] at h; subst h; exact ⟨by simp,fun C Q hQ=>zf (hQ _ (List.mem_singleton.2 rfl))⟩
     | ret=>simp only [exec,Option.some.injEq] at h; subst h; exact ⟨by simp,fun C Q hQ=>ze (hQ _ (List.mem_singleton.2 rfl))⟩
     | region id ops D =>
       simp only [codeOk] at hok
       simp only [exec] at h
       split at h
       · rename_i hdr
         split at h
         · rename_i L' hL
           injection h with h; subst h
           have hcall:=callX_ok hfs ho (ih k (Nat.lt_succ_self k))
           have hk:=killD_sub D ops.toList t
           refine ⟨fun x hx=>(runOps_num hcall _ hL _ (norm_mem' hx).2).trans hk.2,fun C Q hQ=>zw hk.1 ?_⟩
           have:=runOps_ok hcall (K:=Q .normal) _ hL fun t ht _=>hQ _ (norm_mem ht)
           have hd : dstOk ops.toList.toArray (killD D ops.toList t).as.n = true:=by rw [show (killD D ops.toList t).as.n = t.n from hk.2]; exact hok
           cases D with
           | false=>exact awp_region (l:=ops.toList) hd this
           | true =>
             simp only [drawOk,Bool.not_true,Bool.false_or,Bool.or_eq_true] at hdr
             rcases hdr with hlex | hlex
             · exact awp_draw (l:=ops.toList) hm hlex hd this
             · exact awp_draw2 (l:=ops.toList) hm hlex hd (kappa_ok _) this
         · cases h
       · cases h
     | seq a b =>
       simp only [codeOk,Bool.and_eq_true] at hok
       simp only [exec] at h
       obtain ⟨l1,h1,h2⟩:=bindL_spec h
       have ga:=ih k (Nat.lt_succ_self k) a t l1 hok.1 h1
       refine ⟨fun x hx=>?_,fun C Q hQ=>?_⟩
       · obtain ⟨l1',h1',y,hy,ys,h3,h4⟩:=bindL_mem h hx
         rw [h1] at h1'; injection h1' with h1'; subst h1'
         have hn:=ga.1 y hy
         obtain ⟨e,u⟩:=y
         cases e <;> first
          | (have:=(ih k (Nat.lt_succ_self k) b u ys (by rw [hn]; exact hok.2) h3).1 x h4; rw [this]; exact hn)
          | (simp only [Option.some.injEq] at h3; subst h3; simp only [List.mem_singleton] at h4; rw [h4]; exact hn)
       · refine zq (ga.2 C _ fun x hx=>?_)
         obtain ⟨ys,h3,h4⟩:=h2 x hx
         have hn:=ga.1 x hx
         obtain ⟨e,u⟩:=x
         cases e <;> first
          | exact (ih k (Nat.lt_succ_self k) b u ys (by rw [hn]; exact hok.2) h3).2 C Q fun x hx=>hQ x (h4 x hx)
          | (simp only [Option.some.injEq] at h3; subst h3; exact hQ _ (h4 _ (by simp)))
     | cond c a b =>
       simp only [codeOk,Bool.and_eq_true] at hok
       simp only [exec] at h
       split at h
       · rename_i tt hc
         cases tt with
         | true =>
           have g:=ih k (Nat.lt_succ_self k) a t L hok.1 h
           exact ⟨g.1,fun C Q hQ=>zc hc (fun _=>g.2 C Q hQ) (fun e=>by cases e)⟩
         | false =>
           have g:=ih k (Nat.lt_succ_self k) b t L hok.2 h
           exact ⟨g.1,fun C Q hQ=>zc hc (fun e=>by cases e) (fun _=>g.2 C Q hQ)⟩
       · cases h
     | block id c =>
       simp only [codeOk] at hok
       simp only [exec] at h
       split at h
       · rename_i L' hL
         injection h with h; subst h
         have g:=ih k (Nat.lt_succ_self k) c t L' hok hL
         refine ⟨fun x hx=>?_,fun C Q hQ=>?_⟩
         · obtain ⟨e,he⟩:=blk_mem' hx
           exact g.1 (e,x.2) he
         · refine zd (g.2 C _ fun x hx=>?_)
           obtain ⟨e,u⟩:=x
           have:=hQ _ (blk_mem hx)
           cases e with
           | exit id' =>
             simp only [leave] at this
             simp only [inBlk]
             split <;> rename_i e <;> simp only [e,if_true,if_false] at this <;> exact this
           | _=>exact this
       · cases h
     | loop c =>
       simp only [codeOk] at hok
       have num : ∀ j,j ≤ k + 1 → ∀ (u : CS) (L' : Outs),u.n = t.n → exec P fs orc j (.loop c) u = some L' → ∀ x ∈ L',x.2.n = t.n:=by
        intro j
        induction j with
        | zero=>intro _ u L' _ hL; simp [exec] at hL
        | succ j ihj =>
          intro hj u L' hu hL x hx
          simp only [exec] at hL
          obtain ⟨l1,h1,y,hy,ys,h3,h4⟩:=bindL_mem hL hx
          have hn:=(ih j (by omega) c u l1 (by rw [hu]; exact hok) h1).1 y hy
          obtain ⟨e,v⟩:=y
          cases e <;> first
           | exact ihj (by omega) v ys (by rw [← hu]; exact hn) h3 x h4
           | (simp only [Option.some.injEq] at h3; subst h3; simp only [List.mem_singleton] at h4; rw [h4,← hu]; exact hn)
       refine ⟨num (k + 1) (Nat.le_refl _) t L rfl h,fun C Q hQ=>?_⟩
       refine awp_loop (fun j s=>j ≤ k + 1 ∧ ∃ u L',s = u.as ∧ u.n = t.n ∧ exec P fs orc j (.loop c) u = some L' ∧ ∀ x ∈ L',Q x.1 x.2.as) (k + 1) ⟨Nat.le_refl _,t,L,rfl,rfl,h,hQ⟩ ?_
       rintro j s ⟨hj,u,L',rfl,hu,hL,hQ'⟩
       cases j with
       | zero=>simp [exec] at hL
       | succ j =>
         simp only [exec] at hL
         obtain ⟨l1,h1,h2⟩:=bindL_spec hL
         have g:=ih j (by omega) c u l1 (by rw [hu]; exact hok) h1
         refine g.2 C _ fun x hx=>?_
         obtain ⟨ys,h3,h4⟩:=h2 x hx
         have hn:=g.1 x hx
         obtain ⟨e,v⟩:=x
         cases e <;> first
          | exact ⟨j,Nat.lt_succ_self j,by omega,v,ys,rfl,by rw [← hu]; exact hn,h3,fun x hx=>hQ' x (h4 x hx)⟩
          | (simp only [Option.some.injEq] at h3; subst h3; exact hQ' _ (h4 _ (by simp)))
     | _=>simp [exec] at h
theorem evalX_ok (hm : P.follows .mixedOrders = true) {fs : List (FuncId × Nat)} (hfs : allOk P fs = true) {orc : Orc} (ho : orcOk P orc) {k : Nat} {F : FuncId} {args : List RV} {r : RV} (hF : fnOk P F = true) (h : evalX P fs orc k F args = some r) : ACalls P F args r:=by
 unfold evalX at h
 split at h
 · rename_i fn hf
   split at h
   · rename_i c hb
     exact callA_ok (exec_ok hm hfs ho k) hf hb hF h
   · cases h
 · cases h
end
end Go.Oc

namespace Go.Proofs.Ytgkejinoaommeaa
open Go Go.Oc
set_option linter.unusedSimpArgs false
set_option linter.unusedVariables false
set_option maxRecDepth 8000
def lawL : List Am:=[⟨320,[⟨120,4,6⟩,⟨205,0,1⟩,⟨301,1,2⟩,⟨320,2,4⟩]⟩,⟨225,[⟨125,6,8⟩,⟨225,0,9⟩]⟩]
def lawT : List Am:=[⟨320,[⟨120,4,6⟩,⟨205,0,1⟩,⟨301,1,2⟩,⟨320,2,4⟩]⟩,⟨225,[⟨125,6,8⟩,⟨225,2,4⟩]⟩]
theorem lawL_wf : WfL 10 lawL:=by
 simp [WfL,WfA,Wf,lawL,I64]
theorem lawT_eq : lawL.map (tightA 10) = lawT:=by kernel_rfl
theorem lawL_chk : checkV 10 lawL = 0:=by kernel_rfl
theorem lawL_spans : spansV 10 lawL = [(236,343),(300,350)]:=by kernel_rfl
theorem lawL_pick : pickE 10 lawL 0 [20,10,3,60] = 0:=by kernel_rfl
theorem lawL_truth : truthV 10 lawL 0 [20,10,3,60] true = [5,0,1,4]:=by kernel_rfl
theorem lawL_is : bestL isP (spansV 10 lawL) = []:=by rw [lawL_spans]; kernel_rfl
theorem lawL_may : bestL mayP (spansV 10 lawL) = [0,1]:=by rw [lawL_spans]; kernel_rfl
def fitA : Am:=⟨320,[⟨0,0,0⟩,⟨101,0,0⟩,⟨105,0,0⟩,⟨120,0,0⟩,⟨320,0,0⟩]⟩
def fitB : Am:=⟨320,[⟨0,0,2⟩,⟨101,1,1⟩,⟨105,0,0⟩,⟨120,3,6⟩,⟨320,2,3⟩]⟩
def fitL : List Vi:=[⟨[320,120,101],0⟩,⟨[],100⟩,⟨[],60⟩]
theorem fitA_wf : WfA fitA:=by simp [WfA,Wf,fitA,I64]
theorem fit_eq : fitV fitA fitL = (fitB,9,0,0):=by kernel_rfl
theorem kTight : ACalls Try.prog 16 [lawV 10 lawL] (.tu [lawV 10 lawT,i64 0]):=by
 have:=Tight_ok 10 lawL lawL_wf
 rw [lawL_chk,lawT_eq,if_pos rfl] at this
 exact this
theorem kScore : ACalls Try.prog 21 [lawV 10 lawL] (.tu [spansR [(236,343),(300,350)],i64 0]):=by
 have:=Score_ok 10 lawL lawL_wf
 rw [lawL_chk,lawL_spans] at this
 exact this
theorem kTruth : ACalls Try.prog 40 [lawV 10 lawL,i64 0,ints [20,10,3,60],.bo true] (.tu [ints [5,0,1,4],i64 0]):=by
 have:=Truth_ok 10 lawL 0 [20,10,3,60] true lawL_wf
 rw [lawL_truth,lawL_pick] at this
 exact this
theorem kBest : ACalls Try.prog 22 [lawV 10 lawL] (.tu [ints [],ints [0,1],i64 0]):=by
 have:=Best_ok 10 lawL lawL_wf
 rw [lawL_chk,lawL_is,lawL_may] at this
 exact this
theorem kFit : ACalls Try.prog 28 [aimV fitA,visR fitL] (.tu [aimV fitB,i64 9,i64 0,i64 0]):=by
 have:=fit_ok fitA fitL fitA_wf
 rw [fit_eq] at this
 exact this
def kOrc : Orc:=[(16,[lawV 10 lawL],.tu [lawV 10 lawT,i64 0]),(21,[lawV 10 lawL],.tu [spansR [(236,343),(300,350)],i64 0]),(40,[lawV 10 lawL,i64 0,ints [20,10,3,60],.bo true],.tu [ints [5,0,1,4],i64 0]),
 (22,[lawV 10 lawL],.tu [ints [],ints [0,1],i64 0]),(28,[aimV fitA,visR fitL],.tu [aimV fitB,i64 9,i64 0,i64 0])]
theorem kOrc_ok : orcOk Try.prog kOrc:=⟨kTight,kScore,kTruth,kBest,kFit,trivial⟩
def fsK : List (FuncId × Nat):=[(47,0),(38,0),(24,0)]
theorem fsK_ok : allOk Try.prog fsK = true:=by kernel_rfl
theorem known14_ok : ACalls Try.prog 14 [] (.bo true):=evalX_ok follows fsK_ok kOrc_ok (k:=200) (by kernel_rfl) (by kernel_rfl)
end Go.Proofs.Ytgkejinoaommeaa

namespace Go.Proofs.Ytgkejinoaommeaa
open Go Go.Oc
set_option linter.unusedSimpArgs false
set_option linter.unusedVariables false
set_option maxRecDepth 8000
theorem aim_ok (a : Am) (hl : a.beds.length ≤ 1000) : ACalls Try.prog 26 [aimV a] (aimV a):=by
 refine acalls_st (rs:=[aimV a]) [.cell 2 36] Try.func26 rfl (by kernel_rfl) Try.ntmps26 rfl (by simp) rfl fun C vs=>?_
 repeat refine zq ?_
 refine zb (by kernel_rfl) fun K hK=>?_
 simp only [go_sem]
 (try simp (disch:=omega) only [zI])
 repeat first | intro _ | refine ⟨by omega,?_⟩ | refine ⟨⟨by omega,by omega⟩,?_⟩
 refine hK _ ?_
 clear hK K
 refine zw (sub_frzP 1 1 [i64 a.at_,bedsR a.beds] (by omega) rfl rfl) ?_
 refine zw (zk [1,2]) ?_
 simp only [go_sem]
 repeat refine zq ?_
 refine awp_dreg2 [(1,none),(2,some 2)] follows (by decide +kernel) (by kernel_rfl) (by simp only [keysOk,List.mem_cons,List.not_mem_nil,forall_eq_or_imp,Oc.keyOf,go_sem]; simp) fun K hK=>?_
 simp only [go_sem]
 (try simp (disch:=omega) only [zI])
 repeat first | intro _ | refine ⟨by omega,?_⟩ | refine ⟨⟨by omega,by omega⟩,?_⟩
 refine hK _ ?_
 clear hK K
 refine zw (zk [2]) ?_
 simp only [go_sem]
 refine ze ?_
 simp only [go_sem]
theorem own_ok (d : Int) (l : List Am) (hl : l.length ≤ 1000) (hb : ∀ a ∈ l,a.beds.length ≤ 1000) : ACalls Try.prog 15 [lawV d l] (lawV d l):=by
 refine acalls_st (rs:=[lawV d l]) [.cell 2 24] Try.func15 rfl (by kernel_rfl) Try.ntmps15 rfl (by simp) rfl fun C vs=>?_
 repeat refine zq ?_
 refine zb (by kernel_rfl) fun K hK=>?_
 simp only [go_sem]
 (try simp (disch:=omega) only [zI])
 repeat first | intro _ | refine ⟨by omega,?_⟩ | refine ⟨⟨by omega,by omega⟩,?_⟩
 refine hK _ ?_
 clear hK K
 refine zw (sub_frzP 1 1 [i64 d,aimsR l] (by omega) rfl rfl) ?_
 refine zw (zk [1,2]) ?_
 simp only [go_sem]
 repeat refine zq ?_
 refine zb (by kernel_rfl) fun K hK=>?_
 simp only [go_sem]
 (try simp (disch:=omega) only [zI])
 repeat first | intro _ | refine ⟨by omega,?_⟩ | refine ⟨⟨by omega,by omega⟩,?_⟩
 refine hK _ ?_
 clear hK K
 refine zw (zk [1,2,3]) ?_
 simp only [go_sem]
 repeat refine zq ?_
 refine zb (by kernel_rfl) fun K hK=>?_
 simp only [go_sem]
 (try simp (disch:=omega) only [zI])
 repeat first | intro _ | refine ⟨by omega,?_⟩ | refine ⟨⟨by omega,by omega⟩,?_⟩
 refine hK _ ?_
 clear hK K
 refine zw (zk [1,2,3,4]) ?_
 simp only [go_sem]
 repeat refine zq ?_
 refine zd ?_
 refine zw (sub_ownB 3 1 30 36 2 (by omega) (by omega) rfl rfl) ?_
 try simp only [go_sem]
 refine awp_uptoV (n:=27) l.length (fun i vs=>[(1,.r (.rp [i64 d,aimsR l])),(2,.pt 2 (vs 2) 0),(3,.pt 3 (vs 3) 0),(4,.r (i64 i))])
  (fun i vs=>[(2,.box [.r (i64 0),.r .ns]),(3,.box [.r (i64 d),.os 30 (vs 30) 2 0 i]),(30,.arr 36 2 ((l.take i).map aimR))]) (fun _=>True) 0 (zj [] ?_ ?_) (Nat.zero_le _) trivial ?_
 · try simp only [go_sem]
 · try simp only [go_sem]
 · intro i vs hi _
   repeat refine zq ?_
   refine zb (by kernel_rfl) fun K hK=>?_
   simp only [go_sem]
   (try simp (disch:=omega) only [zI])
   repeat first | intro _ | refine ⟨by omega,?_⟩ | refine ⟨⟨by omega,by omega⟩,?_⟩
   refine hK _ ?_
   clear hK K
   refine zw (zk [1,2,3,4,12]) ?_
   simp only [go_sem]
   repeat refine zq ?_
   refine zc rfl (fun hc=>?_) (fun hc=>?_) <;> (try simp only [go_sem] at hc)
   · skip
     have hci:=hc
     obtain ⟨x,hx⟩:=opt_of_lt hc
     have hlt : (l.take i).length = i:=by rw [List.length_take]; omega
     refine zx ?_
     try simp only [go_sem]
     repeat refine zq ?_
     refine zd ?_
     repeat refine zq ?_
     refine awp_dreg3 [(1,none),(2,some 2),(3,some 3),(4,none)] [3] follows (by decide +kernel) (by kernel_rfl) (by simp only [keysOk,List.mem_cons,List.not_mem_nil,forall_eq_or_imp,Oc.keyOf,go_sem]; simp) (by intro k hk; simp only [List.mem_cons,List.not_mem_nil,or_false] at hk; first | (subst hk; exact ⟨_,rfl⟩) | (rcases hk with rfl | rfl <;> exact ⟨_,rfl⟩) | (rcases hk with rfl | rfl | rfl <;> exact ⟨_,rfl⟩)) fun K hK=>?_
     simp only [go_sem,hx,hci,aimR,hlt]
     (try simp (disch:=omega) only [zI])
     refine zh (aim_ok x (hb x (mem_of_opt hx))) rfl (by simp only [go_sem,i64,ints,hlt,aimR]) (by simp only [go_sem,i64,ints,hlt,aimR]) (by first | exact .inl rfl | exact .inr rfl) ?_
     (try simp only [go_sem,hlt,aimR])
     (try simp (disch:=omega) only [zI])
     repeat first | intro _ | refine ⟨by omega,?_⟩ | refine ⟨⟨by omega,by omega⟩,?_⟩
     refine hK _ ?_
     clear hK K
     refine zw (zk [1,2,3,4]) ?_
     simp only [go_sem]
     repeat refine zq ?_
     refine zb (by kernel_rfl) fun K hK=>?_
     simp only [go_sem]
     (try simp (disch:=omega) only [zI])
     repeat first | intro _ | refine ⟨by omega,?_⟩ | refine ⟨⟨by omega,by omega⟩,?_⟩
     refine hK _ ?_
     clear hK K
     try simp only [go_sem]
     refine ⟨hci,zj [] ?_ ?_⟩
     · try simp only [go_sem]
     · try simp only [go_sem]
       rw [take_of_opt hx]
       simp [aimR]
   · skip
     refine zf ?_
     simp only [go_sem]
     repeat refine zq ?_
     refine zb (by kernel_rfl) fun K hK=>?_
     simp only [go_sem]
     (try simp (disch:=omega) only [zI])
     repeat first | intro _ | refine ⟨by omega,?_⟩ | refine ⟨⟨by omega,by omega⟩,?_⟩
     refine hK _ ?_
     clear hK K
     refine zw (zk [2]) ?_
     simp only [go_sem]
     refine ze ?_
     simp only [go_sem]
     have : i = l.length:=by omega
     subst this
     simp [List.take_of_length_le]
end Go.Proofs.Ytgkejinoaommeaa

namespace Go.Oc
open Go Go.RowKit
set_option linter.unusedVariables false
set_option linter.unusedSimpArgs false
def unl (listed : Array Bool) : Nat → Nat
 | 0=>0
 | m + 1=>unl listed m + if listed.getD m true then 0 else 1
theorem getD_setT {listed : Array Bool} {i j : Nat} : (listed.setIfInBounds i true).getD j true = if j = i then true else listed.getD j true:=by
 split
 · rename_i e
   subst e
   simp only [Array.getD_eq_getD_getElem?,Array.getElem?_setIfInBounds]
   split
   · split <;> simp_all
   · simp_all
 · rename_i e
   simp only [Array.getD_eq_getD_getElem?,Array.getElem?_setIfInBounds]
   rw [if_neg (fun h=>e h.symm)]
theorem unl_same {listed : Array Bool} {i : Nat} : ∀ m,m ≤ i → unl (listed.setIfInBounds i true) m = unl listed m
 | 0,_=>rfl
 | m + 1, h => by
   have e2 : m ≠ i:=by omega
   have e3:=unl_same (listed:=listed) (i:=i) m (by omega)
   simp only [unl,getD_setT,e3,if_neg e2]
theorem unl_set {listed : Array Bool} {i : Nat} (hi : listed.getD i true = false) : ∀ m,i < m → unl (listed.setIfInBounds i true) m + 1 = unl listed m
 | 0,h=>by omega
 | m + 1, h => by
   simp only [unl,getD_setT]
   by_cases e : i = m
   · subst e
     rw [unl_same _ (Nat.le_refl _)]
     simp [hi]
   · have:=unl_set hi m (by omega)
     have e2 : m ≠ i:=fun h=>e h.symm
     rw [if_neg e2]
     omega
theorem unl_zero {listed : Array Bool} : ∀ m,unl listed m = 0 → ∀ j,j < m → listed.getD j true = true
 | 0,_,j,h=>by omega
 | m + 1, h, j, hj => by
   simp only [unl] at h
   by_cases e : j = m
   · subst e
     by_cases hx : listed.getD j true = true
     · exact hx
     · simp [hx] at h
   · exact unl_zero m (by omega) j (by omega)
def stepAll (P : Program) (ops : Array Oper) (n : Nat) (F : (Nat → Bool) → (Nat → Nat) → List (Nat × AV)) (R : (Nat → Bool) → (Nat → Nat) → List (Nat × RowC)) : Nat → List Oper → Prop
 | _,[]=>True
 | k,o :: rest=>(∀ b vs,(∀ j e,j < ops.size → (deps ops j).contains e = true → b j = true → b e = true) → b k = false → (∀ e ∈ deps ops k,b e = true) →
  xop P false o (FitV n (F (upd b k true)) (R (upd b k true))) (st n (F b vs) vs (R b vs))) ∧ stepAll P ops n F R (k + 1) rest
def upOk (ops : Array Oper) : Bool:=(List.range ops.size).all fun j=>(deps ops j).all fun e=>decide (e < j)
section
variable {P : Program} {C : Ctx} {s : AS} {a : Act} {w : World} {ops : Array Oper}
theorem ready_nil {listed : Array Bool} (hu : upOk ops = true) (h : Region.ready .any ops listed = []) (hsz : listed.size = ops.size) : ∀ j,j < ops.size → listed.getD j true = true:=by
 intro j
 induction j using Nat.strongRecOn with
 | _ j ih =>
   intro hj
   by_cases hx : listed.getD j true = true
   · exact hx
   · exfalso
     have ho : ops[j]? = some ops[j]:=Array.getElem?_eq_getElem hj
     have hr : j ∈ Region.ready .any ops listed:=by
      refine mem_ready.2 ⟨by simpa using hx,ops[j],ho,fun e he hb=>?_⟩
      have hm : e.on ∈ deps ops j:=by unfold deps; rw [ho]; exact List.mem_map.2 ⟨e,List.mem_filter.2 ⟨by simpa using he,hb⟩,rfl⟩
      have hlt:=List.all_eq_true.1 (List.all_eq_true.1 hu j (by simpa using hj)) e.on hm
      simp only [decide_eq_true_eq] at hlt
      have:=ih e.on hlt (by omega)
      have h2 : e.on < listed.size:=by omega
      simpa [h2] using this
     rw [h] at hr
     cases hr
end
def allB (b : Nat → Bool) (v : Bool) : List Nat → Prop
 | []=>True
 | e :: es=>b e = v ∧ allB b v es
def chU (ops : Array Oper) (n : Nat) : List Nat → List Nat → Bool
 | _,[]=>true
 | seen,e :: es=>((deps ops n).contains e || seen.any fun j=>decide (j < ops.size) && (deps ops j).contains e) && chU ops n (e :: seen) es
def chD (ops : Array Oper) (n : Nat) : List Nat → List Nat → Bool
 | _,[]=>true
 | seen,e :: es=>(decide (e < ops.size) && ((deps ops e).contains n || seen.any fun j=>(deps ops e).contains j)) && chD ops n (e :: seen) es
theorem upT0 {ops : Array Oper} {b : Nat → Bool} {n : Nat} (hdn : ∀ j e,j < ops.size → (deps ops j).contains e = true → b j = true → b e = true) (hde : ∀ e ∈ deps ops n,b e = true) : ∀ (es seen : List Nat),(∀ j ∈ seen,b j = true) → chU ops n seen es = true → allB b true es
 | [],_,_,_=>trivial
 | e :: es, seen, hs, h => by
   simp only [chU,Bool.and_eq_true,Bool.or_eq_true,List.any_eq_true,decide_eq_true_eq] at h
   have he : b e = true:=by
    rcases h.1 with h1 | ⟨j,hj,h1,h2⟩
    · exact hde e (by simpa using h1)
    · exact hdn j e h1 h2 (hs j hj)
   refine ⟨he,upT0 hdn hde es (e :: seen) (fun j hj=>?_) h.2⟩
   rcases List.mem_cons.1 hj with rfl | hj
   · exact he
   · exact hs j hj
theorem upT {ops : Array Oper} {b : Nat → Bool} {n : Nat} (hdn : ∀ j e,j < ops.size → (deps ops j).contains e = true → b j = true → b e = true) (hde : ∀ e ∈ deps ops n,b e = true) (es : List Nat) (h : chU ops n [] es = true) : allB b true es:=upT0 hdn hde es [] (by simp) h
theorem dnT0 {ops : Array Oper} {b : Nat → Bool} {n : Nat} (hdn : ∀ j e,j < ops.size → (deps ops j).contains e = true → b j = true → b e = true) (hbk : b n = false) : ∀ (es seen : List Nat),(∀ j ∈ seen,b j = false) → chD ops n seen es = true → allB b false es
 | [],_,_,_=>trivial
 | e :: es, seen, hs, h => by
   simp only [chD,Bool.and_eq_true,Bool.or_eq_true,List.any_eq_true,decide_eq_true_eq] at h
   have he : b e = false:=by
    cases hb : b e
    · rfl
    · rcases h.1.2 with h1 | ⟨j,hj,h2⟩
      · rw [hdn e n h.1.1 h1 hb] at hbk; cases hbk
      · have:=hs j hj
        rw [hdn e j h.1.1 h2 hb] at this; cases this
   refine ⟨he,dnT0 hdn hbk es (e :: seen) (fun j hj=>?_) h.2⟩
   rcases List.mem_cons.1 hj with rfl | hj
   · exact he
   · exact hs j hj
theorem dnT {ops : Array Oper} {b : Nat → Bool} {n : Nat} (hdn : ∀ j e,j < ops.size → (deps ops j).contains e = true → b j = true → b e = true) (hbk : b n = false) (es : List Nat) (h : chD ops n [] es = true) : allB b false es:=dnT0 hdn hbk es [] (by simp) h
end Go.Oc

namespace Go.Oc
open Go Go.RowKit
set_option linter.unusedVariables false
set_option linter.unusedSimpArgs false
def xlit (P : Program) (o : Oper) (K : AS → Prop) (s : AS) : Prop :=
 match o.op,o.dst with
 | .buildSlice t n ps,some d=>aR s (some d) (sLitBox P s d t n (ps.toList.map fun (i,x)=>(i,s.ev x))) K
 | _,_=>False
def xappB (P : Program) (o : Oper) (K : AS → Prop) (s : AS) : Prop :=
 match o.op,o.dst with
 | .call ⟨.builtin .append,⟨[x,y]⟩,⟨[t,t']⟩⟩,some d=>aR s (some d) (sAppB P s d t t' (s.ev x) (s.ev y)) K
 | _,_=>False
def xopL (P : Program) (o : Oper) (K : AS → Prop) (s : AS) : Prop:=xop P false o K s ∨ xlit P o K s ∨ xappB P o K s
section
variable {P : Program} {C : Ctx} {s : AS}
theorem xopL_sound {p : Plan} {a : Act} {w : World} {o : Oper} {KA : AS → Prop} (hp : SR C p s a w) (h : xopL P o KA s) (hd0 : ∀ t,o.dst = some t → t < s.n) {K : Act → World → Prop} {Q : Exit → Act → World → Prop}
 (hK : ∀ a' w' p' s',SR C p' s' a' w' → s'.n = s.n → KA s' → K a' w') (hnd : ∀ c,o.op ≠ .defer c) : o.wpIn (fnc C.rd) 0 P a w K Q:=by
 rcases h with h | h | h
 · exact xop_sound hp h hd0 hK hnd
 · unfold xlit at h
   split at h
   · rename_i t n ps d ho hd
     refine wpIn_of_wp hnd ?_
     have hg:=good_litBox (P:=P) (o:=o) hp ho (by rw [hd]; exact h.1)
     rw [hd] at hg
     obtain ⟨nx,v,w',p',hrun,hnx,hass,hSR,hrel⟩:=hg
     unfold Oper.wp
     rw [hrun]
     have hput:=hSR.put' (d:=some d) hrel (fun t ht=>by injection ht with ht; subst ht; exact hd0 _ hd)
     rcases hnx with rfl | ⟨rfl,rfl⟩
     · show K (a.put o.dst v) w'
       rw [hd]
       exact hK _ _ p' _ hput (app_n _ _ _) (h.2 hass)
     · show K (a.put o.dst undef) w'
       rw [hd]
       exact hK _ _ p' _ hput (app_n _ _ _) (h.2 hass)
   · exact h.elim
 · unfold xappB at h
   split at h
   · rename_i x y t t' d ho hd
     refine wpIn_of_wp hnd ?_
     have hg:=good_appB (P:=P) (o:=o) hp ho (by rw [hd]; exact h.1)
     rw [hd] at hg
     obtain ⟨nx,v,w',p',hrun,hnx,hass,hSR,hrel⟩:=hg
     unfold Oper.wp
     rw [hrun]
     have hput:=hSR.put' (d:=some d) hrel (fun t ht=>by injection ht with ht; subst ht; exact hd0 _ hd)
     rcases hnx with rfl | ⟨rfl,rfl⟩
     · show K (a.put o.dst v) w'
       rw [hd]
       exact hK _ _ p' _ hput (app_n _ _ _) (h.2 hass)
     · show K (a.put o.dst undef) w'
       rw [hd]
       exact hK _ _ p' _ hput (app_n _ _ _) (h.2 hass)
   · exact h.elim
end
def stepAllL (P : Program) (ops : Array Oper) (n : Nat) (F : (Nat → Bool) → (Nat → Nat) → List (Nat × AV)) (R : (Nat → Bool) → (Nat → Nat) → List (Nat × RowC)) : Nat → List Oper → Prop
 | _,[]=>True
 | k,o :: rest=>(∀ b vs,(∀ j e,j < ops.size → (deps ops j).contains e = true → b j = true → b e = true) → b k = false → (∀ e ∈ deps ops k,b e = true) →
  xopL P o (FitV n (F (upd b k true)) (R (upd b k true))) (st n (F b vs) vs (R b vs))) ∧ stepAllL P ops n F R (k + 1) rest
theorem stepAllL_get {P : Program} {ops : Array Oper} {n : Nat} {F : (Nat → Bool) → (Nat → Nat) → List (Nat × AV)} {R : (Nat → Bool) → (Nat → Nat) → List (Nat × RowC)} : ∀ {l : List Oper} {k i : Nat} {o : Oper},stepAllL P ops n F R k l → l[i]? = some o →
 ∀ b vs, (∀ j e, j < ops.size → (deps ops j).contains e = true → b j = true → b e = true) → b (k + i) = false → (∀ e ∈ deps ops (k + i), b e = true) →
   xopL P o (FitV n (F (upd b (k + i) true)) (R (upd b (k + i) true))) (st n (F b vs) vs (R b vs))
 | [],_,_,_,_,h=>by simp at h
 | x :: l, k, 0, o, hs, h => by
   simp only [List.getElem?_cons_zero,Option.some.injEq] at h
   subst h
   exact hs.1
 | x :: l, k, i + 1, o, hs, h => by
   have:=stepAllL_get (k:=k + 1) (i:=i) hs.2 (by simpa using h)
   rwa [show k + 1 + i = k + (i + 1) by omega] at this
section
variable {P : Program} {C : Ctx} {s : AS} {a : Act} {w : World} {ops : Array Oper}
theorem inv_anyL {Q : AS → Prop} {Q' : Exit → Act → World → Prop} (hQ : ∀ s a w,Q s → SRel C s a w → Q' .normal a w) {n : Nat} {F : (Nat → Bool) → (Nat → Nat) → List (Nat × AV)} {R : (Nat → Bool) → (Nat → Nat) → List (Nat × RowC)}
 (hd : dstOk ops n = true) (hg : ops.all (fun o=>o.guard.isNone) = true) (hu : upOk ops = true) (hstep : stepAllL P ops n F R 0 ops.toList)
 (hend : ∀ b vs,(∀ j,b j = true) → Q (st n (F b vs) vs (R b vs))) :
 ∀ (fuel : Nat) (vs : Nat → Nat) (listed : Array Bool) (a : Act) (w : World), listed.size = ops.size → down ops listed → unl listed ops.size ≤ fuel → SRel C (st n (F (fun j => listed.getD j true) vs) vs (R (fun j => listed.getD j true) vs)) a w →
   wpAnyIn (fnc C.rd) 0 P .any ops Q' fuel listed a w:=by
 have all : ∀ {listed : Array Bool},listed.size = ops.size → (∀ j,j < ops.size → listed.getD j true = true) → ∀ j,(fun j=>listed.getD j true) j = true:=fun {listed} hsz h j=>by
  by_cases hj : j < ops.size
  · exact h j hj
  · show listed.getD j true = true
    have : ¬ j < listed.size:=by omega
    simp [this]
 intro fuel
 induction fuel with
 | zero =>
   intro vs listed a w hsz hdn hf hs
   have h0:=unl_zero (listed:=listed) ops.size (by omega)
   refine ⟨List.eq_nil_iff_forall_not_mem.2 fun j hj=>?_,hQ _ _ _ (hend _ _ (all hsz h0)) hs⟩
   obtain ⟨h1,o,ho,_⟩:=mem_ready.1 hj
   have:=h0 j (Array.getElem?_eq_some_iff.1 ho).1
   rw [this] at h1
   cases h1
 | succ fuel ih =>
   intro vs listed a w hsz hdn hf hs
   refine ⟨fun h0=>hQ _ _ _ (hend _ _ (all hsz (ready_nil hu h0 hsz))) hs,fun i hi=>?_⟩
   obtain ⟨hi1,o,ho,hall⟩:=mem_ready.1 hi
   unfold wpOpIn
   rw [ho]
   simp only
   have hil : i < ops.size:=(Array.getElem?_eq_some_iff.1 ho).1
   have hgo : o.guard = none:=by
    have:=Array.all_eq_true_iff_forall_mem.1 hg o (Array.mem_of_getElem? ho)
    simpa using this
   obtain ⟨p,hp⟩:=hs
   rw [if_pos (wantA_sound hp (by simp [wantA,hgo]))]
   have hx:=stepAllL_get (k:=0) (i:=i) hstep (by rw [Array.getElem?_toList]; exact ho) (fun j=>listed.getD j true) vs (fun j e hj he hb=>?_) (by rw [Nat.zero_add]; exact hi1) (fun e he=>?_)
   · rw [Nat.zero_add] at hx
     refine xopL_sound hp hx (dstOk_get hd ho) (fun a' w' p' s' hs' hn hK=>?_) (dstOk_nd hd ho)
     obtain ⟨vs',hsub⟩:=hK
     have e : upd (fun j=>listed.getD j true) i true = fun j=>(listed.setIfInBounds i true).getD j true:=by
      funext j
      rw [getD_setT]
      rfl
     rw [e] at hsub
     exact ih vs' _ a' w' (by simpa using hsz) (down_set hdn hi) (by have:=unl_set hi1 ops.size hil; omega) (hsub C a' w' ⟨p',hs'⟩)
   · have hjs : j < listed.size:=by omega
     have hb' : listed.getD j true = true:=hb
     have h2:=hdn j (by simpa [hjs] using hb') e (by simpa using he)
     show listed.getD e true = true
     by_cases hes : e < listed.size
     · simpa [hes] using h2
     · simp [hes]
   · have h2:=ready_deps hi e (by simpa using he)
     show listed.getD e true = true
     by_cases hes : e < listed.size
     · simpa [hes] using h2
     · simp [hes]
end
theorem awp_invL {P : Program} {C : Ctx} {id : Nat} {l : List Oper} {n : Nat} {Q : Exit → AS → Prop} {s : AS} (F : (Nat → Bool) → (Nat → Nat) → List (Nat × AV)) (R : (Nat → Bool) → (Nat → Nat) → List (Nat × RowC)) (hm : P.follows .mixedOrders = true)
 (hd : dstOk l.toArray n = true) (hg : l.toArray.all (fun o=>o.guard.isNone) = true) (hu : upOk l.toArray = true) (h0 : FitV n (F fun j=>decide (l.length ≤ j)) (R fun j=>decide (l.length ≤ j)) s)
 (hstep : stepAllL P l.toArray n F R 0 l) (hend : ∀ b vs,(∀ j,b j = true) → Q .normal (st n (F b vs) vs (R b vs))) : awp P C (.region id l.toArray true) Q s:=fun a w hs=>by
 obtain ⟨vs,hsub⟩:=h0
 obtain ⟨p,hp⟩:=hsub C a w hs
 have hs' : SR C p _ a { w with drawn:=w.drawn + 1 }:=hp.below (w':=w.drew) ((Below.refl _ _).drew) (fun _ h=>h) (fun _ h=>.inl h) hp.rb
 refine wpIn_region_any hm ?_
 have e : (fun j=>(Array.replicate l.toArray.size false).getD j true) = fun j=>decide (l.length ≤ j):=by
  funext j
  by_cases h : j < l.length
  · have : ¬ l.length ≤ j:=by omega
    simp [h,this]
  · have : l.length ≤ j:=by omega
    simp [h,this]
 refine inv_anyL (Q:=fun s=>Q .normal s) (n:=n) (F:=F) (R:=R) (fun s a w hq hs=>⟨s,hs,hq⟩) hd hg hu (by simpa using hstep) hend _ vs _ _ _ (by simp) (fun j hj=>?_) ?_ ?_
 · exfalso
   simp only [Array.getD_eq_getD_getElem?,Array.getElem?_replicate] at hj
   split at hj <;> simp at hj
 · have : ∀ m,unl (Array.replicate l.toArray.size false) m ≤ m:=by
    intro m
    induction m with
    | zero=>exact Nat.le_refl _
    | succ m ih=>simp only [unl]; split <;> omega
   exact this _
 · rw [e]
   exact ⟨p,hs'⟩
end Go.Oc

namespace Go.Oc
open Go Go.RowKit
set_option linter.unusedVariables false
set_option linter.unusedSimpArgs false
theorem idK_app (a b : List (Nat × RowC)) : idK (a ++ b) = idK a ++ idK b:=by simp [idK]
theorem lendKey_idK : ∀ {L : List (Nat × RowC)} {k : Nat},lendKey (idK L) k = pinOf (idK L) k
 | [],_=>rfl
 | (j, c) :: L, k => by
   have ih:=lendKey_idK (L:=L) (k:=k)
   simp only [idK,List.map_cons,lendKey,pinOf] at ih ⊢
   rw [ih]
theorem pinOf_idK (L : List (Nat × RowC)) (k : Nat) : pinOf (idK L) k = if hasKey L k then some k else none:=by
 cases h : hasKey L k
 · rw [idK_pin.2 h]; rfl
 · rw [idK_pin.1 h]; rfl
theorem hasKey_app (a b : List (Nat × RowC)) (k : Nat) : hasKey (a ++ b) k = (hasKey a k || hasKey b k):=by simp [hasKey]
theorem hasKey_fam {f : Nat → RowC} : ∀ {n j : Nat},hasKey (fam f n) (j + 600) = decide (j < n)
 | 0,j=>by simp [fam,hasKey]
 | n + 1, j => by
   simp only [fam,hasKey_app,hasKey_fam (n:=n)]
   simp only [hasKey,List.any_cons,List.any_nil,Bool.or_false]
   by_cases e : j = n
   · subst e; simp
   · have : (n + 600 == j + 600) = false:=by simp; omega
     rw [this,Bool.or_false]
     exact decide_eq_decide.2 (by omega)
theorem fam_mem_iff {f : Nat → RowC} {n : Nat} {x : Nat × RowC} : x ∈ fam f n ↔ ∃ i,i < n ∧ x = (i + 600,f i):=by
 constructor
 · induction n with
   | zero=>intro h; cases h
   | succ n ih =>
     intro h
     simp only [fam,List.mem_append,List.mem_singleton] at h
     rcases h with h | h
     · obtain ⟨i,hi,e⟩:=ih h; exact ⟨i,by omega,e⟩
     · exact ⟨n,by omega,h⟩
 · rintro ⟨i,hi,rfl⟩; exact fam_mem hi
theorem hasKey_false_of {L : List (Nat × RowC)} {k : Nat} (h : ∀ x ∈ L,x.1 ≠ k) : hasKey L k = false:=by
 cases e : hasKey L k
 · rfl
 · simp only [hasKey,List.any_eq_true,beq_iff_eq] at e
   obtain ⟨x,hx,e⟩:=e
   exact absurd e (h x hx)
theorem apart_idK : ∀ {L : List (Nat × RowC)},(L.Pairwise fun x y=>x.1 < y.1) → apart (idK L) = true
 | [],_=>rfl
 | (j, c) :: L, h => by
   obtain ⟨h1,h2⟩:=List.pairwise_cons.1 h
   have hk : hasKey L j = false:=hasKey_false_of fun x hx=>by have:=h1 x hx; simp only at this; omega
   have h3:=lendKey_idK (L:=L) (k:=j)
   have h4:=pinOf_idK L j
   rw [hk] at h4
   simp only [idK] at h3 h4
   simp only [idK,List.map_cons,apart,h3,h4,if_neg Bool.false_ne_true,Option.isNone_none,Bool.true_and]
   exact apart_idK h2
theorem sameKeysN_idK : ∀ {L : List (Nat × RowC)},(∀ x ∈ L,okN x.2 = true) → sameKeysN (idK L) L = true
 | [],_=>rfl
 | (j, c) :: L, h => by
   simp only [idK,List.map_cons,sameKeysN,decide_true,Bool.true_and,Bool.and_eq_true]
   exact ⟨h (j,c) (by simp),sameKeysN_idK fun x hx=>h x (by simp [hx])⟩
theorem smallK_idK {L : List (Nat × RowC)} (h : ∀ x ∈ L,x.1 < 1000) : smallK (idK L) = true:=by
 simp only [smallK,idK,List.all_map,List.all_eq_true,Function.comp_def,decide_eq_true_eq]
 exact h
theorem lendOk_idK {ρ : List (Nat × Nat)} {s : AS} : ∀ {L : List (Nat × RowC)},(∀ x ∈ L,lendC ρ s.ver (s.rows x.1).c = some x.2) → lendOk ρ s (idK L) L
 | [],_=>trivial
 | (j,c) :: L,h=>⟨rfl,h (j,c) (by simp),lendOk_idK fun x hx=>h x (by simp [hx])⟩
theorem lendL_append {ρ : List (Nat × Nat)} {ver : Nat → Nat} : ∀ {a b a' b' : List AV},lendL ρ ver a = some a' → lendL ρ ver b = some b' → lendL ρ ver (a ++ b) = some (a' ++ b')
 | [],b,a',b',h,h'=>by simp only [lendL,Option.some.injEq] at h; subst h; exact h'
 | x :: a, b, a', b', h, h' => by
   simp only [lendL] at h
   split at h
   · rename_i y ys e1 e2
     injection h with h
     subst h
     simp only [List.cons_append,lendL,e1,lendL_append e2 h']
   · cases h
theorem backL_append {ρ : List (Nat × Nat)} {ver : Nat → Nat} : ∀ {a b : List AV},backL ρ ver (a ++ b) = backL ρ ver a ++ backL ρ ver b
 | [],_=>by simp only [backL,List.nil_append]
 | x :: a,b=>by simp only [List.cons_append,backL,backL_append (a:=a)]
theorem newCs_app {σ : List (Nat × Nat)} {ver : Nat → Nat} {L : List (Nat × RowC)} : ∀ {a b : List (Nat × Nat)} {cs : List (Nat × RowC)},newCs σ ver L (a ++ b) cs = newCs σ ver L b (newCs σ ver L a cs)
 | [],_,_=>rfl
 | (pk,ck) :: a,b,cs=>by simp only [List.cons_append,newCs]; exact newCs_app
theorem newCs_fam {σ : List (Nat × Nat)} {ver : Nat → Nat} {L : List (Nat × RowC)} {f : Nat → RowC} : ∀ {n : Nat} {cs : List (Nat × RowC)},(∀ x ∈ cs,x.1 < 600) →
 newCs σ ver L (idK (fam f n)) cs = cs ++ fam (fun j=>backC σ ver (lookc L (j + 600))) n
 | 0,cs,_=>by simp [fam,idK,newCs]
 | n + 1, cs, h => by
   simp only [fam,idK_app,newCs_app,newCs_fam (n:=n) h]
   simp only [idK,List.map_cons,List.map_nil,newCs]
   rw [insc_app_gt (fun x hx=>?_),List.append_assoc]
   rcases List.mem_append.1 hx with hx | hx
   · have:=h x hx; omega
   · have:=fam_keys hx; omega
theorem newVs_idK {vs : Nat → Nat} {L : List (Nat × RowC)} (h : L.Pairwise fun x y=>x.1 < y.1) (k : Nat) : newVs vs (idK L) k = if hasKey L k then vs k + 1 else vs k:=by
 rw [newVs_eq (apart_idK h)]
 unfold newVer
 rw [lendKey_idK,pinOf_idK]
 cases hasKey L k <;> rfl
end Go.Oc

namespace Go.Proofs.Ytgkejinoaommeaa
open Go Go.Oc
set_option linter.unusedSimpArgs false
set_option linter.unusedVariables false
set_option maxRecDepth 8000
set_option maxHeartbeats 4000000
theorem aim_new (a : Am) (h0 : 1 ≤ a.beds.length) (hl : a.beds.length ≤ 1000) : NCalls Try.prog 26 [aimV a] [(8,.arr 67 3 (a.beds.map bedR))] (.ag [.r (i64 a.at_),.os 8 0 3 0 a.beds.length]):=by
 refine ncalls_st (n:=10) _ _ (.cell 2 36) Try.func26 rfl (by kernel_rfl) Try.ntmps26 rfl (by simp) rfl rfl fun C hC=>?_
 repeat refine zq ?_
 refine zb (by kernel_rfl) fun K hK=>?_
 simp only [go_sem]
 (try simp (disch:=omega) only [zI])
 repeat first | intro _ | refine ⟨by omega,?_⟩ | refine ⟨⟨by omega,by omega⟩,?_⟩
 refine hK _ ?_
 clear hK K
 refine zw (sub_frzP 1 1 [i64 a.at_,bedsR a.beds] (by omega) rfl rfl) ?_
 refine zw (zk [1,2]) ?_
 simp only [go_sem]
 repeat refine zq ?_
 refine awp_dreg2 [(1,none),(2,some 2)] follows (by decide +kernel) (by kernel_rfl) (by simp only [keysOk,List.mem_cons,List.not_mem_nil,forall_eq_or_imp,Oc.keyOf,go_sem]; simp) fun K hK=>?_
 simp only [go_sem]
 (try simp (disch:=omega) only [zI])
 repeat first | intro _ | refine ⟨by omega,?_⟩ | refine ⟨⟨by omega,by omega⟩,?_⟩
 refine hK _ ?_
 clear hK K
 refine zw (zk [2]) ?_
 simp only [go_sem]
 refine ze ?_
 try simp only [go_sem]
def vI (b : Nat → Bool) (k : Nat) (v : AV) : AV:=bif b k then v else .r .un
def lA (l : List Am) (j : Nat) : Am:=l.getD j ⟨0,[]⟩
def ow0F (d : Int) (l : List Am) (a : Am) (i : Nat) (b : Nat → Bool) (vs : Nat → Nat) : List (Nat × AV) :=
 [(1,.r (.rp [i64 d,aimsR l])),(2,.pt 2 (vs 2) 0),(3,.pt 3 (vs 3) 0),(4,.r (i64 (i : Int))),
  (15,vI b 0 (.pt 3 (vs 3) 1)),
  (16,vI b 1 (.r .ns)),
  (17,vI b 2 (.r (.rp [aimsR l]))),
  (18,vI b 3 (.r (aimsR l))),
  (19,vI b 4 (.r (i64 (i : Int)))),
  (20,vI b 5 (.r (.rp [i64 a.at_,bedsR a.beds]))),
  (21,vI b 6 (.r (.ag (aimR a)))),
  (22,vI b 7 (.ag [.r (i64 a.at_),.os (i + 600) (vs (i + 600)) 3 0 a.beds.length])),
  (23,vI b 8 (.os 23 (vs 23) 2 0 1)),
  (24,vI b 9 (.os 24 (vs 24) 2 0 (i + 1))),
  (25,vI b 10 (.pt 3 (vs 3) 1))]
def ow0R (d : Int) (l : List Am) (a : Am) (i : Nat) (b : Nat → Bool) (vs : Nat → Nat) : List (Nat × RowC) :=
 bif b 11 then (2,.box [.r (i64 0),.r .ns]) :: (3,.box [.r (i64 d),.os 24 (vs 24) 2 0 (i + 1)]) :: (23,.ara 36 2 [.r (i64 a.at_),.os (i + 600) (vs (i + 600)) 3 0 a.beds.length]) :: (24,.ara 36 2 (araG (lA l) vs (i + 1))) :: fam (famG (lA l)) (i + 1)
 else bif b 9 then (2,.box [.r (i64 0),.r .ns]) :: (3,.box [.r (i64 d),.r .ns]) :: (23,.ara 36 2 [.r (i64 a.at_),.os (i + 600) (vs (i + 600)) 3 0 a.beds.length]) :: (24,.ara 36 2 (araG (lA l) vs (i + 1))) :: fam (famG (lA l)) (i + 1)
 else bif b 8 then (2,.box [.r (i64 0),.r .ns]) :: (3,.box [.r (i64 d),.r .ns]) :: (23,.ara 36 2 [.r (i64 a.at_),.os (i + 600) (vs (i + 600)) 3 0 a.beds.length]) :: fam (famG (lA l)) (i + 1)
 else bif b 7 then (2,.box [.r (i64 0),.r .ns]) :: (3,.box [.r (i64 d),.r .ns]) :: fam (famG (lA l)) (i + 1)
 else (2,.box [.r (i64 0),.r .ns]) :: (3,.box [.r (i64 d),.r .ns]) :: fam (famG (lA l)) i
def ow1F (d : Int) (l : List Am) (a : Am) (i : Nat) (b : Nat → Bool) (vs : Nat → Nat) : List (Nat × AV) :=
 [(1,.r (.rp [i64 d,aimsR l])),(2,.pt 2 (vs 2) 0),(3,.pt 3 (vs 3) 0),(4,.r (i64 (i : Int))),
  (15,vI b 0 (.pt 3 (vs 3) 1)),
  (16,vI b 1 (.os 24 (bif b 9 then vs 24 - 1 else vs 24) 2 0 i)),
  (17,vI b 2 (.r (.rp [aimsR l]))),
  (18,vI b 3 (.r (aimsR l))),
  (19,vI b 4 (.r (i64 (i : Int)))),
  (20,vI b 5 (.r (.rp [i64 a.at_,bedsR a.beds]))),
  (21,vI b 6 (.r (.ag (aimR a)))),
  (22,vI b 7 (.ag [.r (i64 a.at_),.os (i + 600) (vs (i + 600)) 3 0 a.beds.length])),
  (23,vI b 8 (.os 23 (vs 23) 2 0 1)),
  (24,vI b 9 (.os 24 (vs 24) 2 0 (i + 1))),
  (25,vI b 10 (.pt 3 (vs 3) 1))]
def ow1R (d : Int) (l : List Am) (a : Am) (i : Nat) (b : Nat → Bool) (vs : Nat → Nat) : List (Nat × RowC) :=
 bif b 11 then (2,.box [.r (i64 0),.r .ns]) :: (3,.box [.r (i64 d),.os 24 (vs 24) 2 0 (i + 1)]) :: (23,.ara 36 2 [.r (i64 a.at_),.os (i + 600) (vs (i + 600)) 3 0 a.beds.length]) :: (24,.ara 36 2 (araG (lA l) vs (i + 1))) :: fam (famG (lA l)) (i + 1)
 else bif b 9 then (2,.box [.r (i64 0),.r .ns]) :: (3,.box [.r (i64 d),.os 24 (vs 24 - 1) 2 0 i]) :: (23,.ara 36 2 [.r (i64 a.at_),.os (i + 600) (vs (i + 600)) 3 0 a.beds.length]) :: (24,.ara 36 2 (araG (lA l) vs (i + 1))) :: fam (famG (lA l)) (i + 1)
 else bif b 8 then (2,.box [.r (i64 0),.r .ns]) :: (3,.box [.r (i64 d),.os 24 (vs 24) 2 0 i]) :: (23,.ara 36 2 [.r (i64 a.at_),.os (i + 600) (vs (i + 600)) 3 0 a.beds.length]) :: (24,.ara 36 2 (araG (lA l) vs i)) :: fam (famG (lA l)) (i + 1)
 else bif b 7 then (2,.box [.r (i64 0),.r .ns]) :: (3,.box [.r (i64 d),.os 24 (vs 24) 2 0 i]) :: (24,.ara 36 2 (araG (lA l) vs i)) :: fam (famG (lA l)) (i + 1)
 else (2,.box [.r (i64 0),.r .ns]) :: (3,.box [.r (i64 d),.os 24 (vs 24) 2 0 i]) :: (24,.ara 36 2 (araG (lA l) vs i)) :: fam (famG (lA l)) i
def owX (i : Nat) (vs : Nat → Nat) : AV:=if i = 0 then .r .ns else .os 24 (vs 24) 2 0 i
def owR (d : Int) (l : List Am) (i : Nat) (vs : Nat → Nat) : List (Nat × RowC):=(2,.box [.r (i64 0),.r .ns]) :: (3,.box [.r (i64 d),owX i vs]) :: (if i = 0 then [] else (24,.ara 36 2 (araG (lA l) vs i)) :: fam (famG (lA l)) i)
theorem araG_updN {A : Nat → Am} {n a : Nat} {v : Nat → Nat} : araG A (upd v (n + 600) a) n = araG A v n:=araG_congr fun j hj=>⟨by simp only [upd,if_neg (show ¬ j + 600 = n + 600 by omega)],rfl,rfl⟩
def owL (l : List Am) : List (Nat × RowC):=(24,.ara 36 2 (araG (lA l) (fun _=>0) l.length)) :: fam (famG (lA l)) l.length
theorem owL_pw (l : List Am) : (owL l).Pairwise fun x y=>x.1 < y.1:=List.pairwise_cons.2 ⟨fun x hx=>by have:=fam_keys hx; simp only; omega,fam_pw _⟩
theorem owL_lt {l : List Am} (hl : l.length ≤ 300) : ∀ x ∈ owL l,x.1 < 1000:=fun x hx=>by
 rcases List.mem_cons.1 hx with rfl | hx
 · show 24 < 1000; decide
 · have:=fam_keys hx; omega
theorem owL_has {l : List Am} (j : Nat) : hasKey (owL l) (j + 600) = decide (j < l.length):=by
 have h : hasKey (owL l) (j + 600) = ((24 == j + 600) || hasKey (fam (famG (lA l)) l.length) (j + 600)):=rfl
 have e : (24 == j + 600) = false:=by simp
 rw [h,e,hasKey_fam,Bool.false_or]
theorem owL_lend {ρ : List (Nat × Nat)} {A : Nat → Am} {vs : Nat → Nat} : ∀ {n : Nat},(∀ j,j < n → lendKey ρ (j + 600) = some (j + 600)) → lendL ρ vs (araG A vs n) = some (araG A (fun _=>0) n)
 | 0,_=>by simp only [araG,lendL]
 | n + 1, h => by
   refine lendL_append (owL_lend fun j hj=>h j (by omega)) ?_
   simp only [lendL,lendA,h n (by omega),if_true]
theorem owL_back {ρ : List (Nat × Nat)} {A : Nat → Am} {vs u : Nat → Nat} : ∀ {n : Nat},(∀ j,j < n → pinOf ρ (j + 600) = some (j + 600)) → backL ρ vs (araG A u n) = araG A vs n
 | 0,_=>by simp only [araG,backL]
 | n + 1, h => by
   simp only [araG]
   rw [backL_append,owL_back fun j hj=>h j (by omega)]
   simp only [backL,backA,h n (by omega)]
theorem own_new (d : Int) (l : List Am) (h0 : 1 ≤ l.length) (hl : l.length ≤ 300) (hb : ∀ a ∈ l,1 ≤ a.beds.length ∧ a.beds.length ≤ 1000) :
 NCalls Try.prog 15 [lawV d l] (owL l) (.ag [.r (i64 d),.os 24 0 2 0 l.length]):=by
 refine ncalls_st (n:=27) _ _ (.cell 2 24) Try.func15 rfl (by kernel_rfl) Try.ntmps15 rfl (by simp) (apart_idK (owL_pw l)) (by simpa using owL_lt hl) fun C hC=>?_
 repeat refine zq ?_
 refine zb (by kernel_rfl) fun K hK=>?_
 simp only [go_sem]
 (try simp (disch:=omega) only [zI])
 repeat first | intro _ | refine ⟨by omega,?_⟩ | refine ⟨⟨by omega,by omega⟩,?_⟩
 refine hK _ ?_
 clear hK K
 refine zw (sub_frzP 1 1 [i64 d,aimsR l] (by omega) rfl rfl) ?_
 refine zw (zk [1,2]) ?_
 simp only [go_sem]
 repeat refine zq ?_
 refine zb (by kernel_rfl) fun K hK=>?_
 simp only [go_sem]
 (try simp (disch:=omega) only [zI])
 repeat first | intro _ | refine ⟨by omega,?_⟩ | refine ⟨⟨by omega,by omega⟩,?_⟩
 refine hK _ ?_
 clear hK K
 refine zw (zk [1,2,3]) ?_
 simp only [go_sem]
 repeat refine zq ?_
 refine zb (by kernel_rfl) fun K hK=>?_
 simp only [go_sem]
 (try simp (disch:=omega) only [zI])
 repeat first | intro _ | refine ⟨by omega,?_⟩ | refine ⟨⟨by omega,by omega⟩,?_⟩
 refine hK _ ?_
 clear hK K
 refine zw (zk [1,2,3,4]) ?_
 simp only [go_sem]
 repeat refine zq ?_
 refine zd ?_
 refine awp_uptoV (n:=27) l.length (fun i vs=>[(1,.r (.rp [i64 d,aimsR l])),(2,.pt 2 (vs 2) 0),(3,.pt 3 (vs 3) 0),(4,.r (i64 (i : Int)))])
  (owR d l) (fun _=>True) 0 (zj [] ?_ ?_) (Nat.zero_le _) trivial ?_
 · try simp only [go_sem]
 · simp only [owR,owX,if_true]
   try simp only [go_sem]
 · intro i vs hi _
   repeat refine zq ?_
   refine zb (by kernel_rfl) fun K hK=>?_
   simp only [go_sem]
   (try simp (disch:=omega) only [zI])
   repeat first | intro _ | refine ⟨by omega,?_⟩ | refine ⟨⟨by omega,by omega⟩,?_⟩
   refine hK _ ?_
   clear hK K
   refine zw (zk [1,2,3,4,12]) ?_
   simp only [go_sem]
   repeat refine zq ?_
   refine zc rfl (fun hc=>?_) (fun hc=>?_) <;> (try simp only [go_sem] at hc)
   · have hci : i < l.length:=by omega
     obtain ⟨a,hx⟩:=opt_of_lt hci
     have ha:=hb a (mem_of_opt hx)
     have hnew:=aim_new a ha.1 ha.2
     have hla : lA l i = a:=by unfold lA; rw [List.getD_eq_getElem?_getD,hx]; rfl
     refine zx ?_
     try simp only [go_sem]
     repeat refine zq ?_
     refine zd ?_
     rcases Nat.eq_zero_or_pos i with hz | hz
     · subst hz
       simp only [owR,owX,if_true]
       repeat refine zq ?_
       refine awp_invL (n:=27) (ow0F d l a 0) (ow0R d l a 0) follows (by kernel_rfl) (by kernel_rfl) (by decide +kernel) (zj [] ?_ ?_) ?_ ?_
       · simp only [go_sem,ow0F,vI,if_true,if_false,Bool.false_eq_true]
       · simp only [go_sem,ow0R,cond_false,List.cons_append,List.nil_append,fam]
       · refine ⟨fun b vs hdn hbk hde=>.inl ?_,fun b vs hdn hbk hde=>.inl ?_,fun b vs hdn hbk hde=>.inl ?_,fun b vs hdn hbk hde=>.inl ?_,fun b vs hdn hbk hde=>.inl ?_,fun b vs hdn hbk hde=>.inl ?_,fun b vs hdn hbk hde=>.inl ?_,fun b vs hdn hbk hde=>.inl ?_,fun b vs hdn hbk hde=>.inr (.inl ?_),fun b vs hdn hbk hde=>.inr (.inr ?_),fun b vs hdn hbk hde=>.inl ?_,fun b vs hdn hbk hde=>.inl ?_,trivial⟩
         · skip
           have G:=dnT hdn hbk [1,10,11,9] (by decide +kernel)
           simp only [allB,and_true] at G
           cases g7 : b 7 <;> cases g8 : b 8
           all_goals (simp only [go_sem,ow0F,ow0R,upd,vI,cond_true,cond_false,if_true,Bool.false_eq_true,if_false,hbk,G,g7,g8,hx,hci,aimR,fam,famG,hla,araG,List.nil_append,List.append_nil])
           all_goals (refine zj [] ?_ ?_ <;> (simp only [go_sem,ow0F,ow0R,upd,vI,cond_true,cond_false,if_true,Bool.false_eq_true,if_false,hbk,G,g7,g8,hx,hci,aimR,fam,famG,hla,araG,List.nil_append,List.append_nil]))
         · skip
           have H:=upT hdn hde [0] (by decide +kernel)
           have G:=dnT hdn hbk [9,10,11] (by decide +kernel)
           simp only [allB,and_true] at H G
           cases g7 : b 7 <;> cases g8 : b 8
           all_goals (simp only [go_sem,ow0F,ow0R,upd,vI,cond_true,cond_false,if_true,Bool.false_eq_true,if_false,hbk,H,G,g7,g8,hx,hci,aimR,fam,famG,hla,araG,List.nil_append,List.append_nil])
           all_goals (refine zj [] ?_ ?_ <;> (simp only [go_sem,ow0F,ow0R,upd,vI,cond_true,cond_false,if_true,Bool.false_eq_true,if_false,hbk,H,G,g7,g8,hx,hci,aimR,fam,famG,hla,araG,List.nil_append,List.append_nil]))
         · skip
           have G:=dnT hdn hbk [3,10,11,5,6,7,8,9] (by decide +kernel)
           simp only [allB,and_true] at G
           (simp only [go_sem,ow0F,ow0R,upd,vI,cond_true,cond_false,if_true,Bool.false_eq_true,if_false,hbk,G,hx,hci,aimR,fam,famG,hla,araG,List.nil_append,List.append_nil])
           all_goals (refine zj [] ?_ ?_ <;> (simp only [go_sem,ow0F,ow0R,upd,vI,cond_true,cond_false,if_true,Bool.false_eq_true,if_false,hbk,G,hx,hci,aimR,fam,famG,hla,araG,List.nil_append,List.append_nil]))
         · skip
           have H:=upT hdn hde [2] (by decide +kernel)
           have G:=dnT hdn hbk [5,10,11,6,7,8,9] (by decide +kernel)
           simp only [allB,and_true] at H G
           (simp only [go_sem,ow0F,ow0R,upd,vI,cond_true,cond_false,if_true,Bool.false_eq_true,if_false,hbk,H,G,hx,hci,aimR,fam,famG,hla,araG,List.nil_append,List.append_nil])
           all_goals (refine zj [] ?_ ?_ <;> (simp only [go_sem,ow0F,ow0R,upd,vI,cond_true,cond_false,if_true,Bool.false_eq_true,if_false,hbk,H,G,hx,hci,aimR,fam,famG,hla,araG,List.nil_append,List.append_nil]))
         · skip
           have G:=dnT hdn hbk [5,10,11,6,7,8,9] (by decide +kernel)
           simp only [allB,and_true] at G
           (simp only [go_sem,ow0F,ow0R,upd,vI,cond_true,cond_false,if_true,Bool.false_eq_true,if_false,hbk,G,hx,hci,aimR,fam,famG,hla,araG,List.nil_append,List.append_nil])
           all_goals (refine zj [] ?_ ?_ <;> (simp only [go_sem,ow0F,ow0R,upd,vI,cond_true,cond_false,if_true,Bool.false_eq_true,if_false,hbk,G,hx,hci,aimR,fam,famG,hla,araG,List.nil_append,List.append_nil]))
         · skip
           have H:=upT hdn hde [3,4,2] (by decide +kernel)
           have G:=dnT hdn hbk [6,10,11,7,8,9] (by decide +kernel)
           simp only [allB,and_true] at H G
           (simp only [go_sem,ow0F,ow0R,upd,vI,cond_true,cond_false,if_true,Bool.false_eq_true,if_false,hbk,H,G,hx,hci,aimR,fam,famG,hla,araG,List.nil_append,List.append_nil])
           all_goals refine ⟨by omega,?_⟩
           all_goals (refine zj [] ?_ ?_ <;> (simp only [go_sem,ow0F,ow0R,upd,vI,cond_true,cond_false,if_true,Bool.false_eq_true,if_false,hbk,H,G,hx,hci,aimR,fam,famG,hla,araG,List.nil_append,List.append_nil]))
         · skip
           have H:=upT hdn hde [5,3,4,2] (by decide +kernel)
           have G:=dnT hdn hbk [7,10,11,8,9] (by decide +kernel)
           simp only [allB,and_true] at H G
           (simp only [go_sem,ow0F,ow0R,upd,vI,cond_true,cond_false,if_true,Bool.false_eq_true,if_false,hbk,H,G,hx,hci,aimR,fam,famG,hla,araG,List.nil_append,List.append_nil])
           all_goals (refine zj [] ?_ ?_ <;> (simp only [go_sem,ow0F,ow0R,upd,vI,cond_true,cond_false,if_true,Bool.false_eq_true,if_false,hbk,H,G,hx,hci,aimR,fam,famG,hla,araG,List.nil_append,List.append_nil]))
         · skip
           have H:=upT hdn hde [6,5,3,4,2] (by decide +kernel)
           have G:=dnT hdn hbk [8,9,10,11] (by decide +kernel)
           simp only [allB,and_true] at H G
           (simp only [go_sem,ow0F,ow0R,upd,vI,cond_true,cond_false,if_true,Bool.false_eq_true,if_false,hbk,H,G,hx,hci,aimR,fam,famG,hla,araG,List.nil_append,List.append_nil])
           all_goals (refine xcall_new hnew [(8,600)] rfl (by rfl) (by rfl) (by rfl) (by rfl) (by first | rfl | (simp [smallK]; omega)) ?_; simp only [go_sem,idK,backA,backC,backL,pinOf,lendKey,hx,hci,aimR,fam,famG,hla,araG,List.nil_append,List.append_nil])
           all_goals (refine zj [] ?_ ?_ <;> (simp only [go_sem,ow0F,ow0R,upd,vI,cond_true,cond_false,if_true,Bool.false_eq_true,if_false,hbk,H,G,hx,hci,aimR,fam,famG,hla,araG,List.nil_append,List.append_nil]))
         · skip
           have H:=upT hdn hde [7,6,5,3,4,2] (by decide +kernel)
           have G:=dnT hdn hbk [9,10,11] (by decide +kernel)
           simp only [allB,and_true] at H G
           (simp only [go_sem,ow0F,ow0R,upd,vI,cond_true,cond_false,if_true,Bool.false_eq_true,if_false,hbk,H,G,hx,hci,aimR,fam,famG,hla,araG,List.nil_append,List.append_nil,xlit,sLitBox,lay,List.replicate_succ,List.replicate_zero,List.flatten_cons,List.flatten_nil,List.map_cons,List.map_nil,List.cons_append,List.nil_append])
           all_goals (refine zj [] ?_ ?_ <;> (simp only [go_sem,ow0F,ow0R,upd,vI,cond_true,cond_false,if_true,Bool.false_eq_true,if_false,hbk,H,G,hx,hci,aimR,fam,famG,hla,araG,List.nil_append,List.append_nil]))
         · skip
           have H:=upT hdn hde [1,7,8,0,6,5,3,4,2] (by decide +kernel)
           have G:=dnT hdn hbk [10,11] (by decide +kernel)
           simp only [allB,and_true] at H G
           (simp only [go_sem,ow0F,ow0R,upd,vI,cond_true,cond_false,if_true,Bool.false_eq_true,if_false,hbk,H,G,hx,hci,aimR,fam,famG,hla,araG,List.nil_append,List.append_nil,xappB,sAppB,List.length_cons,List.length_nil,decide_true])
           all_goals (refine zj [] ?_ ?_ <;> (simp only [go_sem,ow0F,ow0R,upd,vI,cond_true,cond_false,if_true,Bool.false_eq_true,if_false,hbk,H,G,hx,hci,aimR,fam,famG,hla,araG,List.nil_append,List.append_nil]))
         · skip
           have H:=upT hdn hde [0,1,2,3,4,5,6,7,8,9] (by decide +kernel)
           have G:=dnT hdn hbk [11] (by decide +kernel)
           simp only [allB,and_true] at H G
           (simp only [go_sem,ow0F,ow0R,upd,vI,cond_true,cond_false,if_true,Bool.false_eq_true,if_false,hbk,H,G,hx,hci,aimR,fam,famG,hla,araG,List.nil_append,List.append_nil])
           all_goals (refine zj [] ?_ ?_ <;> (simp only [go_sem,ow0F,ow0R,upd,vI,cond_true,cond_false,if_true,Bool.false_eq_true,if_false,hbk,H,G,hx,hci,aimR,fam,famG,hla,araG,List.nil_append,List.append_nil]))
         · skip
           have H:=upT hdn hde [0,1,2,3,4,5,6,7,8,9,9,9,10] (by decide +kernel)
           simp only [allB,and_true] at H
           (simp only [go_sem,ow0F,ow0R,upd,vI,cond_true,cond_false,if_true,Bool.false_eq_true,if_false,hbk,H,hx,hci,aimR,fam,famG,hla,araG,List.nil_append,List.append_nil])
           all_goals (refine zj [] ?_ ?_ <;> (simp only [go_sem,ow0F,ow0R,upd,vI,cond_true,cond_false,if_true,Bool.false_eq_true,if_false,hbk,H,hx,hci,aimR,fam,famG,hla,araG,List.nil_append,List.append_nil]))
       intro b vs hb
       simp only [go_sem,ow0F,ow0R,vI,hb,if_true,cond_true,List.cons_append,List.nil_append]
       have dl : ∀ (F : Nat → RowC) n k,k < 600 → delc (fam F n) k = fam F n:=fun F n k h=>delc_fam_lt h
       refine zw (zk [1,2,3,4]) ?_
       simp only [go_sem]
       repeat refine zq ?_
       refine zb (by kernel_rfl) fun K hK=>?_
       simp only [go_sem]
       (try simp (disch:=omega) only [zI])
       repeat first | intro _ | refine ⟨by omega,?_⟩ | refine ⟨⟨by omega,by omega⟩,?_⟩
       refine hK _ ?_
       clear hK K
       try simp only [go_sem]
       refine ⟨by omega,zj [23] ?_ ?_⟩
       · try simp only [go_sem]
       · simp only [owR,owX,if_neg (show ¬ 0 + 1 = 0 by omega),go_sem,dl]
         try rfl
     · have hi0 : ¬ i = 0:=by omega
       simp only [owR,owX,if_neg hi0]
       have acl : ∀ v,(araG (lA l) v i).length = i * 2:=fun v=>araG_len
       have ag1 : ∀ v k a n,k < 600 → araG (lA l) (upd v k a) n = araG (lA l) v n:=fun v k a n h=>araG_upd h
       have ag2 : ∀ v a,araG (lA l) (upd v (i + 600) a) i = araG (lA l) v i:=fun v a=>araG_updN
       have hnl : ∀ a,a ≤ 600 → (i + 600 < a) = False:=fun a h=>by simp only [eq_iff_iff,iff_false]; omega
       have hfi : insc (fam (famG (lA l)) i) (i + 600) (.arr 67 3 (a.beds.map bedR)) = fam (famG (lA l)) (i + 1):=by
        rw [insc_fam_new]
        congr 1
        have : famG (lA l) i = .arr 67 3 (a.beds.map bedR):=by unfold famG; rw [hla]
        rw [← this,upd_self]
       repeat refine zq ?_
       refine awp_invL (n:=27) (ow1F d l a i) (ow1R d l a i) follows (by kernel_rfl) (by kernel_rfl) (by decide +kernel) (zj [] ?_ ?_) ?_ ?_
       · simp only [go_sem,ow1F,vI,if_true,if_false,Bool.false_eq_true]
       · simp only [go_sem,ow1R,cond_false,List.cons_append,List.nil_append,fam]
       · refine ⟨fun b vs hdn hbk hde=>.inl ?_,fun b vs hdn hbk hde=>.inl ?_,fun b vs hdn hbk hde=>.inl ?_,fun b vs hdn hbk hde=>.inl ?_,fun b vs hdn hbk hde=>.inl ?_,fun b vs hdn hbk hde=>.inl ?_,fun b vs hdn hbk hde=>.inl ?_,fun b vs hdn hbk hde=>.inl ?_,fun b vs hdn hbk hde=>.inr (.inl ?_),fun b vs hdn hbk hde=>.inr (.inr ?_),fun b vs hdn hbk hde=>.inl ?_,fun b vs hdn hbk hde=>.inl ?_,trivial⟩
         · skip
           have G:=dnT hdn hbk [1,10,11,9] (by decide +kernel)
           simp only [allB,and_true] at G
           cases g7 : b 7 <;> cases g8 : b 8
           all_goals (simp only [go_sem,ow1F,ow1R,upd,vI,cond_true,cond_false,if_true,Bool.false_eq_true,if_false,hbk,G,g7,g8,hx,hci,aimR,hla,araG,acl,hfi,hnl,ag1,ag2,Nat.reduceLeDiff,Nat.reduceLT,Nat.add_sub_cancel])
           all_goals (refine zj [] ?_ ?_ <;> (simp only [go_sem,ow1F,ow1R,upd,vI,cond_true,cond_false,if_true,Bool.false_eq_true,if_false,hbk,G,g7,g8,hx,hci,aimR,hla,araG,acl,hfi,hnl,ag1,ag2,Nat.reduceLeDiff,Nat.reduceLT,Nat.add_sub_cancel]))
         · skip
           have H:=upT hdn hde [0] (by decide +kernel)
           have G:=dnT hdn hbk [9,10,11] (by decide +kernel)
           simp only [allB,and_true] at H G
           cases g7 : b 7 <;> cases g8 : b 8
           all_goals (simp only [go_sem,ow1F,ow1R,upd,vI,cond_true,cond_false,if_true,Bool.false_eq_true,if_false,hbk,H,G,g7,g8,hx,hci,aimR,hla,araG,acl,hfi,hnl,ag1,ag2,Nat.reduceLeDiff,Nat.reduceLT,Nat.add_sub_cancel])
           all_goals (refine zj [] ?_ ?_ <;> (simp only [go_sem,ow1F,ow1R,upd,vI,cond_true,cond_false,if_true,Bool.false_eq_true,if_false,hbk,H,G,g7,g8,hx,hci,aimR,hla,araG,acl,hfi,hnl,ag1,ag2,Nat.reduceLeDiff,Nat.reduceLT,Nat.add_sub_cancel]))
         · skip
           have G:=dnT hdn hbk [3,10,11,5,6,7,8,9] (by decide +kernel)
           simp only [allB,and_true] at G
           (simp only [go_sem,ow1F,ow1R,upd,vI,cond_true,cond_false,if_true,Bool.false_eq_true,if_false,hbk,G,hx,hci,aimR,hla,araG,acl,hfi,hnl,ag1,ag2,Nat.reduceLeDiff,Nat.reduceLT,Nat.add_sub_cancel])
           all_goals (refine zj [] ?_ ?_ <;> (simp only [go_sem,ow1F,ow1R,upd,vI,cond_true,cond_false,if_true,Bool.false_eq_true,if_false,hbk,G,hx,hci,aimR,hla,araG,acl,hfi,hnl,ag1,ag2,Nat.reduceLeDiff,Nat.reduceLT,Nat.add_sub_cancel]))
         · skip
           have H:=upT hdn hde [2] (by decide +kernel)
           have G:=dnT hdn hbk [5,10,11,6,7,8,9] (by decide +kernel)
           simp only [allB,and_true] at H G
           (simp only [go_sem,ow1F,ow1R,upd,vI,cond_true,cond_false,if_true,Bool.false_eq_true,if_false,hbk,H,G,hx,hci,aimR,hla,araG,acl,hfi,hnl,ag1,ag2,Nat.reduceLeDiff,Nat.reduceLT,Nat.add_sub_cancel])
           all_goals (refine zj [] ?_ ?_ <;> (simp only [go_sem,ow1F,ow1R,upd,vI,cond_true,cond_false,if_true,Bool.false_eq_true,if_false,hbk,H,G,hx,hci,aimR,hla,araG,acl,hfi,hnl,ag1,ag2,Nat.reduceLeDiff,Nat.reduceLT,Nat.add_sub_cancel]))
         · skip
           have G:=dnT hdn hbk [5,10,11,6,7,8,9] (by decide +kernel)
           simp only [allB,and_true] at G
           (simp only [go_sem,ow1F,ow1R,upd,vI,cond_true,cond_false,if_true,Bool.false_eq_true,if_false,hbk,G,hx,hci,aimR,hla,araG,acl,hfi,hnl,ag1,ag2,Nat.reduceLeDiff,Nat.reduceLT,Nat.add_sub_cancel])
           all_goals (refine zj [] ?_ ?_ <;> (simp only [go_sem,ow1F,ow1R,upd,vI,cond_true,cond_false,if_true,Bool.false_eq_true,if_false,hbk,G,hx,hci,aimR,hla,araG,acl,hfi,hnl,ag1,ag2,Nat.reduceLeDiff,Nat.reduceLT,Nat.add_sub_cancel]))
         · skip
           have H:=upT hdn hde [3,4,2] (by decide +kernel)
           have G:=dnT hdn hbk [6,10,11,7,8,9] (by decide +kernel)
           simp only [allB,and_true] at H G
           (simp only [go_sem,ow1F,ow1R,upd,vI,cond_true,cond_false,if_true,Bool.false_eq_true,if_false,hbk,H,G,hx,hci,aimR,hla,araG,acl,hfi,hnl,ag1,ag2,Nat.reduceLeDiff,Nat.reduceLT,Nat.add_sub_cancel])
           all_goals (refine zj [] ?_ ?_ <;> (simp only [go_sem,ow1F,ow1R,upd,vI,cond_true,cond_false,if_true,Bool.false_eq_true,if_false,hbk,H,G,hx,hci,aimR,hla,araG,acl,hfi,hnl,ag1,ag2,Nat.reduceLeDiff,Nat.reduceLT,Nat.add_sub_cancel]))
         · skip
           have H:=upT hdn hde [5,3,4,2] (by decide +kernel)
           have G:=dnT hdn hbk [7,10,11,8,9] (by decide +kernel)
           simp only [allB,and_true] at H G
           (simp only [go_sem,ow1F,ow1R,upd,vI,cond_true,cond_false,if_true,Bool.false_eq_true,if_false,hbk,H,G,hx,hci,aimR,hla,araG,acl,hfi,hnl,ag1,ag2,Nat.reduceLeDiff,Nat.reduceLT,Nat.add_sub_cancel])
           all_goals (refine zj [] ?_ ?_ <;> (simp only [go_sem,ow1F,ow1R,upd,vI,cond_true,cond_false,if_true,Bool.false_eq_true,if_false,hbk,H,G,hx,hci,aimR,hla,araG,acl,hfi,hnl,ag1,ag2,Nat.reduceLeDiff,Nat.reduceLT,Nat.add_sub_cancel]))
         · skip
           have H:=upT hdn hde [6,5,3,4,2] (by decide +kernel)
           have G:=dnT hdn hbk [8,9,10,11] (by decide +kernel)
           simp only [allB,and_true] at H G
           (simp only [go_sem,ow1F,ow1R,upd,vI,cond_true,cond_false,if_true,Bool.false_eq_true,if_false,hbk,H,G,hx,hci,aimR,hla,araG,acl,hfi,hnl,ag1,ag2,Nat.reduceLeDiff,Nat.reduceLT,Nat.add_sub_cancel])
           all_goals (refine xcall_new hnew [(8,i + 600)] rfl (by rfl) (by rfl) (by rfl) (by rfl) (by first | rfl | (simp [smallK]; omega)) ?_; simp only [go_sem,idK,backA,backC,backL,pinOf,lendKey,hx,hci,aimR,hla,araG,acl,hfi,hnl,ag1,ag2,Nat.reduceLeDiff,Nat.reduceLT,Nat.add_sub_cancel])
           all_goals (refine zj [] ?_ ?_ <;> (simp only [go_sem,ow1F,ow1R,upd,vI,cond_true,cond_false,if_true,Bool.false_eq_true,if_false,hbk,H,G,hx,hci,aimR,hla,araG,acl,hfi,hnl,ag1,ag2,Nat.reduceLeDiff,Nat.reduceLT,Nat.add_sub_cancel]))
         · skip
           have H:=upT hdn hde [7,6,5,3,4,2] (by decide +kernel)
           have G:=dnT hdn hbk [9,10,11] (by decide +kernel)
           simp only [allB,and_true] at H G
           (simp only [go_sem,ow1F,ow1R,upd,vI,cond_true,cond_false,if_true,Bool.false_eq_true,if_false,hbk,H,G,hx,hci,aimR,hla,araG,acl,hfi,hnl,ag1,ag2,Nat.reduceLeDiff,Nat.reduceLT,Nat.add_sub_cancel,xlit,sLitBox,lay,List.replicate_succ,List.replicate_zero,List.flatten_cons,List.flatten_nil,List.map_cons,List.map_nil,List.cons_append,List.nil_append])
           all_goals (refine zj [] ?_ ?_ <;> (simp only [go_sem,ow1F,ow1R,upd,vI,cond_true,cond_false,if_true,Bool.false_eq_true,if_false,hbk,H,G,hx,hci,aimR,hla,araG,acl,hfi,hnl,ag1,ag2,Nat.reduceLeDiff,Nat.reduceLT,Nat.add_sub_cancel]))
         · skip
           have H:=upT hdn hde [1,7,8,0,6,5,3,4,2] (by decide +kernel)
           have G:=dnT hdn hbk [10,11] (by decide +kernel)
           simp only [allB,and_true] at H G
           (simp only [go_sem,ow1F,ow1R,upd,vI,cond_true,cond_false,if_true,Bool.false_eq_true,if_false,hbk,H,G,hx,hci,aimR,hla,araG,acl,hfi,hnl,ag1,ag2,Nat.reduceLeDiff,Nat.reduceLT,Nat.add_sub_cancel,xappB,sAppB,List.length_cons,List.length_nil,decide_true])
           all_goals refine ⟨⟨by omega,by omega,by omega⟩,?_⟩
           all_goals (refine zj [] ?_ ?_ <;> (simp only [go_sem,ow1F,ow1R,upd,vI,cond_true,cond_false,if_true,Bool.false_eq_true,if_false,hbk,H,G,hx,hci,aimR,hla,araG,acl,hfi,hnl,ag1,ag2,Nat.reduceLeDiff,Nat.reduceLT,Nat.add_sub_cancel]))
         · skip
           have H:=upT hdn hde [0,1,2,3,4,5,6,7,8,9] (by decide +kernel)
           have G:=dnT hdn hbk [11] (by decide +kernel)
           simp only [allB,and_true] at H G
           (simp only [go_sem,ow1F,ow1R,upd,vI,cond_true,cond_false,if_true,Bool.false_eq_true,if_false,hbk,H,G,hx,hci,aimR,hla,araG,acl,hfi,hnl,ag1,ag2,Nat.reduceLeDiff,Nat.reduceLT,Nat.add_sub_cancel])
           all_goals (refine zj [] ?_ ?_ <;> (simp only [go_sem,ow1F,ow1R,upd,vI,cond_true,cond_false,if_true,Bool.false_eq_true,if_false,hbk,H,G,hx,hci,aimR,hla,araG,acl,hfi,hnl,ag1,ag2,Nat.reduceLeDiff,Nat.reduceLT,Nat.add_sub_cancel]))
         · skip
           have H:=upT hdn hde [0,1,2,3,4,5,6,7,8,9,9,9,10] (by decide +kernel)
           simp only [allB,and_true] at H
           (simp only [go_sem,ow1F,ow1R,upd,vI,cond_true,cond_false,if_true,Bool.false_eq_true,if_false,hbk,H,hx,hci,aimR,hla,araG,acl,hfi,hnl,ag1,ag2,Nat.reduceLeDiff,Nat.reduceLT,Nat.add_sub_cancel])
           all_goals (refine zj [] ?_ ?_ <;> (simp only [go_sem,ow1F,ow1R,upd,vI,cond_true,cond_false,if_true,Bool.false_eq_true,if_false,hbk,H,hx,hci,aimR,hla,araG,acl,hfi,hnl,ag1,ag2,Nat.reduceLeDiff,Nat.reduceLT,Nat.add_sub_cancel]))
       intro b vs hb
       simp only [go_sem,ow1F,ow1R,vI,hb,if_true,cond_true,List.cons_append,List.nil_append]
       have dl : ∀ (F : Nat → RowC) n k,k < 600 → delc (fam F n) k = fam F n:=fun F n k h=>delc_fam_lt h
       refine zw (zk [1,2,3,4]) ?_
       simp only [go_sem]
       repeat refine zq ?_
       refine zb (by kernel_rfl) fun K hK=>?_
       simp only [go_sem]
       (try simp (disch:=omega) only [zI])
       repeat first | intro _ | refine ⟨by omega,?_⟩ | refine ⟨⟨by omega,by omega⟩,?_⟩
       refine hK _ ?_
       clear hK K
       try simp only [go_sem]
       refine ⟨by omega,zj [23] ?_ ?_⟩
       · try simp only [go_sem]
       · simp only [owR,owX,if_neg (show ¬ i + 1 = 0 by omega),go_sem,dl,ag1,Nat.reduceLT]
         try rfl
   · have hie : i = l.length:=by omega
     subst hie
     simp only [owR,owX,if_neg (show ¬ l.length = 0 by omega)]
     refine zf ?_
     simp only [go_sem]
     refine zw (zk [2,3]) ?_
     simp only [go_sem]
     repeat refine zq ?_
     refine zb (by kernel_rfl) fun K hK=>?_
     simp only [go_sem]
     (try simp (disch:=omega) only [zI])
     repeat first | intro _ | refine ⟨by omega,?_⟩ | refine ⟨⟨by omega,by omega⟩,?_⟩
     refine hK _ ?_
     clear hK K
     refine zw (zk [2]) ?_
     simp only [go_sem]
     refine ze ?_
     have hl24 : lendKey (idK (owL l)) 24 = some 24:=by rw [lendKey_idK,pinOf_idK]; rfl
     have hlj : ∀ j,j < l.length → lendKey (idK (owL l)) (j + 600) = some (j + 600):=fun j hj=>by rw [lendKey_idK,pinOf_idK,owL_has,decide_eq_true hj]; rfl
     refine ⟨by simp only [resA,go_sem]; trivial,?_,lendOk_idK fun x hx=>?_⟩
     · generalize idK (owL l) = J at hl24 ⊢
       simp only [resA,go_sem]
       show lendA J vs (.ag [.r (i64 d),.os 24 (vs 24) 2 0 l.length]) = _
       simp only [lendA,lendL,hl24,if_true]
     · have hpl:=owL_lend (A:=lA l) (vs:=vs) (n:=l.length) hlj
       rcases List.mem_cons.1 hx with rfl | hx
       · show lendC _ vs (lookc _ 24) = _
         generalize idK (owL l) = J at hpl ⊢
         simp only [go_sem,lendC,hpl]
       · obtain ⟨j,hj,rfl⟩:=fam_mem_iff.1 hx
         show lendC _ vs (lookc _ (j + 600)) = _
         rw [lookc_cons,if_neg (by omega),lookc_cons,if_neg (by omega),lookc_cons,if_neg (by omega),lookc_fam hj]
         rfl
theorem owL_new (l : List Am) (vs : Nat → Nat) {cs : List (Nat × RowC)} (hc : ∀ x ∈ cs,x.1 < 24) :
 newCs (idK (owL l)) vs (owL l) (idK (owL l)) cs = cs ++ (24,.ara 36 2 (araG (lA l) vs l.length)) :: fam (famG (lA l)) l.length:=by
 have hp24 : pinOf (idK (owL l)) 24 = some 24:=by rw [pinOf_idK]; rfl
 have hpj : ∀ j,j < l.length → pinOf (idK (owL l)) (j + 600) = some (j + 600):=fun j hj=>by rw [pinOf_idK,owL_has,decide_eq_true hj]; rfl
 have h0 : idK (owL l) = (24,24) :: idK (fam (famG (lA l)) l.length):=rfl
 have hb : ∀ (c : RowC),lookc (owL l) 24 = .ara 36 2 (araG (lA l) (fun _=>0) l.length):=fun _=>rfl
 have e1 : newCs (idK (owL l)) vs (owL l) (idK (owL l)) cs = newCs (idK (owL l)) vs (owL l) (idK (fam (famG (lA l)) l.length)) (insc cs 24 (backC (idK (owL l)) vs (lookc (owL l) 24))):=by
  conv=>lhs; arg 4; rw [h0]
  rfl
 rw [e1,newCs_fam fun x hx=>?_,insc_app_gt (fun x hx=>hc x hx),List.append_assoc]
 · congr 1
   rw [hb .dead]
   simp only [backC]
   rw [owL_back hpj]
   simp only [List.cons_append,List.nil_append]
   congr 1
   refine fam_congr fun j hj=>?_
   have : lookc (owL l) (j + 600) = famG (lA l) j:=by
    unfold owL
    rw [lookc_cons,if_neg (by omega),lookc_fam hj]
   rw [this]; rfl
 · rw [insc_app_gt (fun x hx=>hc x hx)] at hx
   rcases List.mem_append.1 hx with hx | hx
   · have:=hc x hx; omega
   · rw [List.mem_singleton] at hx; subst hx; show 24 < 600; decide
theorem own_call {n : Nat} {L : List (Nat × AV)} {vs : Nat → Nat} {cs : List (Nat × RowC)} {d : Int} {l : List Am} {dst : Option Nat} {K : AS → Prop} (h0 : 1 ≤ l.length) (hl : l.length ≤ 300) (hb : ∀ a ∈ l,1 ≤ a.beds.length ∧ a.beds.length ≤ 1000) (hc : ∀ x ∈ cs,x.1 < 24)
 (hK : ∀ vs',(∀ k,k < 24 → vs' k = vs k) → K (AS.put (st n L vs' (cs ++ (24,.ara 36 2 (araG (lA l) vs' l.length)) :: fam (famG (lA l)) l.length)) dst (.ag [.r (i64 d),.os 24 (vs' 24) 2 0 l.length]))) : xcall Try.prog false (st n L vs cs) dst (.r (.fn 15 [])) [.r (lawV d l)] K:=by
 refine xcall_new (own_new d l h0 hl hb) (idK (owL l)) rfl (by rfl) (by rfl) (apart_idK (owL_pw l)) (sameKeysN_idK fun x hx=>?_) (smallK_idK (owL_lt hl)) ?_
 · rcases List.mem_cons.1 hx with rfl | hx
   · rfl
   · obtain ⟨j,hj,rfl⟩:=fam_mem_iff.1 hx; rfl
 · have hp24 : pinOf (idK (owL l)) 24 = some 24:=by rw [pinOf_idK]; rfl
   have hvk : ∀ k,k < 24 → newVs vs (idK (owL l)) k = vs k:=fun k hk=>by
    rw [newVs_idK (owL_pw l),if_neg]
    rw [hasKey_false_of fun x hx=>?_]
    · simp
    · rcases List.mem_cons.1 hx with rfl | hx
      · simp only; omega
      · have:=fam_keys hx; omega
   generalize newVs vs (idK (owL l)) = vs' at hvk ⊢
   rw [owL_new l vs' hc]
   have e : backA (idK (owL l)) vs' (.ag [.r (i64 d),.os 24 0 2 0 l.length]) = .ag [.r (i64 d),.os 24 (vs' 24) 2 0 l.length]:=by
    simp only [backA,backL,hp24]
   rw [e]
   exact hK vs' hvk
theorem frz_law {n : Nat} {l : List (Nat × AV)} {κ q : Nat} {A F : Nat → Am} {c5 : RowC} (h1 : q < κ) (h2 : κ < 600) : ∀ m,m ≤ 300 → (∀ j,j < m → (F j).beds.length = (A j).beds.length) → ∀ (vs : Nat → Nat) (plain : List AV),
 ∃ vs',(∀ k,k < 600 → vs' k = vs k) ∧ Sub (st n l vs ((q,c5) :: (κ,.ara 36 2 (araG A vs m ++ plain)) :: fam (famG F) m)) (st n l vs' ((q,c5) :: (κ,.ara 36 2 (plF A F m ++ plain)) :: []))
 | 0,_,_,vs,plain=>⟨vs,fun _ _=>rfl,Sub.refl _⟩
 | m + 1, hm, hl, vs, plain => by
   have hlm:=hl m (by omega)
   have hcell : (araG A vs (m + 1) ++ plain)[m * 2 + 1]? = some (.os (m + 600) (vs (m + 600)) 3 0 (A m).beds.length):=by
    rw [List.getElem?_append_left (by rw [araG_len]; omega),araG_at (by omega)]
   have hk5 : ¬ m + 600 = q:=by omega
   have hkκ : ¬ m + 600 = κ:=by omega
   have s1:=sub_frzBA (n:=n) (l:=l) (vs:=vs) (cs:=(q,c5) :: (κ,.ara 36 2 (araG A vs (m + 1) ++ plain)) :: fam (famG F) (m + 1)) κ (m * 2 + 1) (m + 600) (tb:=36) (sb:=2) (cells:=araG A vs (m + 1) ++ plain) (sz:=3) (off:=0) (m:=(A m).beds.length) (ty:=67) (es:=(F m).beds.map bedR) (by omega) (by omega)
    (by simp only [lookc_cons,if_neg (show ¬ κ = q by omega),if_true]) hcell
    (by simp only [lookc_cons,if_neg hk5,if_neg hkκ]; exact lookc_fam (by omega)) (by simp [hlm])
   have e1 : delc ((q,c5) :: (κ,RowC.ara 36 2 (araG A vs (m + 1) ++ plain)) :: fam (famG F) (m + 1)) (m + 600) = (q,c5) :: (κ,RowC.ara 36 2 (araG A vs (m + 1) ++ plain)) :: fam (famG F) m:=by
    simp only [delc,if_neg hk5,if_neg hkκ,delc_fam_last]
   have e2 : ∀ c,insc ((q,c5) :: (κ,RowC.ara 36 2 (araG A vs (m + 1) ++ plain)) :: fam (famG F) m) κ c = (q,c5) :: (κ,c) :: fam (famG F) m:=fun c=>by
    simp only [insc,if_neg (show ¬ κ = q by omega),if_neg (show ¬ κ < q by omega),if_true]
   have e3 : (((F m).beds.map bedR).drop 0).take (A m).beds.length = (F m).beds.map bedR:=by
    rw [List.drop_zero,List.take_of_length_le (by simp [hlm])]
   have e4 : ∀ x,(araG A vs (m + 1) ++ plain).set (m * 2 + 1) x = araG A vs m ++ ([.r (i64 (A m).at_),x] ++ plain):=fun x=>by
    simp only [araG,List.append_assoc]
    rw [List.set_append_right _ _ (by rw [araG_len]; omega),araG_len,show m * 2 + 1 - m * 2 = 1 by omega]
    rfl
   have e5 : araG A vs m = araG A (upd vs (m + 600) (vs (m + 600) + 1)) m:=araG_congr fun j hj=>⟨by unfold upd; rw [if_neg (by omega)],rfl,rfl⟩
   rw [e1,e2,e3,e4,e5] at s1
   obtain ⟨vs',g1,g2⟩:=frz_law h1 h2 m (by omega) (fun j hj=>hl j (by omega)) (upd vs (m + 600) (vs (m + 600) + 1)) ([.r (i64 (A m).at_),.r (.sl 3 ((F m).beds.map bedR))] ++ plain)
   refine ⟨vs',fun k hk=>?_,s1.trans ?_⟩
   · rw [g1 k hk]; unfold upd; rw [if_neg (by omega)]
   · have e6 : plF A F (m + 1) ++ plain = plF A F m ++ ([.r (i64 (A m).at_),.r (.sl 3 ((F m).beds.map bedR))] ++ plain):=by simp only [plF,List.append_assoc]
     rw [e6]
     exact g2
end Go.Proofs.Ytgkejinoaommeaa

namespace Go.Proofs.Ytgkejinoaommeaa
open Go Go.Oc
set_option linter.unusedSimpArgs false
set_option linter.unusedVariables false
set_option maxRecDepth 8000
set_option maxHeartbeats 1000000
abbrev bAt (l : List Bd) (i : Nat) : Bd:=l.getD i ⟨0,0,0⟩
theorem bAt_mem {l : List Bd} {i : Nat} (h : i < l.length) : bAt l i ∈ l:=by
 unfold bAt
 rw [List.getD_eq_getElem?_getD,List.getElem?_eq_getElem h]; exact List.getElem_mem h
structure TI (l : List Bd) (den : Int) (x : List Int × Int) : Prop where
 len : x.1.length = l.length
 each : ∀ i,i < l.length → (bAt l i).lo ≤ x.1.getD i 0 ∧ x.1.getD i 0 ≤ (bAt l i).hi
 sum : x.1.sum + x.2 = den
 left : 0 ≤ x.2
theorem sum_setT : ∀ {M : List Int} {a : Nat} {y : Int},a < M.length → (M.set a y).sum = M.sum - M.getD a 0 + y
 | x :: M,0,y,_=>by simp; omega
 | x :: M, a + 1, y, h => by
   have:=sum_setT (M:=M) (a:=a) (y:=y) (by simpa using h)
   simp only [List.set_cons_succ,List.sum_cons,this,List.getD_cons_succ]
   omega
theorem getD_set (M : List Int) (a i : Nat) (y : Int) (h : a < M.length) : (M.set a y).getD i 0 = if i = a then y else M.getD i 0:=by
 rw [List.getD_eq_getElem?_getD,List.getElem?_set,List.getD_eq_getElem?_getD]
 by_cases e : a = i
 · subst e; simp [h]
 · rw [if_neg e,if_neg (fun h=>e h.symm)]
def giveU (i : Nat) (m : Int) (x : List Int × Int) : List Int × Int:=(x.1.set i (x.1.getD i 0 + m),x.2 - m)
theorem TI.give {l : List Bd} {den : Int} {x : List Int × Int} (h : TI l den x) {i : Nat} (hi : i < l.length) {m : Int} (hm : 0 ≤ m ∧ m ≤ min x.2 ((bAt l i).hi - x.1.getD i 0)) : TI l den (giveU i m x):=by
 have hl:=h.len
 refine ⟨by simp [giveU,hl],fun j hj=>?_,?_,?_⟩
 · simp only [giveU]
   rw [getD_set _ _ _ _ (by omega)]
   have:=h.each j hj
   split
   · rename_i e; subst e; omega
   · exact this
 · simp only [giveU]
   rw [sum_setT (by omega)]
   have:=h.sum
   omega
 · simp only [giveU]; omega
theorem give_zero {i : Nat} {x : List Int × Int} (hi : i < x.1.length) : giveU i 0 x = x:=by
 unfold giveU
 obtain ⟨a,b⟩:=x
 simp only [Int.add_zero,Int.sub_zero] at hi ⊢
 congr 1
 refine List.ext_getElem? fun j=>?_
 rw [List.getElem?_set]
 split
 · rename_i e; subst e
   rw [List.getD_eq_getElem?_getD,List.getElem?_eq_getElem hi]; simp [hi]
 · rfl
def takeU (l : List Bd) (j : Nat) (x : List Int × Int) : Int:=min x.2 ((bAt l j).hi - x.1.getD j 0)
def fillU (l : List Bd) (x : List Int × Int) : Nat → List Int × Int
 | 0=>x
 | j + 1=>giveU j (takeU l j (fillU l x j)) (fillU l x j)
def idxU (l : List Bd) (bs : List Int) (k : Nat) : Nat:=((byteL bs k).toNat + k) % l.length
def moreU (l : List Bd) (bs : List Int) (k : Nat) (x : List Int × Int) : Int :=
 if k < 30 then min (takeU l (idxU l bs k) x) (1 + byteL bs (k + 1) % 40) else takeU l (idxU l bs k) x
def stepU (l : List Bd) (bs : List Int) (k : Nat) (x : List Int × Int) : List Int × Int :=
 if k < 30 then giveU (idxU l bs k) (moreU l bs k x) x else fillU l (giveU (idxU l bs k) (moreU l bs k x) x) l.length
def itU (l : List Bd) (bs : List Int) (den : Int) : Nat → List Int × Int
 | 0=>(l.map (·.lo),den - loS l)
 | k + 1=>stepU l bs k (itU l bs den k)
def truthU (l : List Bd) (den : Int) (bs : List Int) : List Int:=(itU l bs den 31).1
theorem TI.take {l : List Bd} {den : Int} {x : List Int × Int} (h : TI l den x) {j : Nat} (hj : j < l.length) : 0 ≤ takeU l j x:=by
 have:=h.each j hj
 have:=h.left
 unfold takeU; omega
theorem TI.fill {l : List Bd} {den : Int} {x : List Int × Int} (h : TI l den x) : ∀ j,j ≤ l.length → TI l den (fillU l x j)
 | 0,_=>h
 | j + 1,hj=>(TI.fill h j (by omega)).give (by omega) ⟨(TI.fill h j (by omega)).take (by omega),Int.le_refl _⟩
theorem idxU_lt {l : List Bd} {bs : List Int} {k : Nat} (h : 1 ≤ l.length) : idxU l bs k < l.length:=Nat.mod_lt _ (by omega)
theorem moreU_le {l : List Bd} {bs : List Int} (hb : ∀ n ∈ bs,0 ≤ n ∧ n ≤ 255) (hl : 1 ≤ l.length) {den : Int} {x : List Int × Int} (h : TI l den x) (k : Nat) : 0 ≤ moreU l bs k x ∧ moreU l bs k x ≤ takeU l (idxU l bs k) x:=by
 have h1:=h.take (idxU_lt (bs:=bs) (k:=k) hl)
 have h2:=byteL_le hb (k + 1)
 unfold moreU
 split <;> omega
theorem TI.step {l : List Bd} {bs : List Int} (hb : ∀ n ∈ bs,0 ≤ n ∧ n ≤ 255) (hl : 1 ≤ l.length) {den : Int} {x : List Int × Int} (h : TI l den x) (k : Nat) : TI l den (stepU l bs k x):=by
 have h1:=h.give (idxU_lt (bs:=bs) (k:=k) hl) (moreU_le hb hl h k)
 unfold stepU
 split
 · exact h1
 · exact h1.fill _ (Nat.le_refl _)
theorem TI.it {l : List Bd} {bs : List Int} (hb : ∀ n ∈ bs,0 ≤ n ∧ n ≤ 255) (hl : 1 ≤ l.length) {den : Int} (h : loS l ≤ den) (h1 : ∀ c ∈ l,c.lo ≤ c.hi) : ∀ k,TI l den (itU l bs den k)
 | 0 => by
   refine ⟨by simp [itU],fun i hi=>?_,?_,?_⟩
   · have:=h1 _ (bAt_mem hi)
     have e : (itU l bs den 0).1.getD i 0 = (bAt l i).lo:=by simp [itU,bAt,List.getD,List.getElem?_eq_getElem hi]
     rw [e]; omega
   · simp only [itU,loS]; omega
   · simp only [itU]; omega
 | k + 1=>(TI.it hb hl h h1 k).step hb hl k
theorem fill_full {l : List Bd} {den : Int} {x : List Int × Int} (h : TI l den x) : ∀ j,j ≤ l.length → (fillU l x j).2 = 0 ∨ ∀ i,i < j → (fillU l x j).1.getD i 0 = (bAt l i).hi
 | 0,_=>.inr fun i hi=>by omega
 | j + 1, hj => by
   have hT:=TI.fill h j (by omega)
   have hl:=hT.len
   have he:=hT.each j (by omega)
   have h0:=hT.left
   have ih:=fill_full h j (by omega)
   simp only [fillU]
   generalize fillU l x j = y at *
   by_cases c : y.2 ≤ (bAt l j).hi - y.1.getD j 0
   · left; simp only [giveU,takeU]; omega
   · right
     intro i hi
     simp only [giveU,takeU]
     rw [getD_set _ _ _ _ (by omega)]
     split
     · rename_i e; subst e; omega
     · rcases ih with ih | ih
       · omega
       · exact ih i (by omega)
theorem sum_getD (M : List Int) : ((List.range M.length).map fun i=>M.getD i 0).sum = M.sum:=by
 congr 1
 refine List.ext_getElem (by simp) fun i h1 h2=>?_
 simp [List.getD,List.getElem?_eq_getElem h2]
theorem range_bAt (l : List Bd) : (List.range l.length).map (bAt l) = l:=by
 refine List.ext_getElem (by simp) fun i h1 h2=>?_
 simp [bAt,List.getD,List.getElem?_eq_getElem h2]
theorem fill_zero {l : List Bd} {den : Int} {x : List Int × Int} (h : TI l den x) (hh : den ≤ hiS l) : (fillU l x l.length).2 = 0:=by
 have hT:=TI.fill h l.length (Nat.le_refl _)
 rcases fill_full h l.length (Nat.le_refl _) with hf | hf
 · exact hf
 · have hs:=hT.sum
   have hl:=hT.left
   have h2 : (fillU l x l.length).1.sum = hiS l:=by
    rw [← sum_getD,hT.len]
    have e : hiS l = ((List.range l.length).map fun i=>(bAt l i).hi).sum:=by
     conv=>lhs; rw [hiS,← range_bAt l,List.map_map]
     rfl
    rw [e]
    congr 1
    exact List.map_congr_left fun i hi=>hf i (List.mem_range.1 hi)
   omega
theorem itU_done {l : List Bd} {bs : List Int} (hb : ∀ n ∈ bs,0 ≤ n ∧ n ≤ 255) (hl : 1 ≤ l.length) {den : Int} (h : loS l ≤ den) (h1 : ∀ c ∈ l,c.lo ≤ c.hi) (hh : den ≤ hiS l) : (itU l bs den 31).2 = 0:=by
 have hT:=TI.it (bs:=bs) hb hl h h1 30
 have hg:=hT.give (idxU_lt (bs:=bs) (k:=30) hl) (moreU_le hb hl hT 30)
 show (stepU l bs 30 (itU l bs den 30)).2 = 0
 unfold stepU
 rw [if_neg (by omega)]
 exact fill_zero hg hh
theorem stepU_stay {l : List Bd} {bs : List Int} (hb : ∀ n ∈ bs,0 ≤ n ∧ n ≤ 255) (hl : 1 ≤ l.length) {den : Int} {x : List Int × Int} (h : TI l den x) (h0 : x.2 = 0) (k : Nat) : stepU l bs k x = x:=by
 have hz : ∀ j,j < l.length → takeU l j x = 0:=fun j hj=>by
  have:=h.each j hj
  unfold takeU; omega
 have hm : moreU l bs k x = 0:=by
  have:=moreU_le hb hl h k
  rw [hz _ (idxU_lt hl)] at this
  omega
 have hg : giveU (idxU l bs k) (moreU l bs k x) x = x:=by rw [hm,give_zero (by rw [h.len]; exact idxU_lt hl)]
 have hf : ∀ j,j ≤ l.length → fillU l x j = x:=fun j=>by
  induction j with
  | zero=>intro _; rfl
  | succ j ih =>
    intro hj
    simp only [fillU,ih (by omega),hz j (by omega)]
    exact give_zero (by rw [h.len]; omega)
 unfold stepU
 rw [hg,hf _ (Nat.le_refl _)]
 split <;> rfl
theorem itU_stay {l : List Bd} {bs : List Int} (hb : ∀ n ∈ bs,0 ≤ n ∧ n ≤ 255) (hl : 1 ≤ l.length) {den : Int} (h : loS l ≤ den) (h1 : ∀ c ∈ l,c.lo ≤ c.hi) {k : Nat} (h0 : (itU l bs den k).2 = 0) : ∀ d,itU l bs den (k + d) = itU l bs den k
 | 0=>rfl
 | d + 1 => by
   have ih:=itU_stay hb hl h h1 h0 d
   show stepU l bs (k + d) (itU l bs den (k + d)) = _
   rw [ih]
   exact stepU_stay hb hl (TI.it hb hl h h1 k) h0 _
end Go.Proofs.Ytgkejinoaommeaa

namespace Go.Proofs.Ytgkejinoaommeaa
open Go Go.Oc
set_option linter.unusedSimpArgs false
set_option linter.unusedVariables false
set_option maxRecDepth 8000
abbrev Pv:=Int × Int
def fillP : List Pv → Int × Int → Int × Int
 | [],x=>x
 | c :: cs,x=>fillP cs (x.1 - min x.1 c.1,x.2 + min x.1 c.1 * c.2)
def dotP : List Pv → List Int → Int
 | c :: S,y :: ys=>y * c.2 + dotP S ys
 | _,_=>0
inductive FeasP : List Pv → List Int → Prop where
 | nil : FeasP [] []
 | cons {c : Pv} {S : List Pv} {y : Int} {ys : List Int} (h : 0 ≤ y ∧ y ≤ c.1) (t : FeasP S ys) : FeasP (c :: S) (y :: ys)
theorem feas_sum {S : List Pv} {ys : List Int} (h : FeasP S ys) : 0 ≤ ys.sum:=by
 induction h with
 | nil=>simp
 | cons h t ih=>simp only [List.sum_cons]; omega
theorem feas_less {v : Int} {S : List Pv} {ys : List Int} (h : FeasP S ys) : ∀ δ : Int,0 ≤ δ → δ ≤ ys.sum → (∀ c ∈ S,v ≤ c.2) → ∃ zs,FeasP S zs ∧ zs.sum = ys.sum - δ ∧ dotP S zs + δ * v ≤ dotP S ys:=by
 induction h with
 | nil =>
   intro δ h0 h1 _
   simp only [List.sum_nil] at h1
   have : δ = 0:=by omega
   subst this
   exact ⟨[],.nil,by simp,by simp [dotP]⟩
 | @cons c S y ys h t ih =>
   intro δ h0 h1 hv
   simp only [List.sum_cons] at h1
   have hs:=feas_sum t
   obtain ⟨zs,g1,g2,g3⟩:=ih (δ - min δ y) (by omega) (by omega) fun x hx=>hv x (by simp [hx])
   have hc:=hv c (by simp)
   have e0 : 0 ≤ min δ y:=by omega
   have p:=Int.mul_nonneg e0 (show 0 ≤ c.2 - v by omega)
   refine ⟨(y - min δ y) :: zs,.cons ⟨by omega,by omega⟩ g1,by simp only [List.sum_cons]; omega,?_⟩
   simp only [dotP]
   generalize min δ y = e at *
   rw [Int.mul_sub] at p
   rw [Int.sub_mul] at g3
   rw [Int.sub_mul]
   omega
theorem fill_min : ∀ {S : List Pv} {ys : List Int},FeasP S ys → ∀ (left s : Int),S.Pairwise (fun a b=>a.2 ≤ b.2) → ys.sum = left → (fillP S (left,s)).2 ≤ s + dotP S ys
 | [],_,h,left,s,_,_=>by cases h; simp [fillP,dotP]
 | c :: S, _, h, left, s, hp, hsum => by
   cases h with
   | @cons _ _ y ys h t =>
     obtain ⟨hp1,hp2⟩:=List.pairwise_cons.1 hp
     simp only [List.sum_cons] at hsum
     have hs:=feas_sum t
     obtain ⟨zs,g1,g2,g3⟩:=feas_less t (min left c.1 - y) (by omega) (by omega) hp1
     have:=fill_min g1 (left - min left c.1) (s + min left c.1 * c.2) hp2 (by omega)
     simp only [fillP,dotP]
     rw [Int.sub_mul] at g3
     omega
def negP (S : List Pv) : List Pv:=S.map fun c=>(c.1,-c.2)
theorem fill_neg : ∀ (S : List Pv) (x y : Int),(fillP (negP S) (x,-y)).2 = -(fillP S (x,y)).2
 | [],_,_=>rfl
 | c :: S, x, y => by
   have:=fill_neg S (x - min x c.1) (y + min x c.1 * c.2)
   simp only [negP,List.map_cons,fillP] at this ⊢
   rw [← this]
   congr 3
   rw [Int.mul_neg]; omega
theorem dot_neg : ∀ (S : List Pv) (ys : List Int),dotP (negP S) ys = -dotP S ys
 | [],_=>by simp [negP,dotP]
 | _ :: _,[]=>by simp [negP,dotP]
 | c :: S, y :: ys => by
   have:=dot_neg S ys
   simp only [negP,List.map_cons,dotP] at this ⊢
   rw [this,Int.mul_neg]; omega
theorem feas_neg : ∀ {S : List Pv} {ys : List Int},FeasP S ys → FeasP (negP S) ys
 | _,_,.nil=>.nil
 | _,_,.cons h t=>.cons h (feas_neg t)
theorem fill_max {S : List Pv} {ys : List Int} (h : FeasP S ys) (left s : Int) (hp : S.Pairwise (fun a b=>b.2 ≤ a.2)) (hs : ys.sum = left) : s + dotP S ys ≤ (fillP S (left,s)).2:=by
 have:=fill_min (feas_neg h) left (-s) (by unfold negP; exact List.Pairwise.map _ (fun a b h=>by simp only; omega) hp) hs
 rw [fill_neg,dot_neg] at this
 omega
theorem insB_perm (lt : Nat → Nat → Bool) (x : Nat) : ∀ R,(insB lt x R).Perm (x :: R)
 | []=>.refl _
 | y :: R => by
   unfold insB
   split
   · exact ((insB_perm lt x R).cons y).trans (.swap x y R)
   · exact .refl _
theorem sortB_perm (lt : Nat → Nat → Bool) : ∀ l R,(sortB lt l R).Perm (l ++ R)
 | [],R=>.refl _
 | x :: l, R => by
   simp only [sortB]
   refine (sortB_perm lt l _).trans ?_
   refine ((insB_perm lt x R).append_left l).trans ?_
   exact List.perm_middle
theorem sortN_perm (lt : Nat → Nat → Bool) (l : List Nat) : (sortN lt l).Perm l:=by
 unfold sortN
 refine (List.reverse_perm _).trans ?_
 have:=sortB_perm lt l []
 rwa [List.append_nil] at this
theorem insB_pw {K : Nat → Int} {lt : Nat → Nat → Bool} (hlt : ∀ x y,lt x y = decide (K x < K y)) {x : Nat} : ∀ {R : List Nat},R.Pairwise (fun y z=>K z ≤ K y) → (insB lt x R).Pairwise (fun y z=>K z ≤ K y)
 | [],_=>by simp [insB]
 | y :: R, h => by
   obtain ⟨h1,h2⟩:=List.pairwise_cons.1 h
   unfold insB
   split
   · rename_i hc
     rw [hlt,decide_eq_true_eq] at hc
     refine List.pairwise_cons.2 ⟨fun z hz=>?_,insB_pw hlt h2⟩
     rcases (mem_insB lt x z R).1 hz with rfl | hz
     · omega
     · exact h1 z hz
   · rename_i hc
     rw [hlt,decide_eq_true_eq] at hc
     refine List.pairwise_cons.2 ⟨fun z hz=>?_,h⟩
     rcases List.mem_cons.1 hz with rfl | hz
     · omega
     · have:=h1 z hz; omega
theorem sortB_pw {K : Nat → Int} {lt : Nat → Nat → Bool} (hlt : ∀ x y,lt x y = decide (K x < K y)) : ∀ {l R : List Nat},R.Pairwise (fun y z=>K z ≤ K y) → (sortB lt l R).Pairwise (fun y z=>K z ≤ K y)
 | [],_,h=>h
 | x :: l,R,h=>by simp only [sortB]; exact sortB_pw hlt (insB_pw hlt h)
theorem sortN_pw {K : Nat → Int} {lt : Nat → Nat → Bool} (hlt : ∀ x y,lt x y = decide (K x < K y)) (l : List Nat) : (sortN lt l).Pairwise (fun y z=>K y ≤ K z):=by
 unfold sortN
 rw [List.pairwise_reverse]
 exact sortB_pw hlt (by simp)
theorem dotV_sum : ∀ {o vals : List Int},o.length = vals.length → dotV o vals = ((List.range o.length).map fun i=>o.getD i 0 * vals.getD i 0).sum
 | [],[],_=>rfl
 | x :: o, y :: vals, h => by
   have ih:=dotV_sum (o:=o) (vals:=vals) (by simpa using h)
   simp only [dotV,List.length_cons,List.range_succ_eq_map,List.map_cons,List.sum_cons,List.map_map,ih]
   rfl
 | [],_ :: _,h=>by simp at h
 | _ :: _,[],h=>by simp at h
theorem dotV_set : ∀ {o vals : List Int} {i : Nat} {y : Int},i < o.length → o.length = vals.length → dotV (o.set i y) vals = dotV o vals + (y - o.getD i 0) * vals.getD i 0
 | x :: o,v :: vals,0,y,_,_=>by simp only [List.set_cons_zero,dotV,List.getD_cons_zero,Int.sub_mul]; omega
 | x :: o, v :: vals, i + 1, y, h, hl => by
   have ih:=dotV_set (o:=o) (vals:=vals) (i:=i) (y:=y) (by simpa using h) (by simpa using hl)
   simp only [List.set_cons_succ,dotV,List.getD_cons_succ,ih]; omega
 | x :: o,[],_,_,_,hl=>by simp at hl
 | [],_,_,_,h,_=>by simp at h
theorem fillS_dot {l : List Bd} {vals : List Int} : ∀ {I : List Nat} {o : List Int} {left : Int},I.Nodup → o.length = l.length → vals.length = l.length → (∀ i ∈ I,i < l.length) →
 dotV (fillS l I (o,left)).1 vals = (fillP (I.map fun i=>((bAt l i).hi - o.getD i 0,vals.getD i 0)) (left,dotV o vals)).2 ∧ (fillS l I (o,left)).1.length = l.length
 | [],o,left,_,ho,_,_=>⟨rfl,ho⟩
 | i :: I, o, left, hn, ho, hv, hi => by
   obtain ⟨n1,n2⟩:=List.nodup_cons.1 hn
   have hil:=hi i (by simp)
   have hm : moreS l o left i = min left ((bAt l i).hi - o.getD i 0):=by
    unfold moreS bAt
    rw [List.getD_eq_getElem?_getD,List.getD_eq_getElem?_getD,List.getElem?_eq_getElem hil]
    rfl
   have hs : (o[i]?).getD 0 = o.getD i 0:=by rw [List.getD_eq_getElem?_getD]
   simp only [fillS,List.map_cons,fillP]
   rw [hm,hs]
   obtain ⟨h1,h2⟩:=fillS_dot (l:=l) (vals:=vals) (I:=I) (o:=o.set i (o.getD i 0 + min left ((bAt l i).hi - o.getD i 0))) (left:=left - min left ((bAt l i).hi - o.getD i 0)) n2 (by simp [ho]) hv fun j hj=>hi j (by simp [hj])
   refine ⟨?_,h2⟩
   rw [h1,dotV_set (by omega) (by omega)]
   have e1 : (I.map fun j=>((bAt l j).hi - (o.set i (o.getD i 0 + min left ((bAt l i).hi - o.getD i 0))).getD j 0,vals.getD j 0)) = I.map fun j=>((bAt l j).hi - o.getD j 0,vals.getD j 0) :=
    List.map_congr_left fun j hj=>by
     have hji : ¬ j = i:=fun e=>n1 (e ▸ hj)
     rw [getD_set _ _ _ _ (by omega),if_neg hji]
   rw [e1]
   congr 3
   rw [show o.getD i 0 + min left ((bAt l i).hi - o.getD i 0) - o.getD i 0 = min left ((bAt l i).hi - o.getD i 0) by omega]
structure TruthN (den : Int) (l : List Bd) (y : List Int) : Prop where
 len : y.length = l.length
 each : ∀ i,i < l.length → (bAt l i).lo ≤ y.getD i 0 ∧ y.getD i 0 ≤ (bAt l i).hi
 sum : y.sum = den
theorem feas_mapL {m v x : Nat → Int} : ∀ {I : List Nat},(∀ i ∈ I,0 ≤ x i ∧ x i ≤ m i) → FeasP (I.map fun i=>(m i,v i)) (I.map x)
 | [],_=>.nil
 | i :: I,h=>.cons (h i (by simp)) (feas_mapL fun j hj=>h j (by simp [hj]))
theorem dot_mapL {m v x : Nat → Int} : ∀ I : List Nat,dotP (I.map fun i=>(m i,v i)) (I.map x) = (I.map fun i=>x i * v i).sum
 | []=>rfl
 | i :: I=>by simp only [List.map_cons,dotP,List.sum_cons,dot_mapL I]
theorem perm_sumL {f : Nat → Int} {I J : List Nat} (h : I.Perm J) : (I.map f).sum = (J.map f).sum:=by
 induction h with
 | nil=>rfl
 | cons x _ ih=>simp only [List.map_cons,List.sum_cons,ih]
 | swap x y l=>simp only [List.map_cons,List.sum_cons]; omega
 | trans _ _ h1 h2=>rw [h1,h2]
theorem sum_addL {f g : Nat → Int} : ∀ I : List Nat,(I.map fun i=>f i + g i).sum = (I.map f).sum + (I.map g).sum
 | []=>by simp
 | i :: I=>by simp only [List.map_cons,List.sum_cons,sum_addL I]; omega
theorem sum_subL {f g : Nat → Int} : ∀ I : List Nat,(I.map fun i=>f i - g i).sum = (I.map f).sum - (I.map g).sum
 | []=>by simp
 | i :: I=>by simp only [List.map_cons,List.sum_cons,sum_subL I]; omega
theorem filled_bound {d : Int} {l : List Bd} {vals y : List Int} (hv : vals.length = l.length) (hy : TruthN d l y) : meanLo d l vals ≤ dotV y vals ∧ dotV y vals ≤ meanHi d l vals:=by
 have hyl:=hy.len
 have hlo : (l.map (·.lo)).length = l.length:=by simp
 have hgl : ∀ i,i < l.length → (l.map (·.lo)).getD i 0 = (bAt l i).lo:=fun i hi=>by simp [bAt,List.getD,List.getElem?_eq_getElem hi]
 have key : ∀ cm : Int → Int → Int,∀ I : List Nat,I.Perm (List.range l.length) → I = sortN (keyLt cm vals) (List.range l.length) →
  dotV (filledV cm d l vals) vals = (fillP (I.map fun i=>((bAt l i).hi - (bAt l i).lo,vals.getD i 0)) (d - loS l,dotV (l.map (·.lo)) vals)).2 ∧
  FeasP (I.map fun i=>((bAt l i).hi - (bAt l i).lo,vals.getD i 0)) (I.map fun i=>y.getD i 0 - (bAt l i).lo) ∧ (I.map fun i=>y.getD i 0 - (bAt l i).lo).sum = d - loS l ∧
  dotV (l.map (·.lo)) vals + dotP (I.map fun i=>((bAt l i).hi - (bAt l i).lo,vals.getD i 0)) (I.map fun i=>y.getD i 0 - (bAt l i).lo) = dotV y vals:=fun cm I hp he=>by
  have hI : ∀ i ∈ I,i < l.length:=fun i hi=>List.mem_range.1 (hp.mem_iff.1 hi)
  have hn : I.Nodup:=hp.nodup_iff.2 List.nodup_range
  refine ⟨?_,feas_mapL fun i hi=>?_,?_,?_⟩
  · unfold filledV startF
    rw [← he,(fillS_dot (l:=l) (vals:=vals) (o:=l.map (·.lo)) (left:=d - loS l) hn hlo hv hI).1]
    have e : (I.map fun i=>((bAt l i).hi - (l.map (·.lo)).getD i 0,vals.getD i 0)) = I.map fun i=>((bAt l i).hi - (bAt l i).lo,vals.getD i 0):=List.map_congr_left fun i hi=>by rw [hgl i (hI i hi)]
    rw [e]
  · have:=hy.each i (hI i hi); omega
  · rw [perm_sumL (f:=fun i=>y.getD i 0 - (bAt l i).lo) hp,sum_subL]
    have e1 : ((List.range l.length).map fun i=>y.getD i 0).sum = d:=by rw [← hyl,sum_getD,hy.sum]
    have e2 : ((List.range l.length).map fun i=>(bAt l i).lo).sum = loS l:=by
     conv=>rhs; rw [loS,← range_bAt l,List.map_map]
     rfl
    rw [e1,e2]
  · rw [dot_mapL,perm_sumL (f:=fun i=>(y.getD i 0 - (bAt l i).lo) * vals.getD i 0) hp,dotV_sum (by rw [hlo,hv]),dotV_sum (by rw [hyl,hv]),hlo,hyl,← sum_addL]
    congr 1
    refine List.map_congr_left fun i hi=>?_
    rw [hgl i (List.mem_range.1 hi),Int.sub_mul]; omega
 constructor
 · obtain ⟨k1,k2,k3,k4⟩:=key cmpI _ (sortN_perm _ _) rfl
   unfold meanLo
   rw [k1,← k4]
   refine fill_min k2 _ _ ?_ k3
   refine List.pairwise_map.2 ((sortN_pw (K:=fun i=>vals.getD i 0) (fun x y=>?_) _).imp fun h=>h)
   unfold keyLt cmpI
   simp only [List.getD_eq_getElem?_getD]
   rw [Bool.eq_iff_iff,decide_eq_true_eq,decide_eq_true_eq]
   split
   · omega
   · split <;> omega
 · obtain ⟨k1,k2,k3,k4⟩:=key (fun x y=>cmpI y x) _ (sortN_perm _ _) rfl
   unfold meanHi
   rw [k1,← k4]
   refine fill_max k2 _ _ ?_ k3
   refine List.pairwise_map.2 ((sortN_pw (K:=fun i=>-vals.getD i 0) (fun x y=>?_) _).imp fun h=>by simp only; omega)
   unfold keyLt cmpI
   simp only [List.getD_eq_getElem?_getD]
   rw [Bool.eq_iff_iff,decide_eq_true_eq,decide_eq_true_eq]
   split
   · omega
   · split <;> omega
end Go.Proofs.Ytgkejinoaommeaa

namespace Go.Proofs.Ytgkejinoaommeaa
open Go Go.Oc
set_option linter.unusedSimpArgs false
set_option linter.unusedVariables false
set_option maxRecDepth 8000
structure FixI (D : Int) (l X : List Bd) : Prop where
 map : X.map (fun c=>(c.b,c.lo)) = l.map fun c=>(c.b,c.lo)
 each : ∀ c ∈ X,0 ≤ c.lo ∧ c.lo ≤ c.hi ∧ c.hi ≤ D
theorem FixI.len {D : Int} {l X : List Bd} (h : FixI D l X) : X.length = l.length:=by
 have:=congrArg List.length h.map
 simpa using this
theorem FixI.cap {D : Int} {l : List Bd} (h0 : ∀ c ∈ l,0 ≤ c.lo ∧ c.lo ≤ c.hi ∧ c.lo ≤ D) : FixI D l (capB D l):=by
 refine ⟨by simp [capB,Function.comp_def],fun c hc=>?_⟩
 obtain ⟨d,hd,rfl⟩:=List.mem_map.1 hc
 have:=h0 d hd
 simp only; omega
theorem FixI.raise {D : Int} {l X : List Bd} (h : FixI D l X) (k : Nat) (hk : k < X.length) : FixI D l (raiseB D X k):=by
 unfold raiseB
 split
 · rename_i hh
   have hg : X[k]? = some (X.getD k ⟨0,0,0⟩):=by rw [List.getD_eq_getElem?_getD,List.getElem?_eq_getElem hk]; rfl
   have hc:=h.each _ (List.mem_of_getElem? hg)
   refine ⟨?_,fun c hc'=>?_⟩
   · rw [← h.map,List.map_set]
     refine List.ext_getElem? fun j=>?_
     rw [List.getElem?_set]
     split
     · rename_i e; subst e
       rw [List.getElem?_map,hg]
       simp [hk]
     · rfl
   · rcases List.mem_or_eq_of_mem_set hc' with hx | hx
     · exact h.each c hx
     · subst hx
       simp only; omega
 · exact h
theorem hiS_set {X : List Bd} : ∀ {k : Nat} {c : Bd},k < X.length → hiS (X.set k c) = hiS X - (X.getD k ⟨0,0,0⟩).hi + c.hi:=by
 induction X with
 | nil=>intro k c h; simp at h
 | cons x X ih =>
   intro k c h
   cases k with
   | zero=>simp [hiS]; omega
   | succ k =>
     have:=ih (k:=k) (c:=c) (by simpa using h)
     simp only [hiS,List.set_cons_succ,List.map_cons,List.sum_cons,List.getD_cons_succ] at this ⊢
     omega
theorem hiS_ge {X : List Bd} : (∀ c ∈ X,0 ≤ c.hi) → ∀ {k : Nat},k < X.length → (X.getD k ⟨0,0,0⟩).hi ≤ hiS X:=by
 induction X with
 | nil=>intro _ k h; simp at h
 | cons x X ih =>
   intro h0 k h
   have hx:=h0 x (by simp)
   have hX : 0 ≤ hiS X:=by
    have:=hiS_le (B:=100000000000000) (l:=X.map fun c=>⟨c.b,c.lo,0⟩) (by simp)
    clear this ih h
    induction X with
    | nil=>simp [hiS]
    | cons y X ih =>
      have hy:=h0 y (by simp)
      have:=ih fun c hc=>h0 c (by simp at hc ⊢; rcases hc with rfl | hc; exact .inl rfl; exact .inr (.inr hc))
      simp only [hiS,List.map_cons,List.sum_cons] at this ⊢; omega
   cases k with
   | zero =>
     have e : hiS (x :: X) = x.hi + hiS X:=by simp [hiS]
     rw [e]; simp; omega
   | succ k =>
     have:=ih (fun c hc=>h0 c (by simp [hc])) (k:=k) (by simpa using h)
     have e : hiS (x :: X) = x.hi + hiS X:=by simp [hiS]
     rw [e,List.getD_cons_succ]; omega
theorem raise_full {D : Int} {l X : List Bd} (h : FixI D l X) {k : Nat} (hk : k < X.length) : D ≤ hiS (raiseB D X k):=by
 unfold raiseB
 split
 · rename_i hh
   rw [hiS_set hk]
   have:=hiS_ge (fun c hc=>by have:=h.each c hc; omega) hk
   simp only; omega
 · omega
theorem raise_keep {D : Int} {X : List Bd} (h : D ≤ hiS X) (k : Nat) : raiseB D X k = X:=by unfold raiseB; rw [if_neg (by omega)]
theorem raiseN_keep {D : Int} {X : List Bd} (h : D ≤ hiS X) : ∀ k,raiseN D X k = X
 | 0=>rfl
 | k + 1 => by
   simp only [raiseN,raiseN_keep h k]
   exact raise_keep h k
theorem fixM_ok {x : Lw} {D : Int} {l : List Bd} (h1 : 1 ≤ l.length) (h0 : ∀ c ∈ l,0 ≤ c.lo ∧ c.lo ≤ c.hi ∧ c.lo ≤ D) : FixI D l (fixM x D l) ∧ D ≤ hiS (fixM x D l):=by
 have hc:=FixI.cap h0
 have hl:=hc.len
 have hk : restK x l < (capB D l).length:=by rw [hl]; exact Nat.mod_lt _ (by omega)
 have hf:=raise_full hc hk
 have hr:=hc.raise _ hk
 unfold fixM
 rw [raiseN_keep hf]
 exact ⟨hr,hf⟩
end Go.Proofs.Ytgkejinoaommeaa

namespace Go.Proofs.Ytgkejinoaommeaa
open Go Go.Oc
set_option linter.unusedSimpArgs false
set_option linter.unusedVariables false
set_option maxRecDepth 8000
theorem seqOk_of : ∀ {l : List Bd} {p : Option Int},l.Pairwise (fun a b=>a.b < b.b) → (∀ c ∈ l,c.b = 0 ∨ bedOk c.b = true) → (∀ q,p = some q → ∀ c ∈ l,q < c.b) → seqOk p l = true
 | [],_,_,_,_=>by simp [seqOk]
 | c :: l, p, hp, hb, hq => by
   obtain ⟨h1,h2⟩:=List.pairwise_cons.1 hp
   have ih:=seqOk_of (p:=some c.b) h2 (fun x hx=>hb x (by simp [hx])) fun q e x hx=>by injection e with e; subst e; exact h1 x hx
   have hc:=hb c (by simp)
   unfold seqOk
   rw [ih,Bool.and_true,Bool.and_eq_true]
   refine ⟨by simpa using hc,?_⟩
   cases p with
   | none=>rfl
   | some q=>simpa using hq q rfl c (by simp)
theorem seqOk_map : ∀ {l l' : List Bd} {p : Option Int},l'.map (·.b) = l.map (·.b) → seqOk p l' = seqOk p l
 | [],[],_,_=>rfl
 | [],c :: l',_,h=>by simp at h
 | c :: l,[],_,h=>by simp at h
 | c :: l, c' :: l', p, h => by
   simp only [List.map_cons,List.cons.injEq] at h
   unfold seqOk
   rw [h.1,seqOk_map h.2]
theorem FixI.b {D : Int} {l X : List Bd} (h : FixI D l X) : X.map (·.b) = l.map (·.b) ∧ loS X = loS l:=by
 have h1:=congrArg (List.map Prod.fst) h.map
 have h2:=congrArg (fun z=>(List.map Prod.snd z).sum) h.map
 simp only [List.map_map] at h1 h2
 exact ⟨h1,h2⟩
theorem bedOk_le' {b : Int} (h : bedOk b = true) : 0 ≤ b ∧ b ≤ 499:=by
 simp only [bedOk,Bool.or_eq_true,Bool.and_eq_true,decide_eq_true_eq] at h
 omega
structure MadeI (D : Int) (a : Am) : Prop where
 ok : aimOk D a = true
 wf : WfA a
 len : 1 ≤ a.beds.length ∧ a.beds.length ≤ 10
theorem le_sumsM : ∀ {l : List Am} {d : Int},d ≤ l.foldl (fun d a=>max d (loS a.beds)) d ∧ ∀ a ∈ l,loS a.beds ≤ l.foldl (fun d a=>max d (loS a.beds)) d
 | [],d=>by simp
 | x :: l, d => by
   obtain ⟨h1,h2⟩:=le_sumsM (l:=l) (d:=max d (loS x.beds))
   simp only [List.foldl_cons]
   refine ⟨by omega,fun a ha=>?_⟩
   rcases List.mem_cons.1 ha with rfl | ha
   · omega
   · exact h2 a ha
theorem made_ok {x : Lw} (hx : WfLw x) {most : Int} (hm : 0 ≤ most ∧ most ≤ 100) :
 (1 ≤ denM x most ∧ denM x most ≤ 2600) ∧ (1 ≤ (aimsM x most).length ∧ (aimsM x most).length ≤ 6) ∧ (∀ a ∈ aimsM x most,MadeI (denM x most) a) ∧ checkV (denM x most) (aimsM x most) = 0 ∧ WfL (denM x most) (aimsM x most):=by
 obtain ⟨⟨hN1,hN6⟩,hraw⟩:=raw_ok hx hm
 have hr:=hx.rest
 have hmem : ∀ a ∈ rawM x most,RawI a:=fun a ha=>by
  obtain ⟨j,hj⟩:=List.getElem?_of_mem ha
  have hjl:=(List.getElem?_eq_some_iff.1 hj).1
  have e : rawA x most j = a:=by unfold rawA; rw [List.getD_eq_getElem?_getD,hj]; rfl
  rw [← e]; exact hraw j hjl
 have hsb : 0 ≤ sumsM (rawM x most) ∧ sumsM (rawM x most) ≤ 2550:=sumsM_le (by omega) (by omega) fun a ha=>(hmem a ha).lo
 have hD : 1 ≤ denM x most ∧ denM x most ≤ 2600:=by unfold denM; omega
 have hle : ∀ a ∈ rawM x most,loS a.beds ≤ denM x most:=fun a ha=>by
  have : loS a.beds ≤ sumsM (rawM x most):=(le_sumsM (l:=rawM x most) (d:=0)).2 a ha
  unfold denM; omega
 have hlen : (aimsM x most).length = rawN x most:=by unfold aimsM rawN; simp
 have hmade : ∀ a ∈ aimsM x most,MadeI (denM x most) a:=fun a ha=>by
  obtain ⟨a0,h0,rfl⟩:=List.mem_map.1 ha
  have hI:=hmem a0 h0
  have hl:=hle a0 h0
  have hlo : ∀ c ∈ a0.beds,c.lo ≤ loS a0.beds:=fun c hc=>by
   obtain ⟨k,hk⟩:=List.getElem?_of_mem hc
   have hkl:=(List.getElem?_eq_some_iff.1 hk).1
   have h1:=hiS_ge (X:=a0.beds.map fun c=>⟨c.b,c.lo,c.lo⟩) (fun c hc=>by
    obtain ⟨d,hd,rfl⟩:=List.mem_map.1 hc
    exact (hI.each d hd).2.1) (k:=k) (by simpa using hkl)
   have e1 : hiS (a0.beds.map fun c=>⟨c.b,c.lo,c.lo⟩) = loS a0.beds:=by simp [hiS,loS,Function.comp_def]
   have e2 : ((a0.beds.map fun c=>(⟨c.b,c.lo,c.lo⟩ : Bd)).getD k ⟨0,0,0⟩).hi = c.lo:=by simp [List.getD_eq_getElem?_getD,hk]
   rw [e1,e2] at h1
   exact h1
  obtain ⟨hf,hh⟩:=fixM_ok (x:=x) (D:=denM x most) hI.len.1 fun c hc=>by
   have:=hI.each c hc
   have:=hlo c hc
   omega
  obtain ⟨hb,hlS⟩:=hf.b
  have hfl:=hf.len
  have hsq : seqOk none (fixM x (denM x most) a0.beds) = true:=by
   rw [seqOk_map hb]
   exact seqOk_of hI.up (fun c hc=>(hI.each c hc).1) fun q e=>by cases e
  have hch : chOk (denM x most) (fixM x (denM x most) a0.beds) = true:=by
   simp only [chOk,List.all_eq_true,Bool.and_eq_true,decide_eq_true_eq]
   exact fun c hc=>⟨⟨(hf.each c hc).1,(hf.each c hc).2.1⟩,(hf.each c hc).2.2⟩
  have hne : (fixM x (denM x most) a0.beds).isEmpty = false:=by
   cases h : fixM x (denM x most) a0.beds with
   | nil=>rw [h] at hfl; have:=hI.len; simp at hfl; omega
   | cons=>rfl
  refine ⟨?_,⟨?_,fun c hc=>?_⟩,?_⟩
  · simp only [aimOk,hsq,hch,hne,hI.at_,Bool.not_false,Bool.and_true,Bool.true_and,Bool.and_eq_true,decide_eq_true_eq]
    exact ⟨by rw [hlS]; exact hl,hh⟩
  · have:=bedOk_le' hI.at_
    simp only; unfold I64; omega
  · have h1:=hf.each c hc
    have h2 : c.b ∈ a0.beds.map (·.b):=by rw [← hb]; exact List.mem_map.2 ⟨c,hc,rfl⟩
    obtain ⟨d,hd,hde⟩:=List.mem_map.1 h2
    have h3 : 0 ≤ c.b ∧ c.b ≤ 499:=by
     rw [← hde]
     rcases (hI.each d hd).1 with h | h
     · omega
     · exact bedOk_le' h
    unfold I64
    omega
  · simp only; rw [hfl]; exact hI.len
 refine ⟨hD,by rw [hlen]; exact ⟨hN1,hN6⟩,hmade,?_,⟨by unfold I64; omega,fun a ha=>(hmade a ha).wf⟩⟩
 have h1 : (decide (20 < (aimsM x most).length) || (aimsM x most).any fun a=>decide (10 < a.beds.length)) = false:=by
  rw [Bool.or_eq_false_iff,decide_eq_false_iff_not,List.any_eq_false]
  exact ⟨by omega,fun a ha=>by have:=(hmade a ha).len; simp; omega⟩
 have h2 : ((aimsM x most).isEmpty || !(decide (1 ≤ denM x most) && decide (denM x most ≤ 3000))) = false:=by
  have e1 : (aimsM x most).isEmpty = false:=by
   cases h : aimsM x most with
   | nil=>rw [h] at hlen; simp at hlen; omega
   | cons=>rfl
  have e2 : decide (1 ≤ denM x most) = true ∧ decide (denM x most ≤ 3000) = true:=⟨decide_eq_true hD.1,decide_eq_true (by omega)⟩
  rw [e1,e2.1,e2.2]; rfl
 have h3 : (aimsM x most).all (aimOk (denM x most)) = true:=List.all_eq_true.2 fun a ha=>(hmade a ha).ok
 unfold checkV
 rw [h1,h2,h3]
 rfl
end Go.Proofs.Ytgkejinoaommeaa
