/- Part 6 of the texts of this claim. -/
import Derived.Test.YtlljkgiomkmjbaaVA5
import Derived.Test.YtlljkgiomkmjbaaVA4
namespace Go.Proofs.Ytlljkgiomkmjbaa.Tm
open Go Go.Oc
set_option linter.unusedSimpArgs false
set_option linter.unusedVariables false
def Cons (p : List Sheet) : Prop:=∀ x ∈ p,∀ y ∈ p,x.gm = y.gm → x = y
def Val (r : Rules) (p : List Sheet) : Prop:=∀ x ∈ p,sheetB r x = true
theorem cons_sub {p q : List Sheet} (h : Cons p) (hs : ∀ x ∈ q,x ∈ p) : Cons q:=fun x hx y hy e=>h x (hs x hx) y (hs y hy) e
theorem sameS_refl (x : Sheet) : sameS x x = true:=sameS_eq.2 rfl
theorem scan_app (r : Rules) : ∀ (l : List Sheet) (p : List Sheet) (l' : List Sheet),Val r l → Cons (p ++ l) → scanN r p (l ++ l') = scanN r (p ++ l) l'
 | [],p,l',_,_=>by simp
 | x :: l, p, l', hv, hc => by
   have h1:=hv x (by simp)
   have ih:=scan_app r l (p ++ [x]) l' (fun y hy=>hv y (by simp [hy])) (by simpa using hc)
   rw [List.cons_append,scanN,if_pos h1]
   have e : p ++ x :: l = p ++ [x] ++ l:=by simp
   cases hs : seenL p x.gm with
   | none=>simp only; rw [ih,e]
   | some y =>
     obtain ⟨hy,hg⟩:=seen_some hs
     have : y = x:=hc y (by simp [hy]) x (by simp) hg
     subst this
     simp only [sameS_refl,if_true];rw [ih,e]
theorem scan_none {r : Rules} {l : List Sheet} (hv : Val r l) (hc : Cons l) : scanN r [] l = none:=by
 have:=scan_app r l [] [] hv (by simpa using hc)
 rw [List.append_nil,List.nil_append] at this
 rw [this,scanN]
theorem night_of {r : Rules} {l : List Sheet} (hr : rulesB r = true) (hl : l.length ≤ 200) (hv : Val r l) (hc : Cons l) : nightV r l = (nightR r (seenL l),0,0):=by
 unfold nightV
 rw [if_neg (by simp [hr]),if_neg (by omega),scan_none hv hc]
theorem seen_iff {l : List Sheet} (hc : Cons l) {i : Int} {x : Sheet} : seenL l i = some x ↔ x ∈ l ∧ x.gm = i:=by
 constructor
 · exact seen_some
 · rintro ⟨hx,hg⟩
   cases h : seenL l i with
   | none =>
     have:=List.find?_eq_none.1 h x hx
     simp [hg] at this
   | some z =>
     obtain ⟨hz,hzg⟩:=seen_some h
     rw [hc z hz x hx (by rw [hzg,hg])]
theorem seen_ext {l l' : List Sheet} (hc : Cons l) (hs : ∀ x,x ∈ l' ↔ x ∈ l) : seenL l' = seenL l:=by
 have hc' : Cons l':=cons_sub hc fun x hx=>(hs x).1 hx
 funext i
 refine Option.ext fun x=>?_
 rw [seen_iff hc,seen_iff hc',hs]
def byteAt (b : List Int) (i : Nat) : Int:=if b.length = 0 then 0 else b.getD (i % b.length) 0
def playS (r : Rules) (b : List Int) (i : Nat) : Sheet :=
 if byteAt b i % 4 > 1 ∧ byteAt b i % 5 = 0 then ⟨i,0,0,byteAt b i % 4 - 1⟩
 else if byteAt b i % 4 = 1 then ⟨i,byteAt b i / 4 % legsOf r i,legsOf r i,0⟩
 else ⟨i,legsOf r i,byteAt b i / 4 % legsOf r i,0⟩
def playsS (r : Rules) (b : List Int) (i : Nat) : List Sheet:=(List.range i).map (playS r b)
theorem sum_full {r : Rules} {F : Int → Option Sheet} : ∀ {k : Nat},k ≤ r.gs.length → (∀ i : Nat,i < k → (F i).isSome = true) → (sumN r F k).op = []
 | 0,_,_=>rfl
 | k + 1, hk, h => by
   have ih:=sum_full (r:=r) (F:=F) (k:=k) (by omega) fun i hi=>h i (by omega)
   obtain ⟨x,hx⟩:=Option.isSome_iff_exists.1 (h k (by omega))
   obtain ⟨g,hg⟩:=opt_of_lt (l:=r.gs) (i:=k) (by omega)
   rw [sumN]
   unfold stepN
   rw [hx,hg]
   exact ih
theorem end_full {r : Rules} {t : Res} (h : t.op = []) : endR r t = { t with w:=leadW (t.p0 - t.p1) (t.l0 - t.l1),p0:=if leadW (t.p0 - t.p1) (t.l0 - t.l1) = 0 then t.p0 + r.bonus else t.p0,p1:=if leadW (t.p0 - t.p1) (t.l0 - t.l1) = 1 then t.p1 + r.bonus else t.p1 }:=by
 have h1 : homeR r t = leadW (t.p0 - t.p1) (t.l0 - t.l1):=by simp [homeR,h,openP,openG]
 have h2 : awayR r t = leadW (t.p0 - t.p1) (t.l0 - t.l1):=by simp [awayR,h,openP,openG]
 unfold endR
 rw [h1,h2]
 rcases leadW_in (t.p0 - t.p1) (t.l0 - t.l1) with e | e | e <;> simp [e,h]
def atS (u : List Int) (i m : Nat) : Nat:=if u.length = 0 then 0 else (u.getD (i % u.length) 0 % ((m : Int) + 1)).toNat
def insS (M : List Sheet) (a : Nat) (x : Sheet) : List Sheet:=M.take a ++ [x] ++ M.drop a
def manyS (r : Rules) (b u : List Int) : Nat → List Sheet
 | 0=>[]
 | i + 1=>if atS u i (manyS r b u i).length % 3 = 1 then insS (manyS r b u i) (atS u i (manyS r b u i).length) (playS r b i) ++ [playS r b i] else insS (manyS r b u i) (atS u i (manyS r b u i).length) (playS r b i)
def badS (x : Sheet) : Sheet:=⟨x.gm,x.aw,x.ho,(3 - x.wk).tmod 3⟩
set_option maxRecDepth 8000
def gT (i : Nat) : Game:=⟨1,((1 + i % 3 : Nat) : Int),1⟩
def rT (n : Nat) : Rules:=⟨4,(List.range n).map gT,20,0⟩
def sT (b : Nat → Nat) (i : Nat) : Sheet :=
 if 250 ≤ b i then ⟨i,0,0,((1 + b i % 2 : Nat) : Int)⟩
 else if b i % 2 = 1 then ⟨i,((b i / 2 % (1 + i % 3) : Nat) : Int),((1 + i % 3 : Nat) : Int),0⟩
 else ⟨i,((1 + i % 3 : Nat) : Int),((b i / 2 % (1 + i % 3) : Nat) : Int),0⟩
def lT (b : Nat → Nat) (n : Nat) : List Sheet:=(List.range n).map (sT b)
theorem rT_get {n i : Nat} (h : i < n) : (rT n).gs[i]? = some (gT i):=by
 simp only [rT]
 rw [List.getElem?_map,List.getElem?_range h]; rfl
theorem rT_legs {n i : Nat} (h : i < n) : legsOf (rT n) (i : Int) = ((1 + i % 3 : Nat) : Int):=by
 unfold legsOf
 rw [Int.toNat_natCast,rT_get h]; rfl
theorem rT_ok {n : Nat} (h1 : 1 ≤ n) (h2 : n ≤ 7) : rulesB (rT n) = true:=by
 have : n = 1 ∨ n = 2 ∨ n = 3 ∨ n = 4 ∨ n = 5 ∨ n = 6 ∨ n = 7:=by omega
 rcases this with rfl | rfl | rfl | rfl | rfl | rfl | rfl <;> decide
theorem sT_gm (b : Nat → Nat) (i : Nat) : (sT b i).gm = i:=by unfold sT; split <;> (try split) <;> rfl
theorem sT_ok (b : Nat → Nat) {n i : Nat} (h : i < n) (h7 : n ≤ 7) : sheetB (rT n) (sT b i) = true:=by
 have hl:=rT_legs h
 have hm:=Nat.mod_lt (b i / 2) (show 1 + i % 3 > 0 by omega)
 have hlen : ((rT n).gs.length : Int) = n:=by simp [rT]
 unfold sheetB
 rw [sT_gm,hl,hlen]
 unfold sT
 generalize b i / 2 % (1 + i % 3) = q at *
 generalize 1 + i % 3 = m at *
 have hzz:=Nat.mod_lt (b i) (show 2 > 0 by omega)
 generalize b i % 2 = z at *
 split
 · simp [withinL]; omega
 · split
   · simp [withinL]; omega
   · simp [withinL]; omega
theorem lT_val (b : Nat → Nat) {n : Nat} (h7 : n ≤ 7) : Val (rT n) (lT b n):=fun x hx=>by
 obtain ⟨i,hi,rfl⟩:=List.mem_map.1 hx
 exact sT_ok b (List.mem_range.1 hi) h7
theorem lT_cons (b : Nat → Nat) (n : Nat) : Cons (lT b n):=fun x hx y hy e=>by
 obtain ⟨i,_,rfl⟩:=List.mem_map.1 hx
 obtain ⟨j,_,rfl⟩:=List.mem_map.1 hy
 rw [sT_gm,sT_gm] at e
 have : i = j:=by omega
 rw [this]
end Go.Proofs.Ytlljkgiomkmjbaa.Tm

namespace Go.Oc
open Go Go.RowKit
set_option linter.unusedSimpArgs false
set_option linter.unusedVariables false
set_option linter.unnecessarySimpa false
def boxRow (s : AS) (k : Nat) : Prop:=∃ cs,(s.rows k).c = .box cs
section
variable {P : Program} {s : AS} {ops : Array Oper}
def appends (o : Oper) : Option (Operand × Nat × Operand) :=
 if o.guard.isSome then none else
 match o.op,o.dst with
 | .call ⟨.builtin .append,args,ts⟩,some d=>match args.toList,ts.toList with | [x,y],[t,t']=>if t = t' then some (x,d,y) else none | _,_=>none
 | _,_=>none
def tameB (bs : List Nat) (o : Oper) : Bool:=(decide (cls o ≠ 3) || (match o.op with | .store _ _ _=>true | _=>false) || (appends o).isSome) && bs.all fun k=>decide (k ≠ 0) && (o.dst != some k)
def boxed (ops : Array Oper) (κ : List (Nat × Option Nat)) (bs : List Nat) (j : Nat) : List Operand → Bool
 | []=>true
 | .tmp t :: xs=>(match inKey ops κ ops.size j t with | some none=>true | some (some k)=>bs.contains k | none=>false) && boxed ops κ bs j xs
 | _ :: xs=>boxed ops κ bs j xs
def apOk (ops : Array Oper) (κ : List (Nat × Option Nat)) (bs : List Nat) (i j : Nat) : Bool :=
 match ops[i]?,ops[j]? with
 | some x, some y =>
   x.apart ops y && (
    (match reads x,appends y with
    | some xs,some (_,d,_)=>!bs.contains d && boxed ops κ bs i xs
    | _,_=>false) ||
    (match appends x,reads y with
    | some (_,d,_),some xs=>!bs.contains d && boxed ops κ bs j xs
    | _,_=>false))
 | _,_=>false
def lexOk3 (ops : Array Oper) (κ : List (Nat × Option Nat)) (bs : List Nat) : Bool :=
 uniq ops.toList && ops.toList.all (tameB bs) &&
 (List.range ops.size).all fun i=>(deps ops i).all (fun e=>decide (e < i)) &&
  (List.range ops.size).all fun j=>!decide (i < j) || waits ops ops.size j i ||
   (match ops[i]?,ops[j]? with | some x,some y=>okPair ops x y | _,_=>true) || rdOk ops κ i j || apOk ops κ bs i j
variable {κ : List (Nat × Option Nat)} {bs : List Nat}
end
end Go.Oc

namespace Go.Oc
open Go Go.RowKit
set_option linter.unusedVariables false
theorem relC_plain {w : World} {p : Plan} {ver : Nat → Nat} {R' : Nat → Prop} (hR : ∀ b,p.R b → R' b) {b : Nat} {cells : Array Value} {ty : TypeId} (hh : w.heap[b]? = some (.cells cells ty (0,0))) (h1 : ∀ u ∈ cells.toList,u.oneCell' = true) :
 ∀ (cs : List RV) (us : List Value) (j : Nat),(∀ i u,us[i]? = some u → cells[j + i]? = some u) → AV.relV w p ver (cs.map .r) us → RV.relC w R' cs ⟨b,0,none⟩ j
 | [],_,_,_,_=>by simp [RV.relC]
 | c :: cs, us, j, hget, hV => by
   simp only [List.map_cons,AV.relV] at hV
   obtain ⟨u,us,rfl,hu,hV⟩:=hV
   simp only [RV.relC]
   have hc0 : cells[j]? = some u:=by simpa using hget 0 u (by simp)
   refine ⟨⟨u,?_,h1 u (by simpa using List.mem_of_getElem? (by simpa using hc0 : cells.toList[j]? = some u)),?_⟩,?_⟩
   · rw [add_at,Nat.zero_add,cell_of_row w b j cells ty (0,0) hh]; exact hc0
   · simp only [AV.rel] at hu
     exact RV.rel_mono hR (fun _ _=>rfl) _ _ hu
   · exact relC_plain hR hh h1 cs us (j + 1) (fun i u hi=>by
      have:=hget (i + 1) u (by simpa using hi)
      rwa [show j + 1 + i = j + (i + 1) by omega]) hV
theorem sub_freezeP (s : AS) (t k : Nat) {rs : List RV} (hk0 : k < 1000) (ht : s.tm t = .pt k (s.ver k) 0) (hc : (s.rows k).c = .box (rs.map .r)) :
 Sub s { s with tm:=upd s.tm t (.r (.rp rs)),rows:=upd s.rows k ⟨(s.rows k).ver + 1,.dead⟩ }:=fun C a w ⟨p,hp⟩=>by
 have h1:=hp.reRow (w':=w) k hk0 .dead rfl none 1 (by simp [maxLen]) rfl rfl rfl (Nat.le_refl _) (fun _ _ _=>rfl) (fun _ h=>by cases h) (fun p' ver' _ hβ hγ _=>by simp only [rowRel]; exact ⟨hβ,hγ⟩)
 have hval:=hp.tm t
 rw [ht] at hval
 have hr:=hp.rw k
 rw [hc] at hr
 simp only [rowRel] at hr
 obtain ⟨b,cs,ty,g1,g2,g3,g4⟩:=hr
 simp only [AV.rel] at hval
 obtain ⟨b',e1,e2⟩:=hval.2 trivial
 rw [g1] at e1
 injection e1 with e1
 subst e1
 obtain ⟨q1,_,q2⟩:=hp.bl k b g1
 have h2:=h1.publish (b:=b) q1 (q2.imp id fun h=>h.resolve_left (fun h=>by omega)) (fun j hj=>by
  have hj' : upd p.β k none j = some b:=hj
  by_cases e : j = k
  · subst e; rw [upd_same] at hj'; cases hj'
  · rw [upd_other _ _ e] at hj'; exact e (hp.ij j k b hj' g1)) (hp.ex.publish g1)
 refine ⟨_,{ h2 with tm:=fun j=>?_ }⟩
 show AV.rel w _ _ (upd s.tm t _ j) _
 by_cases hj : j = t
 · subst hj
   rw [upd_same]
   simp only [AV.rel,RV.rel]
   refine ⟨_,e2,.inr rfl,?_⟩
   exact relC_plain (fun _ h=>.inl h) g2 g4 _ _ _ (fun i u h=>by simpa using h) g3
 · rw [upd_other _ _ hj]
   exact h2.tm j
section
variable {n : Nat} {l : List (Nat × AV)} {vs : Nat → Nat} {cs : List (Nat × RowC)}
theorem sub_frzP (t k : Nat) (rs : List RV) (hk0 : k < 1000) (ht : look l t = .pt k (vs k) 0) (hc : lookc cs k = .box (rs.map .r)) :
 Sub (st n l vs cs) (st n ((t,.r (.rp rs)) :: l) (upd vs k (vs k + 1)) (delc cs k)):=by
 have:=sub_freezeP (st n l vs cs) t k hk0 ht hc
 have e : ({ st n l vs cs with tm:=upd (st n l vs cs).tm t (.r (.rp rs)),rows:=upd (st n l vs cs).rows k ⟨((st n l vs cs).rows k).ver + 1,.dead⟩ } : AS) = st n ((t,.r (.rp rs)) :: l) (upd vs k (vs k + 1)) (delc cs k):=by
  simp only [st,AS.mk.injEq,true_and]
  constructor
  · funext j
    show upd (look l) t (.r (.rp rs)) j = look ((t,.r (.rp rs)) :: l) j
    rfl
  · funext j
    rw [lookc_delc]
    unfold upd
    split <;> rfl
 rwa [e] at this
end
end Go.Oc

namespace Go.Oc
open Go Go.RowKit
set_option linter.unusedSimpArgs false
set_option linter.unusedVariables false
set_option linter.unnecessarySimpa false
section
variable {P : Program} {C : Ctx} {s : AS} {ops : Array Oper}
theorem aops_seq2 {Q : AS → Prop} {Q' : Exit → Act → World → Prop} {l2 : List Oper} {n : Nat} (hQ : ∀ s a w,s.n = n → Q s → SRel C s a w → wpListIn (fnc C.rd) 0 P ops Q' l2 a w) : ∀ (l : List Oper) (s : AS) (a : Act) (w : World),s.n = n → dstOk l.toArray s.n = true → aops P false ops l Q s → SRel C s a w → wpListIn (fnc C.rd) 0 P ops Q' (l ++ l2) a w
 | [],s,a,w,hn0,_,h,hs=>hQ s a w hn0 h hs
 | o :: l, s, a, w, hn0, hd, h, hs => by
   rw [List.cons_append]
   have hd0 : ∀ t,o.dst = some t → t < s.n:=dstOk_get (i:=0) hd (by simp)
   have hdl : dstOk l.toArray s.n = true:=by
    unfold dstOk at hd ⊢
    simp only [List.all_toArray,List.all_cons,Bool.and_eq_true] at hd ⊢
    exact hd.2
   obtain ⟨p,hp⟩:=hs
   have run : ∀ {s1 : AS},s1 = s → xop P false o (aops P false ops l Q) s1 → wantA ops s o = some true → wpListIn (fnc C.rd) 0 P ops Q' (o :: (l ++ l2)) a w:=fun e hop hw=>by
    subst e
    unfold wpListIn
    rw [if_pos (wantA_sound hp hw)]
    refine xop_sound hp hop hd0 (fun a' w' p' s' hs' hn hK=>?_) (dstOk_nd (i:=0) hd (by simp))
    exact aops_seq2 hQ l _ a' w' (hn.trans hn0) (by rw [hn]; exact hdl) hK ⟨p',hs'⟩
   have skip : ∀ {s1 : AS},s1 = s → aops P false ops l Q (s1.put o.dst (.r .ud)) → wantA ops s o = some false → wpListIn (fnc C.rd) 0 P ops Q' (o :: (l ++ l2)) a w:=fun e hop hw=>by
    subst e
    unfold wpListIn
    rw [wantA_sound hp hw]
    simp only [Bool.false_eq_true,if_false]
    refine ⟨fun _ _=>trivial,?_⟩
    have:=hp.put' (d:=o.dst) (av:=.r .ud) (v:=undef) (by simp only [AV.rel,RV.rel]) hd0
    exact aops_seq2 hQ l _ _ w ((put_n _ _ _).trans hn0) (by rw [put_n]; exact hdl) hop ⟨p,this⟩
   unfold aops at h
   split at h
   · rename_i hg
     exact run rfl h (by simp [wantA,hg])
   · rename_i g want hg
     split at h
     · rename_i ht
       exact skip rfl h (by simp [wantA,hg,ht])
     · rename_i t ht
       split at h
       · rename_i b hb
         by_cases hw : b = want
         · subst hw
           exact run (put_self hb) (h.1 rfl) (by simp [wantA,hg,ht,hb])
         · have hw' : b = !want:=by cases b <;> cases want <;> simp_all
           subst hw'
           exact skip (put_self hb) (h.2 rfl) (by simp [wantA,hg,ht,hb])
       · rename_i hb
         exact skip rfl h (by simp [wantA,hg,ht,hb])
       · exact h.elim
def sops (P : Program) (C : Ctx) (ops : Array Oper) (l : List Oper) (Q : Exit → AS → Prop) (s : AS) : Prop:=∀ a w,SRel C s a w → wpListIn (fnc C.rd) 0 P ops (fun e a' w'=>∃ s',SRel C s' a' w' ∧ Q e s') l a w
variable {Q : Exit → AS → Prop}
theorem awp_long {id : Nat} {l : List Oper} (h : sops P C l.toArray l Q s) : awp P C (.region id l.toArray false) Q s:=fun a w hs=>wpIn_region_list (h a w hs)
theorem sops_take (k : Nat) {l : List Oper} (hd : dstOk (l.take k).toArray s.n = true) (h : ∀ K : AS → Prop,(∀ s',s'.n = s.n → sops P C ops (l.drop k) Q s' → K s') → aops P false ops (l.take k) K s) : sops P C ops l Q s:=fun a w hs=>by
 have h1:=h (fun s'=>s'.n = s.n → sops P C ops (l.drop k) Q s') (fun s' _ hq _=>hq)
 have:=aops_seq2 (Q':=fun e a' w'=>∃ s',SRel C s' a' w' ∧ Q e s') (l2:=l.drop k) (n:=s.n) (fun s' a' w' hn hq hs'=>hq hn a' w' hs') (l.take k) s a w rfl hd h1 hs
 rwa [List.take_append_drop] at this
theorem sops_sub {l : List Oper} {s' : AS} (h : Sub s s') (hq : sops P C ops l Q s') : sops P C ops l Q s:=fun a w hs=>hq a w (h C a w hs)
theorem sops_end {l : List Oper} (hd : dstOk l.toArray s.n = true) (h : ∀ K : AS → Prop,(∀ s,Q .normal s → K s) → aops P false ops l K s) : sops P C ops l Q s:=fun a w hs =>
 aops_seq (fun s a w hq hs=>⟨s,hs,hq⟩) l s a w hd (h _ fun _ h=>h) hs
theorem awp_fitV {c : Code} {n : Nat} {F : (Nat → Nat) → List (Nat × AV)} {R : (Nat → Nat) → List (Nat × RowC)} (h : FitV n F R s) (k : ∀ vs,awp P C c Q (st n (F vs) vs (R vs))) : awp P C c Q s:=by
 obtain ⟨vs,h⟩:=h
 exact zw h (k vs)
theorem awp_joinV {n : Nat} {c d : Code} {Q1 : Exit → AS → Prop} {α : Type} (F : α → (Nat → Nat) → List (Nat × AV)) (R : α → (Nat → Nat) → List (Nat × RowC)) (I : α → Prop)
 (h0 : ∀ s,awp P C d Q1 s → Q .normal s) (h1 : awp P C c (andThen (fun s'=>∃ z,I z ∧ FitV n (F z) (R z) s') Q) s) (h2 : ∀ z vs,I z → awp P C d Q1 (st n (F z vs) vs (R z vs))) : awp P C c Q s:=by
 refine awp_mono ?_ h1
 intro e s' hq
 cases e with
 | normal =>
   obtain ⟨z,hz,hf⟩:=hq
   exact h0 s' (awp_fitV hf fun vs=>h2 z vs hz)
 | _=>exact hq
end
end Go.Oc

namespace Go.Oc
open Go Go.RowKit
set_option linter.unusedSimpArgs false
set_option linter.unusedVariables false
def ICalls (P : Program) (z : Bool) (F : FuncId) (caps : List RV) (xs : List (List RV)) : Prop :=
 callable P F = true ∧ ∀ (w : World) (R : Nat → Prop) (vs : Array Value) (X : XS) (Ψ Θ : Nat → Prop),(∀ b,R b → b < w.heap.size) → RV.relV w R caps vs.toList → X.z = z → (z = false → ∀ b,R b → X.R b) → X.n0 ≤ w.heap.size → YOk P X →
  (∀ b,Ψ b → b < w.heap.size) → (∀ b,Θ b → b < w.heap.size) → (∀ b,R b → ¬ Θ b) → X.X (some xs) w Ψ Θ →
  Calls P F (#[.func (.yield X.l) #[] #[]] ++ vs) w fun e w'=>(∃ v,e = .returned v) ∧ (∃ Ψ' Θ',X.X (some []) w' Ψ' Θ' ∨ X.X none w' Ψ' Θ')
def ipost (P : Program) : Exit → AS → Prop
 | .normal,s=>∃ l z,(s.rows 999).c = .gh P l z (some []) ∨ (s.rows 999).c = .gh P l z none
 | .ret,s=>∃ l z,(s.rows 999).c = .gh P l z (some []) ∨ (s.rows 999).c = .gh P l z none
 | _,_=>False
section
variable {P : Program} {C : Ctx} {p p1 p3 : Plan} {s s1 s3 : AS} {a a1 a3 : Act} {w w1 w2 w3 : World} {L : Nat} {R : Nat → Prop}
def Cin (C : Ctx) (p : Plan) (R : Nat → Prop) (w : World) (rd : Option Nat) (Hd : Nat → Prop) : Ctx :=
 { w0:=w,R0:=fun b=>p.R b ∨ R b,bor:=fun b=>C.bor b ∧ ∃ k,1000 ≤ k ∧ p.β k = some b,pin:=C.pin,own:=fun b=>∃ k,p.β k = some b ∧ ¬ (1000 ≤ k ∧ C.bor b),X:=C.X,rd:=rd,hd:=Hd }
theorem own_of {k b : Nat} (h : p.β k = some b) : (1000 ≤ k ∧ (C.bor b ∧ ∃ k,1000 ≤ k ∧ p.β k = some b)) ∨ ∃ k,p.β k = some b ∧ ¬ (1000 ≤ k ∧ C.bor b):=by
 by_cases e : 1000 ≤ k ∧ C.bor b
 · exact .inl ⟨e.1,e.2,k,e.1,h⟩
 · exact .inr ⟨k,h,e⟩
theorem SR.into (h : SR C p s a w) (hn : ∀ o w Ψ Θ,¬ C.X.X o w Ψ Θ) (hos : w2.os = w.os) (htape : w2.tape = w.tape) (hout : w2.output = w.output) (hsize : w2.heap.size = w.heap.size) (hoth : ∀ b,b ≠ L → w2.heap[b]? = w.heap[b]?)
 (hLR : ¬ p.R L) (hLβ : ∀ k,p.β k ≠ some L) (hR : ∀ b,R b → b < w.heap.size ∧ ∀ k,p.β k ≠ some b) {a' : Act} {tm' : Nat → AV} (htm : ∀ t,(tm' t).rel w2 { p with R:=fun b=>p.R b ∨ R b } s.ver (a'.tmps.getD t undef))
 (hsz : a'.tmps.size = s.n) (hdf : a'.defers = []) {rd : Option Nat} {Hd : Nat → Prop} (hHd : ∀ b,Hd b → b < w.heap.size ∧ ¬ C.bor b ∧ ¬ p.R b ∧ ¬ R b ∧ ∀ k,p.β k ≠ some b) (hC : C.X = XS.none) :
 SR (Cin C p R w2 rd Hd) { p with R:=fun b=>p.R b ∨ R b } { s with tm:=tm' } a' w2:=by
 have hk : Kept w w2 p { p with R:=fun b=>p.R b ∨ R b } s.ver s.ver :=
  ⟨fun _ h=>.inl h,fun ad hr=>World.cell?_of_block (hoth _ fun e=>hLR (e ▸ hr)),fun _=>Nat.le_refl _,fun _ _=>⟨rfl,rfl⟩⟩
 have hψ:=h.ex.ψn hn
 exact {
  base:=⟨rfl,rfl,rfl,Nat.le_refl _,fun _ _ _ _=>rfl⟩
  r0:=fun _ h=>h
  rn:=fun _ h=>.inl h
  rb:=fun b hb=>by rw [hsize]; exact hb.elim (h.rb b) (fun hb=>(hR b hb).1)
  tm:=htm
  sz:=hsz
  ex:={
   px:=h.ex.px
   n0:=by show C.X.n0 ≤ _; rw [hC]; exact Nat.zero_le _
   ψ0:=fun hz=>by have : C.X.z = false:=hz; rw [hC] at this; cases this
   ψl:=fun b hb=>((hψ b).1 hb).elim
   θl:=fun b hb=>((hψ b).2 hb).elim
   ψb:=fun k b _=>hψ b
   ψr:=fun b _=>(hψ b).2
   ψo:=fun b _=>by show C.X.n0 ≤ _; rw [hC]; exact Nat.zero_le _
   θo:=fun b hb=>((hψ b).2 hb).elim
   bo:=fun b hb=>by
    show b < w2.heap.size
    rw [hsize]
    rcases hb with ⟨_,k,_,hk⟩ | ⟨k,hk,_⟩
    · exact (h.bl k b hk).1
    · exact (h.bl k b hk).1
   ψn:=fun _ b=>hψ b
   hd:=fun b hb=>by
    obtain ⟨g1,g2,g3,g4,g5⟩:=hHd b hb
    exact ⟨by show b < w2.heap.size; rw [hsize]; exact g1,fun ⟨g,_⟩=>g2 g,fun ⟨k,g,_⟩=>g5 k g,by rw [hsize]; exact g1,fun g=>g.elim g3 g4,(hψ b).1,(hψ b).2,g5⟩
   rm:=fun _=>hdf
   df:=⟨[],hdf,List.nodup_nil,fun D hD=>by cases hD⟩ }
  rw:=fun k=>by
   by_cases e : k = 999
   · have hr:=h.rw k
     show rowRel w2 _ s.ver k (s.rows k).c
     cases hc : (s.rows k).c with
     | gh P' l z left =>
       rw [hc] at hr
       simp only [rowRel] at hr
       exact (hn _ _ _ _ (h.ex.px ▸ hr.2.2.2.2.2.2)).elim
     | _ =>
       refine rowRel_mono hk (.inr ⟨rfl,rfl,rfl,hos,htape,hout,Nat.le_of_eq hsize.symm,fun b hb=>((hψ b).1 hb).elim⟩) rfl rfl (fun b hb=>hoth b fun e=>hLβ k (e ▸ hb)) _ (fun km _ _ _ _ _ b hb=>hoth b fun e=>hLβ km (e ▸ hb)) (by rw [hc] at hr; exact hr)
   · exact rowRel_mono hk (.inl e) rfl rfl (fun b hb=>hoth b fun e=>hLβ k (e ▸ hb)) _ (fun km _ _ _ _ _ b hb=>hoth b fun e=>hLβ km (e ▸ hb)) (h.rw k)
  bl:=fun k b hb=>⟨by rw [hsize]; exact (h.bl k b hb).1,fun hr=>hr.elim (h.bl k b hb).2.1 (fun hr=>(hR b hr).2 k hb),.inr (own_of hb)⟩
  ij:=h.ij
  cap:=h.cap
  pn:=h.pn
  lk:=h.lk }
structure Hop (C : Ctx) (p : Plan) (w : World) (L : Nat) (R : Nat → Prop) (p3 : Plan) (w3 : World) : Prop where
 os : w3.os = w.os
 tape : w3.tape = w.tape
 output : w3.output = w.output
 size : w.heap.size ≤ w3.heap.size
 heap : ∀ b,b < w.heap.size → (∀ k,p.β k ≠ some b) → b ≠ L → w3.heap[b]? = w.heap[b]?
 r : ∀ b,p.R b → p3.R b
 rn : ∀ b,p3.R b → p.R b ∨ R b ∨ w.heap.size ≤ b ∨ ∃ k,p.β k = some b ∧ ¬ (1000 ≤ k ∧ C.bor b)
 bl : ∀ k b,p3.β k = some b → w.heap.size ≤ b ∨ (1000 ≤ k ∧ C.bor b ∧ ∃ k,1000 ≤ k ∧ p.β k = some b) ∨ ∃ k,p.β k = some b ∧ ¬ (1000 ≤ k ∧ C.bor b)
theorem Hop.of (hos : w2.os = w.os) (htape : w2.tape = w.tape) (hout : w2.output = w.output) (hsize : w2.heap.size = w.heap.size) (hoth : ∀ b,b ≠ L → w2.heap[b]? = w.heap[b]?) {rd : Option Nat} {Hd : Nat → Prop}
 (h : SR (Cin C p R w2 rd Hd) p3 s3 a3 w3) : Hop C p w L R p3 w3 where
 os:=h.base.os.trans hos
 tape:=h.base.tape.trans htape
 output:=h.base.output.trans hout
 size:=hsize ▸ h.base.size
 heap:=fun b hb hn hl=>(h.base.block b (by show b < w2.heap.size; rw [hsize]; exact hb) (fun ⟨_,k,_,hk⟩=>hn k hk) (fun ⟨k,hk,_⟩=>hn k hk)).trans (hoth b hl)
 r:=fun b hb=>h.r0 b (.inl hb)
 rn:=fun b hb=>by
  rcases h.rn b hb with g | g | g
  · exact g.elim .inl (fun g=>.inr (.inl g))
  · exact .inr (.inr (.inl (by rw [← hsize]; exact g)))
  · exact .inr (.inr (.inr g))
 bl:=fun k b hb=>by
  rcases (h.bl k b hb).2.2 with g | ⟨g1,g2,k',g3,g4⟩ | g
  · exact .inl (by rw [← hsize]; exact g)
  · exact .inr (.inl ⟨g1,g2,k',g3,g4⟩)
  · exact .inr (.inr g)
theorem Hop.trans (h : Hop C p w L R p1 w1) {C' : Ctx} (hCb : ∀ b,C'.bor b ↔ C.bor b ∧ ∃ k,1000 ≤ k ∧ p.β k = some b) (h' : Hop C' p1 w1 L (fun _=>False) p3 w3) : Hop C p w L R p3 w3 where
 os:=h'.os.trans h.os
 tape:=h'.tape.trans h.tape
 output:=h'.output.trans h.output
 size:=Nat.le_trans h.size h'.size
 heap:=fun b hb hn hl=>by
  refine (h'.heap b (Nat.lt_of_lt_of_le hb h.size) (fun k hk=>?_) hl).trans (h.heap b hb hn hl)
  rcases h.bl k b hk with g | ⟨_,_,k',_,g⟩ | ⟨k',g,_⟩
  · omega
  · exact hn k' g
  · exact hn k' g
 r:=fun b hb=>h'.r b (h.r b hb)
 rn:=fun b hb=>by
  rcases h'.rn b hb with g | g | g | ⟨k,g,g'⟩
  · exact h.rn b g
  · exact g.elim
  · exact .inr (.inr (.inl (Nat.le_trans h.size g)))
  · rcases h.bl k b g with g1 | ⟨g1,g2,g3⟩ | g1
    · exact .inr (.inr (.inl g1))
    · exact (g' ⟨g1,(hCb b).2 ⟨g2,g3⟩⟩).elim
    · exact .inr (.inr (.inr g1))
 bl:=fun k b hb=>by
  rcases h'.bl k b hb with g | ⟨g1,g2,_⟩ | ⟨k',g1,g2⟩
  · exact .inl (Nat.le_trans h.size g)
  · exact .inr (.inl ⟨g1,((hCb b).1 g2).1,((hCb b).1 g2).2⟩)
  · rcases h.bl k' b g1 with q | ⟨q1,q2,q3⟩ | q
    · exact .inl q
    · exact (g2 ⟨q1,(hCb b).2 ⟨q2,q3⟩⟩).elim
    · exact .inr (.inr q)
theorem Hop.put (h : Hop C p w L R p3 w3) {o : Obj} : Hop C p w L R p3 (w3.putObj L o) where
 os:=h.os
 tape:=h.tape
 output:=h.output
 size:=by rw [World.putObj_size]; exact h.size
 heap:=fun b hb hn hl=>(World.putObj_heap_other hl).trans (h.heap b hb hn hl)
 r:=h.r
 rn:=h.rn
 bl:=h.bl
theorem SR.land (h0 : SR C p s a w) (hn : ∀ o w Ψ Θ,¬ C.X.X o w Ψ Θ) (hL0 : C.w0.heap.size ≤ L) (hLm : ∀ d ∈ a.defers,d.target ≠ .collected L) (hop : Hop C p w L R p3 w3)
 (hR : ∀ b,R b → b < w.heap.size ∧ (∀ d ∈ a.defers,d.target ≠ .collected b) ∧ ¬ C.hd b ∧ (C.R0 b ∨ C.w0.heap.size ≤ b ∨ C.own b)) {C' : Ctx} (hpin : C'.pin = C.pin) (hX : C'.X = C.X) (h3 : SR C' p3 s3 a3 w2) (hLR : ¬ p3.R L) (hLβ : ∀ k,p3.β k ≠ some L)
 (hos : w3.os = w2.os) (htape : w3.tape = w2.tape) (hout : w3.output = w2.output) (hsize : w3.heap.size = w2.heap.size) (hoth : ∀ b,b ≠ L → w3.heap[b]? = w2.heap[b]?) :
 SR C p3 { n:=s.n,tm:=fun _=>.r .un,rows:=s3.rows } a w3:=by
 have hψ:=h3.ex.ψn (by rw [hX]; exact hn)
 have hk : Kept w2 w3 p3 p3 s3.ver s3.ver:=⟨fun _ h=>h,fun ad hr=>World.cell?_of_block (hoth _ fun e=>hLR (e ▸ hr)),fun _=>Nat.le_refl _,fun _ _=>⟨rfl,rfl⟩⟩
 have hx : KX w2 w3 p3 p3:=⟨rfl,rfl,rfl,hos,htape,hout,Nat.le_of_eq hsize.symm,fun b hb=>((hψ b).1 hb).elim⟩
 have hβC : ∀ k b,p3.β k = some b → C.w0.heap.size ≤ b ∨ (1000 ≤ k ∧ C.bor b) ∨ C.own b:=fun k b hb=>by
  rcases hop.bl k b hb with g | ⟨g1,g2,_⟩ | ⟨k',g1,g2⟩
  · exact .inl (Nat.le_trans h0.base.size g)
  · exact .inr (.inl ⟨g1,g2⟩)
  · rcases (h0.bl k' b g1).2.2 with q | q | q
    · exact .inl q
    · exact (g2 q).elim
    · exact .inr (.inr q)
 have hout' : ∀ b,b < w.heap.size → (∀ k,p.β k ≠ some b) → (∀ k,p3.β k = some b → 1000 ≤ k ∧ C.bor b ∧ ∃ k,1000 ≤ k ∧ p.β k = some b):=fun b hb hn k hk=>by
  rcases hop.bl k b hk with g | g | ⟨k',g1,_⟩
  · omega
  · exact g
  · exact (hn k' g1).elim
 exact {
  base:=⟨hop.os.trans h0.base.os,hop.tape.trans h0.base.tape,hop.output.trans h0.base.output,Nat.le_trans h0.base.size hop.size,fun b hb hbor hown=>by
   refine (hop.heap b (Nat.lt_of_lt_of_le hb h0.base.size) (fun k hk=>?_) (fun e=>by omega)).trans (h0.base.block b hb hbor hown)
   rcases (h0.bl k b hk).2.2 with g | g | g
   · omega
   · exact hbor g.2
   · exact hown g⟩
  r0:=fun b hb=>hop.r b (h0.r0 b hb)
  rn:=fun b hb=>by
   rcases hop.rn b hb with g | g | g | ⟨k,g1,g2⟩
   · exact h0.rn b g
   · exact (hR b g).2.2.2
   · exact .inr (.inl (Nat.le_trans h0.base.size g))
   · rcases (h0.bl k b g1).2.2 with q | q | q
     · exact .inr (.inl q)
     · exact (g2 q).elim
     · exact .inr (.inr q)
  rb:=fun b hb=>hsize ▸ h3.rb b hb
  tm:=fun t=>AV.rel_un _ _ _ _
  sz:=h0.sz
  ex:={
   px:=h3.ex.px.trans hX
   n0:=h0.ex.n0
   ψ0:=h0.ex.ψ0
   ψl:=fun b hb=>((hψ b).1 hb).elim
   θl:=fun b hb=>((hψ b).2 hb).elim
   ψb:=fun k b _=>hψ b
   ψr:=fun b _=>(hψ b).2
   ψo:=h0.ex.ψo
   θo:=fun b hb=>((hψ b).2 hb).elim
   bo:=h0.ex.bo
   ψn:=fun _ b=>hψ b
   hd:=fun b hb=>by
    obtain ⟨k1,k2,k3,k4,k5,k6,k7,k8⟩:=h0.ex.hd b hb
    refine ⟨k1,k2,k3,Nat.lt_of_lt_of_le k4 hop.size,fun g=>?_,(hψ b).1,(hψ b).2,fun k hk=>?_⟩
    · rcases hop.rn b g with g | g | g | ⟨k,g,_⟩
      · exact k5 g
      · exact (hR b g).2.2.1 hb
      · omega
      · exact k8 k g
    · exact k2 (hout' b k4 k8 k hk).2.1
   rm:=h0.ex.rm
   df:=by
    obtain ⟨Ds,g1,g2,g3⟩:=h0.ex.df
    refine ⟨Ds,g1,g2,fun D hD=>?_⟩
    have hmem : ({ target:=.collected D,args:=#[] } : Deferred) ∈ a.defers:=by rw [g1]; exact List.mem_map.2 ⟨D,hD,rfl⟩
    obtain ⟨k1,k2,k3,k4,k5,k6⟩:=g3 D hD
    have hlt : D < w.heap.size:=(Array.getElem?_eq_some_iff.1 k1).1
    refine ⟨(hop.heap D hlt k4 fun e=>hLm _ hmem (by rw [e])).trans k1,k2,fun g=>?_,fun k hk=>?_,(hψ D).1,(hψ D).2⟩
    · rcases hop.rn D g with g | g | g | ⟨k,g,_⟩
      · exact k3 g
      · exact (hR D g).2.1 _ hmem rfl
      · omega
      · exact k4 k g
    · have:=h0.ex.bo D (.inl (hout' D hlt k4 k hk).2.1); omega }
  rw:=fun k=>by
   show rowRel w3 p3 s3.ver k (s3.rows k).c
   exact rowRel_mono hk (.inr hx) rfl rfl (fun b hb=>hoth b fun e=>hLβ k (e ▸ hb)) _ (fun km _ _ _ _ _ b hb=>hoth b fun e=>hLβ km (e ▸ hb)) (h3.rw k)
  bl:=fun k b hb=>⟨by rw [hsize]; exact (h3.bl k b hb).1,(h3.bl k b hb).2.1,hβC k b hb⟩
  ij:=h3.ij
  cap:=h3.cap
  pn:=fun k x hx=>h3.pn k x (by rw [hpin]; exact hx)
  lk:=h3.lk }
end
end Go.Oc

namespace Go.Oc
open Go Go.RowKit
set_option linter.unusedSimpArgs false
set_option linter.unusedVariables false
section
variable {P : Program} {C : Ctx} {p : Plan} {s : AS} {a : Act} {w : World}
theorem SR.enter (h : SR C p s a w) (hrd : C.rd = none) (o1 : Loop) :
 SR C p s { tmps:=a.tmps,defers:={ target:=.collected w.heap.size,args:=#[] } :: a.defers } ((w.alloc (.deferred (some []))).alloc (.loop o1)):=by
 have h1 : SR C p s a ((w.alloc (.deferred (some []))).alloc (.loop o1)) :=
  h.below (R':=p.R) (((Below.refl _ w).alloc (Nat.le_refl _) _).alloc (by simp) _) (fun _ h=>h) (fun _ h=>.inl h) (fun b hb=>by have:=h.rb b hb; simp; omega)
 have hnew : ((w.alloc (.deferred (some []))).alloc (.loop o1)).heap[w.heap.size]? = some (.deferred (some [])):=(Below.heap_alloc _ _ _ (by simp)).trans (World.alloc_heap_new w _)
 refine h1.other rfl rfl rfl rfl (Nat.le_refl _) (fun _ _ _=>rfl) { h1.ex with rm:=fun hr=>absurd hr (by rw [hrd]; simp),df:=?_ }
 obtain ⟨Ds,g1,g2,g3⟩:=h.ex.df
 obtain ⟨Ds',g1',_,g3'⟩:=h1.ex.df
 have he : Ds' = Ds:=marks_inj (g1'.symm.trans g1)
 subst he
 refine ⟨w.heap.size :: Ds',by rw [g1]; rfl,List.nodup_cons.2 ⟨fun hD=>?_,g2⟩,fun D hD=>?_⟩
 · have:=(Array.getElem?_eq_some_iff.1 (g3 _ hD).1).1; omega
 · rcases List.mem_cons.1 hD with rfl | hD
   · exact ⟨hnew,h.base.size,fun hr=>by have:=h.rb _ hr; omega,fun k hk=>by have:=(h.bl k _ hk).1; omega,fun hr=>by have:=h.ex.ψl _ hr; omega,fun hr=>by have:=h.ex.θl _ hr; omega⟩
   · exact g3' D hD
theorem SR.wait (h : SR C p s a w) (hdead : (s.rows 0).c = .dead) (ts : List Nat) :
 SR C p { n:=s.n,tm:=fun _=>.r .un,rows:=upd s.rows 0 ⟨(s.rows 0).ver,.sus (ts.map s.tm) (ts.map fun t=>a.tmps.getD t undef)⟩ } a w:=by
 have hv : AS.ver { n:=s.n,tm:=fun _=>.r .un,rows:=upd s.rows 0 ⟨(s.rows 0).ver,.sus (ts.map s.tm) (ts.map fun t=>a.tmps.getD t undef)⟩ } = s.ver:=by
  funext j
  show (upd s.rows 0 _ j).ver = (s.rows j).ver
  unfold upd; split
  · rename_i e; subst e; rfl
  · rfl
 exact {
  base:=h.base
  r0:=h.r0
  rn:=h.rn
  rb:=h.rb
  tm:=fun t=>AV.rel_un _ _ _ _
  sz:=h.sz
  ex:=h.ex
  rw:=fun k=>by
   rw [hv]
   show rowRel w p s.ver k (upd s.rows 0 _ k).c
   by_cases e : k = 0
   · subst e
     rw [upd_same]
     have hr:=h.rw 0
     rw [hdead] at hr
     simp only [rowRel] at hr ⊢
     refine ⟨hr.1,hr.2,?_⟩
     clear hv hr
     induction ts with
     | nil=>simp [AV.relV]
     | cons t ts ih=>simp only [List.map_cons,AV.relV]; exact ⟨_,_,rfl,h.tm t,ih⟩
   · rw [upd_other _ _ e]; exact h.rw k
  bl:=h.bl
  ij:=h.ij
  cap:=h.cap
  pn:=fun k x hx=>by rw [hv]; exact h.pn k x hx
  lk:=fun j km n l cur hj hn=>by
   rw [hv] at hn
   show (upd s.rows 0 _ km).c.isMpi = true
   have hj' : (upd s.rows 0 ⟨(s.rows 0).ver,.sus (ts.map s.tm) (ts.map fun t=>a.tmps.getD t undef)⟩ j).c = .mi km n l cur:=hj
   by_cases e : j = 0
   · subst e; rw [upd_same] at hj'; cases hj'
   · rw [upd_other _ _ e] at hj'
     have h5:=h.lk j km n l cur hj' hn
     have e2 : km ≠ 0:=fun e2=>by rw [e2,hdead] at h5; cases h5
     rw [upd_other _ _ e2]; exact h5 }
def psA : List Nat → List RV → (Nat → AV) → Nat → AV
 | t :: ts,x :: xs,tm=>psA ts xs (upd tm t (.r x))
 | _,_,tm=>tm
theorem look_zip {ver : Nat → Nat} {f : Nat → Value} : ∀ {ts : List Nat} {avs : List AV},AV.relV w p ver avs (ts.map f) → ∀ t,(look (ts.zip avs) t).rel w p ver (f t)
 | [],_,_,t=>by simp only [List.zip_nil_left]; exact AV.rel_un _ _ _ _
 | _ :: _,[],_,t=>by simp only [List.zip_nil_right]; exact AV.rel_un _ _ _ _
 | t0 :: ts, x :: avs, h, t => by
   simp only [List.map_cons,AV.relV] at h
   obtain ⟨u,us,he,h1,h2⟩:=h
   injection he with e1 e2
   subst e1 e2
   simp only [List.zip_cons_cons]
   show ((if t = t0 then x else look (ts.zip avs) t)).rel w p ver (f t)
   split
   · rename_i e; subst e; exact h1
   · exact look_zip h2 t
theorem psA_rel {ver : Nat → Nat} : ∀ (ts : List Nat) (es : List RV) (vs : List Value) (tm : Nat → AV) (tmps : Array Value),RV.relV w p.R es vs → (∀ t ∈ ts,t < tmps.size) → (∀ t,(tm t).rel w p ver (tmps.getD t undef)) →
 ((ts.zip vs).foldl (fun tmps (x : Nat × Value)=>tmps.setIfInBounds x.1 x.2) tmps).size = tmps.size ∧ ∀ t,(psA ts es tm t).rel w p ver (((ts.zip vs).foldl (fun tmps (x : Nat × Value)=>tmps.setIfInBounds x.1 x.2) tmps).getD t undef)
 | [],_,_,tm,tmps,_,_,h=>⟨rfl,h⟩
 | t0 :: ts, [], vs, tm, tmps, hV, _, h => by
   simp only [RV.relV] at hV
   subst hV
   exact ⟨rfl,h⟩
 | t0 :: ts, x :: es, vs, tm, tmps, hV, hlt, h => by
   simp only [RV.relV] at hV
   obtain ⟨u,us,rfl,h1,h2⟩:=hV
   simp only [List.zip_cons_cons,List.foldl_cons]
   have h3:=psA_rel (ver:=ver) ts es us (upd tm t0 (.r x)) (tmps.setIfInBounds t0 u) h2 (fun t ht=>by simpa using hlt t (by simp [ht])) (fun t=>by
    by_cases e : t = t0
    · subst e
      rw [upd_same]
      have : t < tmps.size:=hlt t (by simp)
      have e2 : (tmps.setIfInBounds t u).getD t undef = u:=by simp [Array.getD,this]
      rw [e2]
      simpa only [AV.rel] using h1
    · rw [upd_other _ _ e]
      have e2 : (tmps.setIfInBounds t0 u).getD t undef = tmps.getD t undef:=by simp only [Array.getD_eq_getD_getElem?,Array.getElem?_setIfInBounds_ne (Ne.symm e)]
      rw [e2]; exact h t)
   exact ⟨h3.1.trans (by simp),h3.2⟩
theorem look_nil' : look [] = fun _=>AV.r .un:=funext fun _=>rfl
def rpost (n : Nat) (I : List (List RV) → List Value → AS → Prop) (J : Code → List Value → AS → Prop) (rest : List (List RV)) (us : List Value) : Exit → AS → Prop
 | .normal,s=>∃ s4,Sub s s4 ∧ I rest us ⟨n,look [],s4.rows⟩
 | .ret,s=>∃ s4,Sub s s4 ∧ J .ret us ⟨n,look [],s4.rows⟩
 | .exit id,s=>∃ s4,Sub s s4 ∧ J (.exit id) us ⟨n,look [],s4.rows⟩
 | .goto l,s=>∃ s4,Sub s s4 ∧ J (.goto l) us ⟨n,look [],s4.rows⟩
 | _,_=>False
def XJ (C : Ctx) (aL : Act) (L : Nat) (rec : LoopState → Option Code → Loop) (I : List (List RV) → AS → Prop) (J : Code → AS → Prop) (o : Option (List (List RV))) (w : World) (Ψ Θ : Nat → Prop) : Prop :=
 ∃ p s, SR C p s aL w ∧ s.n = aL.tmps.size ∧ (match o with
   | some left=>I left s ∧ w.heap[L]? = some (.loop (rec .ready none))
   | none=>∃ c,J c s ∧ w.heap[L]? = some (.loop (rec .done (some c)))) ∧ ¬ p.R L ∧ (∀ k,p.β k ≠ some L) ∧
   (∀ b,Ψ b ↔ p.R b ∨ (∃ k,p.β k = some b) ∨ (b < C.w0.heap.size ∧ ¬ C.bor b ∧ ¬ C.own b) ∨ b = L ∨ C.hd b ∨ ∃ d ∈ aL.defers,d.target = .collected b) ∧ (∀ b,Θ b ↔ (∃ k,p.β k = some b) ∨ b = L)
theorem XJ.st (hn : ∀ o w Ψ Θ,¬ C.X.X o w Ψ Θ) {aL : Act} {L : Nat} {rec : LoopState → Option Code → Loop} {I : List (List RV) → AS → Prop} {J : Code → AS → Prop} {o : Option (List (List RV))} {w w' : World} {Ψ Θ : Nat → Prop} (h : XJ C aL L rec I J o w Ψ Θ)
 (hos : w'.os = w.os) (htape : w'.tape = w.tape) (hout : w'.output = w.output) (hsize : w.heap.size ≤ w'.heap.size) (hh : ∀ b,Ψ b → w'.heap[b]? = w.heap[b]?) : XJ C aL L rec I J o w' Ψ Θ:=by
 obtain ⟨p,s,hS,hsn,ho,hLR,hLβ,hΨ,hΘ⟩:=h
 have hψ:=hS.ex.ψn hn
 refine ⟨p,s,hS.other rfl hos htape hout hsize (fun b hb hf=>hh b ((hΨ b).2 ?_)) ?_,hsn,?_,hLR,hLβ,hΨ,hΘ⟩
 · rcases hf with g | g | g | g
   · exact .inl g
   · exact .inr (.inl g)
   · exact .inr (.inr (.inl g))
   · exact ((hψ b).1 g).elim
 · obtain ⟨Ds,g1,g2,g3⟩:=hS.ex.df
   exact { hS.ex with
    ψl:=fun b hb=>((hψ b).1 hb).elim
    θl:=fun b hb=>((hψ b).2 hb).elim
    hd:=fun b hb=>by
     obtain ⟨k1,k2,k3,k4,k5⟩:=hS.ex.hd b hb
     exact ⟨k1,k2,k3,Nat.lt_of_lt_of_le k4 hsize,k5⟩
    df:=⟨Ds,g1,g2,fun D hD=>by
     obtain ⟨k1,k2⟩:=g3 D hD
     refine ⟨(hh D ((hΨ D).2 (.inr (.inr (.inr (.inr (.inr ⟨{ target:=.collected D,args:=#[] },?_,rfl⟩))))))).trans k1,k2⟩
     rw [g1]; exact List.mem_map.2 ⟨D,hD,rfl⟩⟩ }
 · have hL:=hh L ((hΨ L).2 (.inr (.inr (.inr (.inl rfl)))))
   cases o with
   | some left=>exact ⟨ho.1,hL.trans ho.2⟩
   | none =>
     obtain ⟨c,h1,h2⟩:=ho
     exact ⟨c,h1,hL.trans h2⟩
theorem callee_eval (h : SR C p s a w) {f : Operand} {F : FuncId} {cs : List AV} (hF : callee? (s.ev f) = some (F,cs)) : ∃ vs : Array Value,a.eval f = .func (.func F) #[] vs ∧ AV.relV w p s.ver cs vs.toList:=by
 have hx:=h.ev f
 unfold callee? at hF
 split at hF
 · rename_i g cs' e
   injection hF with hF
   injection hF with h1 h2
   subst h1 h2
   rw [e] at hx
   simp only [AV.rel,RV.rel] at hx
   obtain ⟨vs,hv,hV⟩:=hx
   exact ⟨vs,hv,AV.relV_map_r hV⟩
 · rename_i g cs' e
   injection hF with hF
   injection hF with h1 h2
   subst h1 h2
   rw [e] at hx
   simp only [AV.rel] at hx
   exact hx
 · cases hF
theorem SR.awake (h : SR C p s a w) {avs : List AV} {ts : List Nat} (hrow : (s.rows 0).c = .sus avs (ts.map fun t=>a.tmps.getD t undef)) : SR C p ⟨s.n,look (ts.zip avs),s.rows⟩ a w :=
 { h with
   tm:=fun t=>by
    have hr:=h.rw 0
    rw [hrow] at hr
    simp only [rowRel] at hr
    exact look_zip (f:=fun t=>a.tmps.getD t undef) hr.2.2 t }
theorem putObj_other {w : World} {L : Nat} {o : Obj} : ∀ b,b ≠ L → (w.putObj L o).heap[b]? = w.heap[b]?:=fun b hb=>World.putObj_heap_other hb
theorem SR.turn (h : SR C p s a w) {L : Nat} {o : Obj} (hLR : ¬ p.R L) (hLβ : ∀ k,p.β k ≠ some L) (hL0 : C.w0.heap.size ≤ L) (hψ : ∀ b,¬ p.Ψ b ∧ ¬ p.Θ b) (hLm : ∀ d ∈ a.defers,d.target ≠ .collected L) : SR C p s a (w.putObj L o):=by
 refine h.other rfl rfl rfl rfl (Nat.le_of_eq World.putObj_size.symm) (fun b _ hb=>putObj_other b fun e=>?_) ?_
 · subst e
   rcases hb with g | ⟨k,g⟩ | g | g
   · exact hLR g
   · exact hLβ k g
   · omega
   · exact (hψ b).1 g
 · obtain ⟨Ds,g1,g2,g3⟩:=h.ex.df
   exact { h.ex with
    ψl:=fun b hb=>((hψ b).1 hb).elim
    θl:=fun b hb=>((hψ b).2 hb).elim
    hd:=fun b hb=>by rw [World.putObj_size]; exact h.ex.hd b hb
    df:=⟨Ds,g1,g2,fun D hD=>by
     obtain ⟨k1,k2⟩:=g3 D hD
     refine ⟨(putObj_other D fun e=>hLm { target:=.collected D,args:=#[] } ?_ (by rw [e])).trans k1,k2⟩
     rw [g1]; exact List.mem_map.2 ⟨D,hD,rfl⟩⟩ }
set_option maxHeartbeats 400000 in
end
end Go.Oc

namespace Go.Oc
open Go Go.RowKit
set_option linter.unusedSimpArgs false
set_option linter.unusedVariables false
def psL : List Nat → List RV → List (Nat × AV) → List (Nat × AV)
 | t :: ts,x :: xs,l=>psL ts xs ((t,.r x) :: l)
 | _,_,l=>l
theorem psL_nil {l : List (Nat × AV)} : psL [] [] l = l:=rfl
theorem psL_cons {t : Nat} {ts : List Nat} {x : RV} {xs : List RV} {l : List (Nat × AV)} : psL (t :: ts) (x :: xs) l = psL ts xs ((t,.r x) :: l):=rfl
theorem psA_look : ∀ (ts : List Nat) (xs : List RV) (l : List (Nat × AV)),psA ts xs (look l) = look (psL ts xs l)
 | [],_,_=>rfl
 | _ :: _,[],_=>rfl
 | t :: ts, x :: xs, l => by
   simp only [psA,psL];rw [← psA_look ts xs]
   rfl
def rfpost (n : Nat) (ts : List Nat) (Q : Exit → AS → Prop) (N : AS → Prop) (us : List Value) : Exit → AS → Prop
 | .normal,s=>N s
 | .ret,s=>∃ avs,(s.rows 0).c = .sus avs us ∧ Q .ret ⟨n,look (ts.zip avs),s.rows⟩
 | .exit id,s=>∃ avs,(s.rows 0).c = .sus avs us ∧ Q (.exit id) ⟨n,look (ts.zip avs),s.rows⟩
 | _,_=>False
section
variable {n : Nat} {ts : List Nat} {Q : Exit → AS → Prop} {N : AS → Prop} {us : List Value} {l : List (Nat × AV)} {vs : Nat → Nat} {cs : List (Nat × RowC)}
theorem rfpost_normal {s : AS} : rfpost n ts Q N us .normal s = N s:=rfl
end
theorem sub_wake {n : Nat} {l : List (Nat × AV)} {vs : Nat → Nat} {cs : List (Nat × RowC)} {avs : List AV} {us : List Value} (h : lookc cs 0 = .dead) : Sub (st n l vs ((0,.sus avs us) :: cs)) (st n l vs cs):=fun C a w ⟨p,hp⟩=>by
 refine ⟨p,{ hp with rw:=fun k=>?_,lk:=fun j km m l' cur hj hn=>?_ }⟩
 · have hr:=hp.rw k
   show rowRel w p vs k (lookc cs k)
   have hr' : rowRel w p vs k (lookc ((0,.sus avs us) :: cs) k):=hr
   rw [lookc_cons] at hr'
   split at hr'
   · rename_i e
     subst e
     rw [h]
     simp only [rowRel] at hr' ⊢
     exact ⟨hr'.1,hr'.2.1⟩
   · exact hr'
 · have hj' : lookc cs j = .mi km m l' cur:=hj
   have e1 : j ≠ 0:=fun e=>by subst e; rw [h] at hj'; cases hj'
   have h1:=hp.lk j km m l' cur (by show lookc ((0,.sus avs us) :: cs) j = _; rw [lookc_cons,if_neg e1]; exact hj') hn
   show (lookc cs km).isMpi = true
   have h2 : (lookc ((0,.sus avs us) :: cs) km).isMpi = true:=h1
   rw [lookc_cons] at h2
   split at h2
   · cases h2
   · exact h2
theorem upd_rows_st {n : Nat} {l : List (Nat × AV)} {vs : Nat → Nat} {cs : List (Nat × RowC)} {k : Nat} {c : RowC} : (⟨n,look [],upd (st n l vs cs).rows k ⟨((st n l vs cs).rows k).ver,c⟩⟩ : AS) = st n [] vs ((k,c) :: cs):=by
 simp only [st,AS.mk.injEq,true_and]
 funext j
 rw [lookc_cons]
 unfold upd
 split
 · rename_i e; subst e; rfl
 · rfl
theorem zip_keys : ∀ l : List (Nat × AV),(l.map (·.1)).zip (l.map (·.2)) = l
 | []=>rfl
 | _ :: l=>by simp only [List.map_cons,List.zip_cons_cons,zip_keys l]
attribute [go_sem] psL_nil psL_cons rfpost_normal List.zip_cons_cons List.zip_nil_right
theorem look_keys : ∀ l : List (Nat × AV),(l.map (·.1)).Nodup → l.map (·.2) = (l.map (·.1)).map (look l)
 | [],_=>rfl
 | (k, v) :: l, h => by
   simp only [List.map_cons,List.nodup_cons] at h ⊢
   have h1 : look ((k,v) :: l) k = v:=by rw [look_cons,if_pos rfl]
   rw [h1,look_keys l h.2]
   congr 1
   refine List.map_congr_left fun j hj=>?_
   have hne : j ≠ k:=fun e=>h.1 (e ▸ hj)
   rw [look_cons,if_neg hne]
theorem awp_uptoV {P : Program} {C : Ctx} {c : Code} {n : Nat} {Q : Exit → AS → Prop} {s : AS} (N : Nat) (F : Nat → (Nat → Nat) → List (Nat × AV)) (R : Nat → (Nat → Nat) → List (Nat × RowC)) (I : Nat → Prop) (i0 : Nat)
 (h0 : FitV n (F i0) (R i0) s) (hi : i0 ≤ N) (hI : I i0)
 (round : ∀ i vs,i ≤ N → I i → awp P C c (andThen (fun s'=>i < N ∧ I (i + 1) ∧ FitV n (F (i + 1)) (R (i + 1)) s') Q) (st n (F i vs) vs (R i vs))) : awp P C (.loop c) Q s:=by
 refine awp_whileV F R (fun i=>i ≤ N ∧ I i) (fun i=>N - i) i0 h0 ⟨hi,hI⟩ ?_
 rintro i vs ⟨hi,hI⟩
 refine awp_mono ?_ (round i vs hi hI)
 intro e s' hq
 cases e with
 | normal =>
   obtain ⟨h1,h2,h3⟩:=hq
   exact ⟨i + 1,⟨h1,h2⟩,by omega,h3⟩
 | _=>exact hq
end Go.Oc

namespace Go.Proofs.Ytlljkgiomkmjbaa.Tm
open Go Go.Oc
set_option linter.unusedSimpArgs false
set_option linter.unusedVariables false
set_option maxRecDepth 8000
set_option maxHeartbeats 4000000
abbrev bytQ (l : List Nat) : RV:=.sl 1 (l.map fun n : Nat=>[.it .u8 (n : Int)])
def byteN (l : List Nat) (i : Nat) : Nat:=if l.length = 0 then 0 else l.getD (i % l.length) 0
theorem byteN_lt {l : List Nat} (hl : ∀ n ∈ l,n < 256) (i : Nat) : byteN l i < 256:=by
 unfold byteN
 split
 · omega
 · rename_i h
   have:=Nat.mod_lt i (show l.length > 0 by omega)
   obtain ⟨x,hx⟩:=opt_of_lt (l:=l) (i:=i % l.length) (by omega)
   rw [List.getD_eq_getElem?_getD,hx]
   exact hl x (mem_of_opt hx)
theorem byteN_ok (l : List Nat) (hl : ∀ n ∈ l,n < 256) (i : Nat) (hi : i < 1000000) : ACalls Try.prog 75 [bytQ l,i64 (i : Int)] (i64 (byteN l i : Int)):=by
 have hb:=byteN_lt hl i
 have hbw : IntKind.i64.wrap (byteN l i : Int) = byteN l i:=by rw [zI] <;> omega
 refine acalls_st (rs:=[i64 (byteN l i : Int)]) [.tmp 4] Try.func75 rfl (by kernel_rfl) Try.ntmps75 rfl (by simp) rfl fun C vs=>?_
 repeat refine zq ?_
 refine zb fun K hK=>?_;simp only [go_sem];(try simp (disch:=omega) only [zI]);repeat first | intro _ | refine ⟨by omega,?_⟩
 refine hK _ ?_;clear hK K;refine zw (zk [0,1]) ?_;simp only [go_sem]
 by_cases h0 : l.length = 0
 · have h0' : l = []:=List.eq_nil_of_length_eq_zero h0
   subst h0'
   repeat refine zq ?_
   refine zb fun K hK=>?_;simp only [go_sem,beq_self_eq_true];(try simp (disch:=omega) only [zI]);repeat first | intro _ | refine ⟨by omega,?_⟩
   refine hK _ ?_;clear hK K;refine zw (zk [0,1,7]) ?_;simp only [go_sem]
   repeat refine zq ?_
   refine zc rfl (fun hc=>?_) (fun hc=>?_) <;> (try simp only [go_sem] at hc)
   repeat refine zq ?_
   refine zb fun K hK=>?_;simp only [go_sem];(try simp (disch:=omega) only [zI]);repeat first | intro _ | refine ⟨by omega,?_⟩
   refine hK _ ?_;clear hK K;refine zw (zk [4]) ?_;simp only [go_sem];refine ze ?_;simp only [go_sem]
   try rfl
 · have h1 : ((l.length : Int) == 0) = false:=by rw [beq_eq_false_iff_ne]; omega
   have h2 : (l.length == 0) = false:=by rw [beq_eq_false_iff_ne]; omega
   have hm:=Nat.mod_lt i (show l.length > 0 by omega)
   obtain ⟨x,hx⟩:=opt_of_lt (l:=l) (i:=i % l.length) (by omega)
   have hbx : byteN l i = x:=by unfold byteN; rw [if_neg h0,List.getD_eq_getElem?_getD,hx]; rfl
   have ht : Int.tmod (i : Int) (l.length : Int) = ((i % l.length : Nat) : Int):=rfl
   rw [hbx] at hbw
   have hqi : i % l.length ≤ i:=Nat.mod_le _ _
   rw [hbx] at hb ⊢
   generalize i % l.length = q at *
   have hw2 : IntKind.i64.wrap (q : Int) = (q : Int):=by rw [zI] <;> omega
   repeat refine zq ?_
   refine zb fun K hK=>?_;simp only [go_sem,h1,h2,List.length_map];(try simp (disch:=omega) only [zI]);repeat first | intro _ | refine ⟨by omega,?_⟩
   refine hK _ ?_;clear hK K;refine zw (zk [0,1,7]) ?_;simp only [go_sem]
   repeat refine zq ?_
   refine zc rfl (fun hc=>?_) (fun hc=>?_) <;> (try simp only [go_sem] at hc)
   refine zx ?_
   try simp only [go_sem]
   repeat refine zq ?_
   refine zb fun K hK=>?_;simp only [go_sem,h1,h2,ht,hx,hbw,hw2,hm,List.length_map];(try simp (disch:=omega) only [zI]);repeat first | intro _ | refine ⟨by omega,?_⟩
   repeat first | intro _ | refine ⟨by omega,?_⟩
   refine hK _ ?_;clear hK K;refine zw (zk [4]) ?_;simp only [go_sem];refine ze ?_;simp only [go_sem]
theorem night7_ok (g : Nat) (hg : g < 256) (l : List Nat) (hl : ∀ n ∈ l,n < 256) (at0 : Nat) (ha : at0 < 1000) :
 ACalls Try.prog 37 [.it .u8 (g : Int),bytQ l,i64 (at0 : Int)] (.tu [.ag (rulesC (rT (1 + 2 * (g % 4)))),sheets (lT (fun i=>byteN l (at0 + i)) (1 + 2 * (g % 4)))]):=by
 obtain ⟨N,hN⟩ : ∃ N,N = 1 + 2 * (g % 4):=⟨_,rfl⟩
 have hg4:=Nat.mod_lt g (show 4 > 0 by omega)
 have k1 : IntKind.i64.wrap (g : Int) = g:=by rw [zI] <;> omega
 have k2 : Int.tmod (g : Int) 4 = ((g % 4 : Nat) : Int):=rfl
 have k3 : IntKind.i64.wrap (2 * ((g % 4 : Nat) : Int)) = 2 * ((g % 4 : Nat) : Int):=by rw [zI] <;> omega
 have k4 : IntKind.i64.wrap (1 + 2 * ((g % 4 : Nat) : Int)) = (N : Int):=by rw [zI] <;> omega
 rw [← hN]
 have hbb:=fun i=>byteN_ok l hl i
 have hb6:=fun i=>byteN_lt hl i
 refine acalls_st (rs:=[.ag (rulesC (rT N)),sheets (lT (fun i=>byteN l (at0 + i)) N)]) [.cell 6 109,.tmp 7] Try.func37 rfl (by kernel_rfl) Try.ntmps37 rfl (by simp) rfl fun C vs=>?_
 repeat refine zq ?_
 refine zb fun K hK=>?_;simp only [go_sem];(try simp (disch:=omega) only [zI]);repeat first | intro _ | refine ⟨by omega,?_⟩
 refine hK _ ?_;clear hK K;refine zw (zk [0,1,2,6]) ?_;simp only [go_sem]
 repeat refine zq ?_
 refine zb fun K hK=>?_;simp only [go_sem];(try simp (disch:=omega) only [zI]);repeat first | intro _ | refine ⟨by omega,?_⟩
 refine hK _ ?_;clear hK K;refine zw (sub_own 9 68 114 4 (by omega) rfl) ?_;refine zw (sub_ownB 8 1 31 215 3 (by omega) (by omega) rfl (by simp only [go_sem,List.getElem?_cons_succ,List.getElem?_cons_zero])) ?_
 try simp only [go_sem]
 refine zw (zk [0,1,2,6,8,9]) ?_;simp only [go_sem]
 repeat refine zq ?_
 refine zb fun K hK=>?_;simp only [go_sem];(try simp (disch:=omega) only [zI]);repeat first | intro _ | refine ⟨by omega,?_⟩
 refine hK _ ?_;clear hK K;refine zw (zk [0,1,2,6,8,9,10]) ?_;simp only [go_sem]
 obtain ⟨b,hb⟩ : ∃ b : Nat → Nat,b = fun i=>byteN l (at0 + i):=⟨_,rfl⟩
 rw [← hb]
 have hbi : ∀ i,byteN l (at0 + i) = b i:=fun i=>by rw [hb]
 have hb256 : ∀ i,b i < 256:=fun i=>by rw [← hbi]; exact hb6 _
 repeat refine zq ?_
 refine zd ?_
 refine awp_uptoV (n:=71) N (fun i vs=>[(0,.r (.it .u8 (g : Int))),(1,.r (bytQ l)),(2,.r (i64 (at0 : Int))),(6,.pt 6 (vs 6) 0),(8,.pt 8 (vs 8) 0),(9,.os 68 (vs 68) 4 0 i),(10,.r (i64 (i : Int)))])
  (fun i vs=>[(6,.box [.r (i64 0),.r .ns,.r (i64 0),.r (i64 0)]),(8,.box [.r (i64 4),.os 31 (vs 31) 3 0 i,.r (i64 20),.r (i64 0)]),(31,.arr 215 3 ((rT i).gs.map gameC)),(68,.arr 114 4 ((lT b i).map sheetC))]) (fun _=>True) 0 (zj [] ?_ ?_) (Nat.zero_le _) trivial ?_
 · try simp only [go_sem]
   try rfl
 · try simp only [go_sem]
   try rfl
 · intro i vs hi _
   repeat refine zq ?_
   refine zb fun K hK=>?_;simp only [go_sem,k1,k2,k3,k4];(try simp (disch:=omega) only [zI]);repeat first | intro _ | refine ⟨by omega,?_⟩
   refine hK _ ?_;clear hK K;refine zw (zk [0,1,2,6,8,9,10,21]) ?_;simp only [go_sem]
   repeat refine zq ?_
   refine zc rfl (fun hc=>?_) (fun hc=>?_) <;> (try simp only [go_sem] at hc)
   · have hiN : i < N:=by omega
     have hgs : (rT (i + 1)).gs = (rT i).gs ++ [gT i]:=by simp [rT,List.range_succ]
     have hls : lT b (i + 1) = lT b i ++ [sT b i]:=by simp [lT,List.range_succ]
     have hgl : (rT i).gs.length = i:=by simp [rT]
     have hll : (lT b i).length = i:=by simp [lT]
     have hgc : gameC (gT i) = [i64 1,i64 ((1 + i % 3 : Nat) : Int),i64 1]:=rfl
     have e1 : Int.tmod (i : Int) 3 = ((i % 3 : Nat) : Int):=rfl
     have m3:=Nat.mod_lt i (show 3 > 0 by omega)
     have e2 : IntKind.i64.wrap (1 + ((i % 3 : Nat) : Int)) = ((1 + i % 3 : Nat) : Int):=by rw [zI] <;> omega
     have e3 : IntKind.i64.wrap ((at0 : Int) + (i : Int)) = ((at0 + i : Nat) : Int):=by rw [zI] <;> omega
     have hcall:=hbb (at0 + i) (by omega)
     rw [hbi] at hcall
     have h256:=hb256 i
     have hsd : sT b i = if 250 ≤ b i then ⟨i,0,0,((1 + b i % 2 : Nat) : Int)⟩ else if b i % 2 = 1 then ⟨i,((b i / 2 % (1 + i % 3) : Nat) : Int),((1 + i % 3 : Nat) : Int),0⟩ else ⟨i,((1 + i % 3 : Nat) : Int),((b i / 2 % (1 + i % 3) : Nat) : Int),0⟩:=rfl
     rw [hgs,hls]
     generalize (rT i).gs = G at *
     generalize lT b i = L at *
     generalize sT b i = S at *
     generalize gT i = g1 at *
     generalize b i = y at *
     have e4 : Int.tdiv (y : Int) 2 = ((y / 2 : Nat) : Int):=rfl
     have e5 : ∀ q : Nat,Int.tmod ((y / 2 : Nat) : Int) (q : Int) = ((y / 2 % q : Nat) : Int):=fun q=>rfl
     have e6 : Int.tmod (y : Int) 2 = ((y % 2 : Nat) : Int):=rfl
     generalize hm1 : 1 + i % 3 = m at *
     have hmp : 0 < m:=by omega
     have hq:=Nat.mod_lt (y / 2) hmp
     generalize hqq : y / 2 % m = q at *
     have e7:=e5 m
     rw [hqq] at e7
     have w1 : IntKind.i64.wrap ((y / 2 : Nat) : Int) = ((y / 2 : Nat) : Int):=by rw [zI] <;> omega
     have w2 : IntKind.i64.wrap (q : Int) = (q : Int):=by rw [zI] <;> omega
     have w3 : IntKind.i64.wrap (1 + ((y % 2 : Nat) : Int)) = ((1 + y % 2 : Nat) : Int):=by rw [zI] <;> omega
     have h0m : ((m : Int) == 0) = false:=by rw [beq_eq_false_iff_ne]; omega
     have h0m2 : ¬ (m : Int) = 0:=by omega
     have h0m3 : ¬ m = 0:=by omega
     refine zx ?_
     try simp only [go_sem]
     repeat refine zq ?_
     refine zd ?_
     repeat refine zq ?_
     refine zb fun K hK=>?_;simp only [go_sem,e1,e2,hgl,List.length_map];(try simp (disch:=omega) only [zI]);repeat first | intro _ | refine ⟨by omega,?_⟩
     refine hK _ ?_;clear hK K;refine zw (zk [0,1,2,6,8,9,10]) ?_;simp only [go_sem]
     repeat refine zq ?_
     refine zb fun K hK=>?_;simp only [go_sem,e3];(try simp (disch:=omega) only [zI])
     refine zh (hcall) rfl (by simp only [go_sem,i64,ints]) (by simp only [go_sem,i64,ints]) (by first | exact .inl rfl | exact .inr rfl) ?_
     (try simp only [go_sem]);(try simp (disch:=omega) only [zI]);repeat first | intro _ | refine ⟨by omega,?_⟩
     refine hK _ ?_;clear hK K;refine zw (zk [0,1,2,6,8,9,10,11]) ?_;simp only [go_sem]
     repeat refine zq ?_
     refine zb fun K hK=>?_;simp only [go_sem,e1,e2,e4,e7,w1,w2,h0m,h0m2,h0m3];(try simp (disch:=omega) only [zI]);repeat first | intro _ | refine ⟨by omega,?_⟩
     repeat first | intro _ | refine ⟨by omega,?_⟩
     refine hK _ ?_;clear hK K;refine zw (zk [0,1,2,6,8,9,10,11,12]) ?_;simp only [go_sem]
     by_cases p2 : y % 2 = 1
     · have d1 : (Int.tmod (y : Int) 2 == 1) = true:=by rw [e6,p2]; rfl
       by_cases p250 : 250 ≤ y
       · have d2 : decide (250 ≤ (y : Int)) = true:=decide_eq_true (by omega)
         have d3 : decide (250 ≤ y) = true:=decide_eq_true p250
         have hS : S = ⟨i,0,0,1 + ((y % 2 : Nat) : Int)⟩:=by rw [hsd,if_pos p250,Int.natCast_add]; rfl
         repeat refine zq ?_
         refine zb fun K hK=>?_;simp only [go_sem,d1];(try simp (disch:=omega) only [zI]);repeat first | intro _ | refine ⟨by omega,?_⟩
         refine hK _ ?_;clear hK K;refine zw (zk [0,1,2,6,8,9,10,11,12,51]) ?_;simp only [go_sem]
         repeat refine zq ?_
         refine zc rfl (fun hc=>?_) (fun hc=>?_) <;> (try simp only [go_sem] at hc)
         repeat refine zq ?_
         refine zb fun K hK=>?_;simp only [go_sem];(try simp (disch:=omega) only [zI]);repeat first | intro _ | refine ⟨by omega,?_⟩
         refine hK _ ?_;clear hK K;refine zw (zk [0,1,2,6,8,9,10,11,12]) ?_;simp only [go_sem]
         repeat refine zq ?_
         refine zb fun K hK=>?_;simp only [go_sem,d2,d3];(try simp (disch:=omega) only [zI]);repeat first | intro _ | refine ⟨by omega,?_⟩
         refine hK _ ?_;clear hK K;refine zw (zk [0,1,2,6,8,9,10,11,12,59]) ?_;simp only [go_sem]
         repeat refine zq ?_
         refine zc rfl (fun hc=>?_) (fun hc=>?_) <;> (try simp only [go_sem] at hc)
         repeat refine zq ?_
         refine zb fun K hK=>?_;simp only [go_sem,e6,w3];(try simp (disch:=omega) only [zI]);repeat first | intro _ | refine ⟨by omega,?_⟩
         refine hK _ ?_;clear hK K;refine zw (zk [0,1,2,6,8,9,10,12]) ?_;simp only [go_sem]
         repeat refine zq ?_
         refine zb fun K hK=>?_;simp only [go_sem,hll,List.length_map];(try simp (disch:=omega) only [zI]);repeat first | intro _ | refine ⟨by omega,?_⟩
         refine hK _ ?_;clear hK K;refine zw (zk [0,1,2,6,8,9,10]) ?_;simp only [go_sem]
         repeat refine zq ?_
         refine zb fun K hK=>?_;simp only [go_sem];(try simp (disch:=omega) only [zI]);repeat first | intro _ | refine ⟨by omega,?_⟩
         refine hK _ ?_;clear hK K
         try simp only [go_sem]
         refine ⟨by omega,zj [12] ?_ ?_⟩
         · try simp only [go_sem]
         · try simp only [go_sem]
           simp only [List.map_append,List.map_cons,List.map_nil,hgc,hS,sheetC]
       · have d2 : decide (250 ≤ (y : Int)) = false:=decide_eq_false (by omega)
         have d3 : decide (250 ≤ y) = false:=decide_eq_false p250
         have hS : S = ⟨i,(q : Int),(m : Int),0⟩:=by rw [hsd,if_neg p250,if_pos p2]
         repeat refine zq ?_
         refine zb fun K hK=>?_;simp only [go_sem,d1];(try simp (disch:=omega) only [zI]);repeat first | intro _ | refine ⟨by omega,?_⟩
         refine hK _ ?_;clear hK K;refine zw (zk [0,1,2,6,8,9,10,11,12,51]) ?_;simp only [go_sem]
         repeat refine zq ?_
         refine zc rfl (fun hc=>?_) (fun hc=>?_) <;> (try simp only [go_sem] at hc)
         repeat refine zq ?_
         refine zb fun K hK=>?_;simp only [go_sem];(try simp (disch:=omega) only [zI]);repeat first | intro _ | refine ⟨by omega,?_⟩
         refine hK _ ?_;clear hK K;refine zw (zk [0,1,2,6,8,9,10,11,12]) ?_;simp only [go_sem]
         repeat refine zq ?_
         refine zb fun K hK=>?_;simp only [go_sem,d2,d3];(try simp (disch:=omega) only [zI]);repeat first | intro _ | refine ⟨by omega,?_⟩
         refine hK _ ?_;clear hK K;refine zw (zk [0,1,2,6,8,9,10,11,12,59]) ?_;simp only [go_sem]
         repeat refine zq ?_
         refine zc rfl (fun hc=>?_) (fun hc=>?_) <;> (try simp only [go_sem] at hc)
         refine zx ?_
         try simp only [go_sem]
         repeat refine zq ?_
         refine zb fun K hK=>?_;simp only [go_sem,hll,List.length_map];(try simp (disch:=omega) only [zI]);repeat first | intro _ | refine ⟨by omega,?_⟩
         refine hK _ ?_;clear hK K;refine zw (zk [0,1,2,6,8,9,10]) ?_;simp only [go_sem]
         repeat refine zq ?_
         refine zb fun K hK=>?_;simp only [go_sem];(try simp (disch:=omega) only [zI]);repeat first | intro _ | refine ⟨by omega,?_⟩
         refine hK _ ?_;clear hK K
         try simp only [go_sem]
         refine ⟨by omega,zj [12] ?_ ?_⟩
         · try simp only [go_sem]
         · try simp only [go_sem]
           simp only [List.map_append,List.map_cons,List.map_nil,hgc,hS,sheetC]
     · have d1 : (Int.tmod (y : Int) 2 == 1) = false:=by rw [e6,beq_eq_false_iff_ne]; omega
       by_cases p250 : 250 ≤ y
       · have d2 : decide (250 ≤ (y : Int)) = true:=decide_eq_true (by omega)
         have d3 : decide (250 ≤ y) = true:=decide_eq_true p250
         have hS : S = ⟨i,0,0,1 + ((y % 2 : Nat) : Int)⟩:=by rw [hsd,if_pos p250,Int.natCast_add]; rfl
         repeat refine zq ?_
         refine zb fun K hK=>?_;simp only [go_sem,d1];(try simp (disch:=omega) only [zI]);repeat first | intro _ | refine ⟨by omega,?_⟩
         refine hK _ ?_;clear hK K;refine zw (zk [0,1,2,6,8,9,10,11,12,51]) ?_;simp only [go_sem]
         repeat refine zq ?_
         refine zc rfl (fun hc=>?_) (fun hc=>?_) <;> (try simp only [go_sem] at hc)
         refine zx ?_
         try simp only [go_sem]
         repeat refine zq ?_
         refine zb fun K hK=>?_;simp only [go_sem,d2,d3];(try simp (disch:=omega) only [zI]);repeat first | intro _ | refine ⟨by omega,?_⟩
         refine hK _ ?_;clear hK K;refine zw (zk [0,1,2,6,8,9,10,11,12,59]) ?_;simp only [go_sem]
         repeat refine zq ?_
         refine zc rfl (fun hc=>?_) (fun hc=>?_) <;> (try simp only [go_sem] at hc)
         repeat refine zq ?_
         refine zb fun K hK=>?_;simp only [go_sem,e6,w3];(try simp (disch:=omega) only [zI]);repeat first | intro _ | refine ⟨by omega,?_⟩
         refine hK _ ?_;clear hK K;refine zw (zk [0,1,2,6,8,9,10,12]) ?_;simp only [go_sem]
         repeat refine zq ?_
         refine zb fun K hK=>?_;simp only [go_sem,hll,List.length_map];(try simp (disch:=omega) only [zI]);repeat first | intro _ | refine ⟨by omega,?_⟩
         refine hK _ ?_;clear hK K;refine zw (zk [0,1,2,6,8,9,10]) ?_;simp only [go_sem]
         repeat refine zq ?_
         refine zb fun K hK=>?_;simp only [go_sem];(try simp (disch:=omega) only [zI]);repeat first | intro _ | refine ⟨by omega,?_⟩
         refine hK _ ?_;clear hK K
         try simp only [go_sem]
         refine ⟨by omega,zj [12] ?_ ?_⟩
         · try simp only [go_sem]
         · try simp only [go_sem]
           simp only [List.map_append,List.map_cons,List.map_nil,hgc,hS,sheetC]
       · have d2 : decide (250 ≤ (y : Int)) = false:=decide_eq_false (by omega)
         have d3 : decide (250 ≤ y) = false:=decide_eq_false p250
         have hS : S = ⟨i,(m : Int),(q : Int),0⟩:=by rw [hsd,if_neg p250,if_neg p2]
         repeat refine zq ?_
         refine zb fun K hK=>?_;simp only [go_sem,d1];(try simp (disch:=omega) only [zI]);repeat first | intro _ | refine ⟨by omega,?_⟩
         refine hK _ ?_;clear hK K;refine zw (zk [0,1,2,6,8,9,10,11,12,51]) ?_;simp only [go_sem]
         repeat refine zq ?_
         refine zc rfl (fun hc=>?_) (fun hc=>?_) <;> (try simp only [go_sem] at hc)
         refine zx ?_
         try simp only [go_sem]
         repeat refine zq ?_
         refine zb fun K hK=>?_;simp only [go_sem,d2,d3];(try simp (disch:=omega) only [zI]);repeat first | intro _ | refine ⟨by omega,?_⟩
         refine hK _ ?_;clear hK K;refine zw (zk [0,1,2,6,8,9,10,11,12,59]) ?_;simp only [go_sem]
         repeat refine zq ?_
         refine zc rfl (fun hc=>?_) (fun hc=>?_) <;> (try simp only [go_sem] at hc)
         refine zx ?_
         try simp only [go_sem]
         repeat refine zq ?_
         refine zb fun K hK=>?_;simp only [go_sem,hll,List.length_map];(try simp (disch:=omega) only [zI]);repeat first | intro _ | refine ⟨by omega,?_⟩
         refine hK _ ?_;clear hK K;refine zw (zk [0,1,2,6,8,9,10]) ?_;simp only [go_sem]
         repeat refine zq ?_
         refine zb fun K hK=>?_;simp only [go_sem];(try simp (disch:=omega) only [zI]);repeat first | intro _ | refine ⟨by omega,?_⟩
         refine hK _ ?_;clear hK K
         try simp only [go_sem]
         refine ⟨by omega,zj [12] ?_ ?_⟩
         · try simp only [go_sem]
         · try simp only [go_sem]
           simp only [List.map_append,List.map_cons,List.map_nil,hgc,hS,sheetC]
   · have hiN : i = N:=by omega
     subst hiN
     refine zw (sub_frz 9 68 (by omega) rfl rfl (by simp [lT])) ?_;refine zw (sub_frzB 8 1 31 (ty:=215) (sz:=3) (off:=0) (m:=i) (es:=(rT i).gs.map gameC) (by omega) (by omega) rfl (by simp only [go_sem,List.getElem?_cons_succ,List.getElem?_cons_zero]) (by rfl) (by simp [rT])) ?_
     have t1 : List.take i ((lT b i).map sheetC) = (lT b i).map sheetC:=List.take_of_length_le (by simp [lT])
     have t2 : List.take i (List.drop 0 ((rT i).gs.map gameC)) = (rT i).gs.map gameC:=by rw [List.drop_zero,List.take_of_length_le (by simp [rT])]
     refine zw (zk [6,8,9]) ?_;simp only [go_sem]
     have t3 : List.take i ((rT i).gs.map gameC) = (rT i).gs.map gameC:=List.take_of_length_le (by simp [rT])
     try simp only [t1,t2,t3]
     refine zf ?_;simp only [go_sem]
     repeat refine zq ?_
     refine zb fun K hK=>?_;simp only [go_sem];(try simp (disch:=omega) only [zI]);repeat first | intro _ | refine ⟨by omega,?_⟩
     refine hK _ ?_;clear hK K;refine zw (zk [6,7]) ?_;simp only [go_sem];refine ze ?_;simp only [go_sem]
     first | rfl | exact ⟨rfl,rfl,rfl⟩
def resT (b : Nat → Nat) (n : Nat) : Res:=nightR (rT n) (seenL (lT b n))
theorem lT_seen (b : Nat → Nat) {n i : Nat} (h : i < n) : seenL (lT b n) i = some (sT b i) :=
 (seen_iff (lT_cons b n)).2 ⟨List.mem_map.2 ⟨i,List.mem_range.2 h,rfl⟩,sT_gm b i⟩
theorem tot_T (b : Nat → Nat) {n : Nat} : ∀ k,k ≤ n → (sumN (rT n) (seenL (lT b n)) k).p0 + (sumN (rT n) (seenL (lT b n)) k).p1 = k ∧ 0 ≤ (sumN (rT n) (seenL (lT b n)) k).p0 ∧ 0 ≤ (sumN (rT n) (seenL (lT b n)) k).p1
 | 0,_=>by simp [sumN,zeroR]
 | k + 1, h => by
   obtain ⟨h1,h2,h3⟩:=tot_T b (n:=n) k (by omega)
   rw [sumN]
   unfold stepN
   rw [lT_seen b (show k < n by omega),rT_get (show k < n by omega)]
   generalize sumN (rT n) (seenL (lT b n)) k = t at *
   generalize scoreL (rT n) (sT b k) = s
   have hp : (gT k).pt = 1:=rfl
   simp only [addL,hp]
   split
   · exact ⟨by omega,h2,by omega⟩
   · exact ⟨by omega,by omega,h3⟩
theorem resT_facts (b : Nat → Nat) {n : Nat} (h7 : n ≤ 7) (hodd : n % 2 = 1) :
 ∃ p q : Nat,(resT b n).p0 = p ∧ (resT b n).p1 = q ∧ p + q = n ∧ (resT b n).op = [] ∧ (resT b n).w = if q < p then 0 else 1:=by
 have hlen : (rT n).gs.length = n:=by simp [rT]
 obtain ⟨h1,h2,h3⟩:=tot_T b n (Nat.le_refl n)
 have hop : (sumN (rT n) (seenL (lT b n)) n).op = []:=sum_full (by rw [hlen]; exact Nat.le_refl _) fun i hi=>by rw [lT_seen b hi]; rfl
 have he:=end_full (r:=rT n) hop
 have hr : resT b n = endR (rT n) (sumN (rT n) (seenL (lT b n)) n):=by unfold resT nightR; rw [hlen]
 rw [hr,he]
 have hb0 : (rT n).bonus = 0:=rfl
 simp only [hb0,Int.add_zero,ite_self]
 generalize sumN (rT n) (seenL (lT b n)) n = t at *
 obtain ⟨p,hp⟩:=Int.eq_ofNat_of_zero_le h2
 obtain ⟨q,hq⟩:=Int.eq_ofNat_of_zero_le h3
 refine ⟨p,q,hp,hq,by omega,hop,?_⟩
 rw [hp,hq]
 unfold leadW
 have hne : p ≠ q:=by omega
 by_cases h : q < p
 · rw [if_pos h,if_pos (by omega)]
 · rw [if_neg h,if_neg (by omega),if_pos (by omega)]
theorem night_T (b : Nat → Nat) {n : Nat} (h1 : 1 ≤ n) (h7 : n ≤ 7) {l' : List Sheet} (hl : l'.length ≤ 200) (hm : ∀ x,x ∈ l' ↔ x ∈ lT b n) : nightV (rT n) l' = (resT b n,0,0):=by
 have hc' : Cons l':=cons_sub (lT_cons b n) fun x hx=>(hm x).1 hx
 have hv' : Val (rT n) l':=fun x hx=>lT_val b h7 x ((hm x).1 hx)
 rw [night_of (rT_ok h1 h7) hl hv' hc',seen_ext (lT_cons b n) hm]
 rfl
def backT (L : List Sheet) (turn : Nat) : Nat → List Sheet
 | 0=>[]
 | k + 1=>L.getD ((k + turn) % L.length) ⟨0,0,0,0⟩ :: backT L turn k
theorem backT_len (L : List Sheet) (turn : Nat) : ∀ k,(backT L turn k).length = k
 | 0=>rfl
 | k + 1=>by simp [backT,backT_len L turn k]
theorem backT_mem {L : List Sheet} {turn : Nat} {x : Sheet} : ∀ {k : Nat},x ∈ backT L turn k ↔ ∃ i,i < k ∧ x = L.getD ((i + turn) % L.length) ⟨0,0,0,0⟩
 | 0=>by simp [backT]
 | k + 1 => by
   rw [backT,List.mem_cons,backT_mem]
   constructor
   · rintro (rfl | ⟨i,hi,rfl⟩)
     · exact ⟨k,by omega,rfl⟩
     · exact ⟨i,by omega,rfl⟩
   · rintro ⟨i,hi,rfl⟩
     by_cases e : i = k
     · subst e; exact .inl rfl
     · exact .inr ⟨i,by omega,rfl⟩
theorem back_all {L : List Sheet} (hL : 0 < L.length) (turn : Nat) (x : Sheet) : x ∈ backT L turn L.length ++ [L.getD (turn % L.length) ⟨0,0,0,0⟩] ↔ x ∈ L:=by
 have hget : ∀ i,L.getD (i % L.length) ⟨0,0,0,0⟩ ∈ L:=fun i=>by
  have:=Nat.mod_lt i hL
  rw [List.getD_eq_getElem?_getD,List.getElem?_eq_getElem this]
  exact List.getElem_mem _
 rw [List.mem_append,backT_mem,List.mem_singleton]
 constructor
 · rintro (⟨i,_,rfl⟩ | rfl)
   · exact hget _
   · exact hget _
 · intro hx
   obtain ⟨i,hi,rfl⟩:=List.getElem_of_mem hx
   left
   refine ⟨(i + L.length - turn % L.length) % L.length,Nat.mod_lt _ hL,?_⟩
   have e : ((i + L.length - turn % L.length) % L.length + turn) % L.length = i:=by
    have ht:=Nat.mod_lt turn hL
    rw [Nat.mod_add_mod]
    have h2 : i + L.length - turn % L.length + turn = i + L.length + L.length * (turn / L.length):=by
     have:=Nat.mod_add_div turn L.length
     omega
    rw [h2,Nat.add_mul_mod_self_left,Nat.add_mod_right,Nat.mod_eq_of_lt hi]
   rw [e,List.getD_eq_getElem?_getD,List.getElem?_eq_getElem hi]
   rfl
end Go.Proofs.Ytlljkgiomkmjbaa.Tm

namespace Go.Oc
open Go Go.RowKit
set_option linter.unusedVariables false
set_option linter.unusedSimpArgs false
section
variable {P : Program} {C : Ctx} {s : AS} {Q : Exit → AS → Prop}
variable {n : Nat} {l : List (Nat × AV)} {vs : Nat → Nat} {cs : List (Nat × RowC)}
end
def entOk (ops : Array Oper) (x y : Oper) : Bool :=
 match x.op,y.op with
 | .lookup t (.tmp p) (.tmp q) false,.mapEntry t' (.tmp p') (.tmp q')=>t == t' && p == p' && q == q' && x.guard.isNone && y.guard.isNone && x.apart ops y
 | _,_=>false
section
variable {P : Program} {s : AS} {ops : Array Oper}
def pairE (ops : Array Oper) (x y : Oper) : Bool:=okPair ops x y || entOk ops x y
def lexOkE (ops : Array Oper) : Bool :=
 (List.range ops.size).all fun i=>(deps ops i).all (fun e=>decide (e < i)) &&
  (List.range ops.size).all fun j=>!decide (i < j) || waits ops ops.size j i ||
   (match ops[i]?,ops[j]? with | some x,some y=>pairE ops x y | _,_=>true)
end
end Go.Oc

namespace Go.Oc
open Go Go.RowKit
set_option linter.unusedVariables false
set_option linter.unusedSimpArgs false
def sBuildOwn (P : Program) (s : AS) (d : Nat) (t : TypeId) (len : Nat) (parts : List (Nat × AV)) : Res :=
 match tyq P t with
 | some ⟨.slice e esz _ ez, _, _, _⟩ =>
   if len = 0 then .bad else
   match layE s.ver esz (List.replicate len ez) parts with
   | some es=>⟨0 < esz ∧ len * esz ≤ 16777216 ∧ d < 1000,True,⟨.os d ((s.rows d).ver + 1) esz 0 len,[(d,⟨(s.rows d).ver + 1,.arr e esz es⟩)]⟩⟩
   | none=>.bad
 | _=>.bad
section
variable {P : Program} {C : Ctx} {p : Plan} {s : AS} {a : Act} {w : World} {o : Oper}
theorem good_buildOwn {t : TypeId} {n : Nat} {ps : Array (Nat × Operand)} (h : SR C p s a w) (ho : o.op = .buildSlice t n ps) (hp : (sBuildOwn P s (o.dst.getD 0) t n (ps.toList.map fun (i,x)=>(i,s.ev x))).pre) :
 Done P C o s a w (sBuildOwn P s (o.dst.getD 0) t n (ps.toList.map fun (i,x)=>(i,s.ev x))):=by
 have hparts:=parts_rel h ps.toList
 unfold sBuildOwn at hp ⊢
 split at hp
 · rename_i e esz eb ez sz agg z e1
   obtain ⟨hu,hok,hsz,_,zv,hzv,hez⟩:=tyq_slice e1
   subst hsz
   obtain ⟨i,zval,hi,hzero,hcells,hz1,hzl⟩:=zeroOf_spec hzv
   split at hp
   · exact hp.elim
   · rename_i hn0
     rw [if_neg hn0]
     split at hp
     · rename_i es hlay
       obtain ⟨hpos,hmax,hd⟩ : 0 < P.cellsOf e ∧ n * P.cellsOf e ≤ 16777216 ∧ o.dst.getD 0 < 1000:=hp
       have hzc : zval.cells.size = P.cellsOf e:=by rw [← hzl,← hcells]; simp
       obtain ⟨cells',hf,hle,hl',hr,hr1⟩:=layE_rel (p:=p) (w:=w) _ (ps.toList.map fun x=>(x.1,a.eval x.2)) _ _ (madeCells zval.cells (n * P.cellsOf e)) hlay
        (by intro e he; rw [List.eq_of_mem_replicate he,hez,List.length_map,hzl])
        (by
         rw [← hzc,madeCells_list,hcells,hez]
         clear hlay hn0 ho hmax
         induction n with
         | zero=>simp [RV.relV]
         | succ n ih =>
           simp only [List.replicate_succ,List.flatten_cons];exact RV.relV_append (RV.relV_ofV1 w p.R zv) ih)
        (by
         rw [← hzc,madeCells_list,hcells]
         intro u hu
         obtain ⟨l,hl,hul⟩:=List.mem_flatten.1 hu
         rw [List.eq_of_mem_replicate hl] at hul
         exact hz1 u hul)
        hparts.1 hparts.2
       have hnl : es.length = n:=by rw [hle]; simp
       have hcl : cells'.size = n * P.cellsOf e:=by
        rw [← Array.length_toList,RV.relV_length hr]
        have : ∀ (es : List (List RV)),(∀ x ∈ es,x.length = P.cellsOf e) → es.flatten.length = es.length * P.cellsOf e:=by
         intro es
         induction es with
         | nil=>simp
         | cons x es ih =>
           intro h
           rw [List.flatten_cons,List.length_append,ih fun y hy=>h y (by simp [hy]),h x (by simp),List.length_cons,Nat.add_mul]
           omega
        rw [this es hl',hnl]
       have hnm : n ≤ 16777216:=Nat.le_trans (Nat.le_mul_of_pos_right n hpos) hmax
       have hn:=h.newRow (o.dst.getD 0) hd (.arr e (P.cellsOf e) es) rfl n (by simp only [maxLen]; omega) (.cells cells' e) (fun p' ver' hR hβ hγ hk=>by
        simp only [rowRel];rw [hγ]
        refine .inr ⟨_,_,hβ,heap_alloc_new w _,hcl,by rw [hnl]; exact Nat.le_refl _,?_⟩
        rw [hR]
        have hV : RV.relV (w.alloc (.cells cells' e)) p.R es.flatten cells'.toList :=
         RV.relV_mono (fun _ h=>h) (fun ad hr=>World.cell?_alloc_lt w _ ad (h.rb _ hr)) _ _ hr
        refine relE_of_vals hl' hV hr1 (fun j u hj=>?_)
        rw [add_at]
        simp only [Nat.zero_add,World.cell?_alloc_new]
        simpa using hj)
       refine ⟨_,.slice (some ⟨w.heap.size,0,none⟩) n n,_,_,?_,.inl rfl,trivial,by rw [rows_one]; exact hn,?_⟩
       · have hmap : (ps.map fun (x : Nat × Operand)=>(x.1,a.eval x.2)).toList = ps.toList.map fun x=>(x.1,a.eval x.2):=by simp
         have hne : ¬ (n * P.cellsOf e = 0):=by
          have:=Nat.mul_pos (show 0 < n by omega) hpos
          omega
         have hz : (zeroValue e).run P w = .ok zval w:=by simp [zeroValue,typeInfo,hi,hzero]
         have hf':=hf
         simp only [madeCells] at hf'
         simp only [execOp,ho,Instr.buildSlice,Sem.run_bind,run_underlying hu,Result.andThen_ok,run_sizeOf_ok hok,if_neg (show ¬ (n * P.cellsOf e > 2 ^ 24) by omega),if_neg hne,hz,Sem.run_pure,hmap,hf']
         simp [newRow]
       · rw [rows_one]
         simp only [AV.rel,vers,upd_same];exact ⟨Nat.le_refl _,fun _=>.inr ⟨_,_,rfl,by simp; rfl,by omega,fun _=>by simp⟩⟩
     · exact hp.elim
 · exact hp.elim
variable {Q : Exit → AS → Prop} {ops : Array Oper}
theorem sops_own {l : List Oper} {t : TypeId} {n : Nat} {ps : List (Nat × Operand)} {d : Nat} {ty : TypeId} {pos : String} {af : Array Edge} (hdn : d < s.n)
 (h : aR s (some d) (sBuildOwn P s d t n (evp s ps)) (fun s'=>sops P C ops l Q s')) : sops P C ops (⟨some d,.buildSlice t n ps.toArray,ty,pos,af,none⟩ :: l) Q s:=fun a w ⟨p,hs⟩=>by
 rw [← evp_eq] at h
 unfold wpListIn
 rw [if_pos (wantA_sound hs (by simp [wantA]))]
 refine wpIn_of_wp (by intro c h; cases h) ?_
 obtain ⟨nx,v,w',p',hrun,hnx,hass,hSR,hrel⟩:=good_buildOwn (o:=⟨some d,.buildSlice t n ps.toArray,ty,pos,af,none⟩) hs rfl h.1
 unfold Oper.wp
 rw [hrun]
 have hput:=hSR.put' (d:=some d) hrel (fun t ht=>by injection ht with ht; subst ht; exact hdn)
 rcases hnx with rfl | ⟨rfl,rfl⟩
 · exact h.2 hass _ _ ⟨p',hput⟩
 · exact h.2 hass _ _ ⟨p',hput⟩
end
end Go.Oc

namespace Go.Oc
open Go Go.RowKit
def cpR (s : AS) (d : Nat) (b : AV) (r : Res) (K : AS → Prop) : Prop :=
 match b,r with
 | .r .ns,⟨pre,_,⟨.os d' v sz 0 m,[(d'',⟨v',.arr _ sz' es⟩)]⟩⟩=>pre ∧ d < 1000 ∧ d' = d ∧ d'' = d ∧ v = (s.rows d).ver + 1 ∧ v' = v ∧ sz' = sz ∧ m = es.length ∧ K (AS.put (s.row d ⟨(s.rows d).ver + 2,.dead⟩) (some d) (.r (.sl sz es)))
 | _,_=>False
def cpX (P : Program) (s : AS) (d : Nat) (t : TypeId) (b : AV) (n : Option (Prop × Nat × List (List RV))) (K : AS → Prop) : Prop :=
 match tyq P t,b,n with
 | some ⟨.slice _ esz eb _, _, _, _⟩, .r (.sx sz0 es), some (c, sz, ns) => sz0 = esz ∧ d < 1000 ∧ c ∧ (sz = esz ∨ ns = []) ∧ 0 < esz ∧ (es.length + ns.length) * eb ≤ 140737488355328 ∧ es.length + ns.length ≤ 9223372036854775807 ∧
   K (AS.put (s.row d ⟨(s.rows d).ver + 2,.dead⟩) (some d) (.r (.sl esz (es ++ ns))))
 | _,_,_=>False
def isSx : AV → Bool
 | .r (.sx _ _)=>true
 | _=>false
def cpB (s : AS) (d : Option Nat) (r : Res) (K : AS → Prop) : Prop :=
 match r with
 | ⟨pre,_,⟨.r (.sl sz es),[]⟩⟩=>pre ∧ es ≠ [] ∧ K (AS.put s d (.r (.sx sz es)))
 | _=>False
def copyK (P : Program) (o : Oper) (K : AS → Prop) (s : AS) : Prop :=
 match o.op with
 | .call ⟨.builtin .append, args, ts⟩ => (match args.toList, ts.toList, o.dst with
   | [x,z],[t,t'],some d=>t = t' ∧ (if isSx (s.ev x) then cpX P s d t (s.ev x) (news? s (s.ev z)) K else cpR s d (s.ev x) (sAppend P s d t t' (s.ev x) (s.ev z)) K)
   | _,_,_=>False)
 | .buildSlice t n ps=>cpB s o.dst (sBuildSlice P s t n (ps.toList.map fun (i,x)=>(i,s.ev x))) K
 | _=>False
def isPl (pl : List Nat) (o : Oper) : Bool :=
 match o.op with
 | .call ⟨.builtin .append,_,_⟩=>(match o.dst with | some d=>pl.contains d | none=>false)
 | .buildSlice _ _ _=>(match o.dst with | some d=>pl.contains d | none=>false)
 | _=>false
def xopC (P : Program) (pl : List Nat) (o : Oper) (K : AS → Prop) (s : AS) : Prop:=if isPl pl o then copyK P o K s else xop P true o K s
def aopsC (P : Program) (pl : List Nat) (ops : Array Oper) : List Oper → (AS → Prop) → AS → Prop
 | [],K,s=>K s
 | o :: rest, K, s =>
   match o.guard with
   | none=>xopC P pl o (aopsC P pl ops rest K) s
   | some (g, want) =>
     match ((ops[g]?).bind (·.dst) : Option Nat) with
     | none=>aopsC P pl ops rest K (s.put o.dst (.r .ud))
     | some t =>
       match s.tm t with
       | .r (.bo b)=>(b = want → xopC P pl o (aopsC P pl ops rest K) (s.put (some t) (.r (.bo want)))) ∧ (b = !want → aopsC P pl ops rest K ((s.put (some t) (.r (.bo (!want)))).put o.dst (.r .ud)))
       | .r .ud=>aopsC P pl ops rest K (s.put o.dst (.r .ud))
       | _=>False
section
variable {P : Program} {C : Ctx} {s : AS} {ops : Array Oper} {pl : List Nat}
variable {n : Nat} {l : List (Nat × AV)} {vs : Nat → Nat} {cs : List (Nat × RowC)} {K : AS → Prop} {d : Option Nat} {ty : TypeId} {pos : String} {af : Array Edge}
theorem aopsC_nil {ops : Array Oper} : aopsC P pl ops [] K s ↔ K s:=Iff.rfl
theorem aopsC_cons {ops : Array Oper} {o : Op} {rest : List Oper} : aopsC P pl ops (⟨d,o,ty,pos,af,none⟩ :: rest) K s ↔ xopC P pl ⟨d,o,ty,pos,af,none⟩ (aopsC P pl ops rest K) s:=Iff.rfl
theorem row_dead {k m : Nat} : AS.row (st n l vs cs) k ⟨m,.dead⟩ = st n l (upd vs k m) (delc cs k):=by
 rw [row_st]
 unfold st
 congr 1
 funext j
 rw [lookc_insc,lookc_delc]
attribute [go_sem] Nat.reduceBEq Bool.or_false Bool.false_or Bool.or_true Bool.true_or
attribute [go_sem] aopsC_nil aopsC_cons xopC isPl copyK cpR cpB cpX isSx List.contains_cons List.contains_nil List.toList_toArray
attribute [go_sem high] row_dead
end
end Go.Oc
