/- Part 5 of the texts of this claim. -/
import Derived.Test.YtonpmcdkncbjoaaGreatVA4
import Derived.Lib.EndianBits
import Derived.KernelRfl
set_option linter.unnecessarySimpa false
set_option linter.unusedSimpArgs false
set_option linter.unusedVariables false
namespace Go.Oc
open Go Go.RowKit
theorem relV_set {w:World}{p:Plan}{ver:Nat→Nat}{y:AV}:∀ {xs:List AV}{vs:List Value}{i:Nat},AV.relV w p ver xs vs→(∀ u,vs[i]? = some u→y.rel w p ver u)→AV.relV w p ver (xs.set i y) vs
 | [],vs,i,h,_=>by simpa using h
 | x::xs, vs, 0, h, hy=>by
   simp only[AV.relV] at h
   obtain⟨u,us,rfl,h1,h2⟩:=h
   simp only[List.set_cons_zero,AV.relV];exact⟨u,us,rfl,hy u rfl,h2⟩
 | x::xs, vs, i+1, h, hy=>by
   simp only[AV.relV] at h
   obtain⟨u,us,rfl,h1,h2⟩:=h
   simp only[List.set_cons_succ,AV.relV];exact⟨u,us,rfl,h1,relV_set h2 fun v hv=>hy v (by simpa using hv)⟩
theorem SR.cell {C:Ctx}{p:Plan}{a:Act}{w:World}{s:AS}(hp:SR C p s a w) (kb i:Nat) {cells:List AV}{x y:AV}(hbox:(s.rows kb).c = .box cells) (hi:cells[i]? = some x)
 (hy:∀ {u:Value},x.rel w p s.ver u→y.rel w p s.ver u):SR C p { s with rows:=upd s.rows kb ⟨(s.rows kb).ver,.box (cells.set i y)⟩ } a w:=by
 have hr:=hp.rw kb
 rw[hbox] at hr
 simp only[zrl] at hr
 obtain⟨b,cs,t,h1,h2,h3,h4⟩:=hr
 refine hp.setRow (w':=w) kb _ (by rw[hbox];rfl) (fun _ _ _ _ h=>by cases h) h1 rfl rfl rfl rfl (fun _ _=>rfl) fun _=>?_
 simp only[zrl]
 refine⟨b,cs,t,h1,h2,relV_set h3 (fun u hu=>?_),h4⟩
 obtain⟨u',hu',hx⟩:=AV.relV_get h3 hi
 rw[hu] at hu'
 injection hu' with e
 subst e
 exact hy hx
theorem sub_freezeB (s:AS) (kb i k v sz off m:Nat) {cells:List AV}(hk0:k<1000) (hne:kb≠k) (hbox:(s.rows kb).c = .box cells) (hi:cells[i]? = some (.os k v sz off m)) (hv:v=s.ver k)
 (hc:match (s.rows k).c with | .arr _ sz' es=>sz=sz'∧off+m≤es.length | .arc _ sz' es _=>sz=sz'∧off+m≤es.length|_=>False) :
 Sub s { s with rows:=upd (upd s.rows k ⟨(s.rows k).ver+1,.dead⟩) kb ⟨(s.rows kb).ver,.box (cells.set i (.r (match (s.rows k).c with | .arr _ _ es=>RV.sl sz ((es.drop off).take m) | .arc _ _ es _=>RV.sl sz ((es.drop off).take m)|_=>.un)))⟩ }:=fun C a w ⟨p,hp⟩=>by
 have h1:=hp.reRow (w':=w) k hk0 .dead rfl none 1 (by simp [maxLen]) rfl rfl rfl (Nat.le_refl _) (fun _ _ _=>rfl) (fun _ h=>by cases h) (fun p' ver' _ hβ hγ _=>by simp only[zrl];exact⟨hβ,hγ⟩)
 have hr:=hp.rw kb
 rw[hbox] at hr
 simp only[zrl] at hr
 obtain⟨b,cs,t,g1,g2,g3,g4⟩:=hr
 obtain⟨u,hu,hval⟩:=AV.relV_get g3 hi
 have put:∀ {p2:Plan},SR C p2 { s with rows:=upd s.rows k ⟨(s.rows k).ver+1,.dead⟩ } a w→p2.β kb=p.β kb→(∀ b,p.R b→p2.R b)→(∀ b,p.β k=some b→p2.R b) →
  SRel C { s with rows:=upd (upd s.rows k ⟨(s.rows k).ver+1,.dead⟩) kb ⟨(s.rows kb).ver,.box (cells.set i (.r (match (s.rows k).c with | .arr _ _ es=>RV.sl sz ((es.drop off).take m) | .arc _ _ es _=>RV.sl sz ((es.drop off).take m)|_=>.un)))⟩ } a w:=fun {p2} h2 hβ2 hR hR2=>by
  have hr2:=h2.rw kb
  rw[show (upd s.rows k ⟨(s.rows k).ver+1,.dead⟩ kb).c = .box cells by rw[zuo _ _ hne];exact hbox] at hr2
  simp only[zrl] at hr2
  obtain⟨b',cs',t',f1,f2,f3,f4⟩:=hr2
  have eb:b'=b:=by rw[hβ2,g1] at f1;injection f1 with e;exact e.symm
  subst eb
  rw[g2] at f2
  injection f2 with e
  injection e with e1 e2 e3
  subst e1
  have:=h2.setRow (w':=w) kb (.box (cells.set i (.r (match (s.rows k).c with | .arr _ _ es=>RV.sl sz ((es.drop off).take m) | .arc _ _ es _=>RV.sl sz ((es.drop off).take m)|_=>.un))))
   (by rw[show (upd s.rows k ⟨(s.rows k).ver+1,.dead⟩ kb).c = .box cells by rw[zuo _ _ hne];exact hbox];rfl) (fun _ _ _ _ h=>by cases h) f1 rfl rfl rfl rfl (fun _ _=>rfl) (fun _=>by
    simp only[zrl]
    refine⟨b',cs,t',f1,by rw[g2,e2],relV_set f3 (fun u' hu'=>?_),f4⟩
    rw[hu] at hu'
    injection hu' with e
    subst e
    simp only[AV.rel];exact snap_os hp hv hc hval hR hR2)
  rw[show (upd s.rows k ⟨(s.rows k).ver+1,.dead⟩ kb).ver=(s.rows kb).ver by rw[zuo _ _ hne]] at this
  exact⟨p2,this⟩
 cases hβ:p.β k with
 | none=>exact put h1 (zuo _ _ hne) (fun _ h=>h) (fun b hb=>by rw[hβ] at hb;cases hb)
 | some b =>
   obtain⟨g1,_,g2⟩:=hp.bl k b hβ
   have h2:=h1.publish (b:=b) g1 (g2.imp id fun h=>h.resolve_left (fun h=>by omega)) (fun j hj=>by
    have hj':upd p.β k none j=some b:=hj
    by_cases e:j=k
    ·subst e;rw[zus] at hj';cases hj'
    ·rw[zuo _ _ e] at hj';exact e (hp.ij j k b hj' hβ)) (hp.ex.publish hβ)
   exact put h2 (zuo _ _ hne) (fun _ h=>.inl h) (fun b' hb'=>by rw[hβ] at hb';injection hb' with e;exact .inr e.symm)
section
variable {n:Nat}{l:List (Nat × AV)}{vs:Nat→Nat}{cs:List (Nat × RowC)}
theorem sub_frzB (kb i k:Nat) {cells:List AV}{sz off m ty:Nat}{es:List (List RV)}(hk0:k<1000) (hne:kb≠k) (hb:lookc cs kb = .box cells) (hi:cells[i]? = some (.os k (vs k) sz off m)) (hc:lookc cs k = .arr ty sz es) (hle:off+m≤es.length) :
 Sub (st n l vs cs) (st n l (upd vs k (vs k+1)) (insc (delc cs k) kb (.box (cells.set i (.r (.sl sz ((es.drop off).take m))))))):=by
 have:=sub_freezeB (st n l vs cs) kb i k (vs k) sz off m hk0 hne hb hi rfl (by show match lookc cs k with | .arr _ sz' es=>sz=sz'∧off+m≤es.length | .arc _ sz' es _=>sz=sz'∧off+m≤es.length|_=>False;rw[hc];exact⟨rfl,hle⟩)
 have e:({ st n l vs cs with rows:=upd (upd (st n l vs cs).rows k ⟨((st n l vs cs).rows k).ver+1,.dead⟩) kb ⟨((st n l vs cs).rows kb).ver,.box (cells.set i (.r (match ((st n l vs cs).rows k).c with | .arr _ _ es=>RV.sl sz ((es.drop off).take m) | .arc _ _ es _=>RV.sl sz ((es.drop off).take m)|_=>.un)))⟩ }:AS)
  = st n l (upd vs k (vs k+1)) (insc (delc cs k) kb (.box (cells.set i (.r (.sl sz ((es.drop off).take m)))))):=by
  simp only[st,AS.mk.injEq,true_and]
  funext j
  rw[lookc_insc,lookc_delc,hc]
  unfold upd
  split
  ·rename_i e;subst e;rw[if_neg hne]
  ·split<;>rfl
 rwa [e] at this
def Lent (vs:Nat→Nat):Prop:=∀ k,1000≤k→vs k=0
theorem lent_zero:Lent (fun _=>0):=fun _ _=>rfl
theorem lent_upd {vs:Nat→Nat}{k m:Nat}(hk:k<1000) (h:Lent vs):Lent (upd vs k m):=fun j hj=>by
 rw[zuo _ _ (by omega)];exact h j hj
theorem lent_kill:∀ {ks:List Nat}{vs:Nat→Nat},small ks=true→Lent vs→Lent (killV vs ks)
 | [],_,_,h=>h
 | k::ks, vs, hs, h=>by
   simp only[small,Bool.and_eq_true,decide_eq_true_eq] at hs
   show Lent (killV (upd vs k (vs k+1)) ks)
   exact lent_kill hs.2 (lent_upd hs.1 h)
def Fit0 (n:Nat) (F:(Nat→Nat)→List (Nat × AV)) (R:List (Nat × RowC)) (s:AS):Prop:=∃ vs,Lent vs∧Sub s (st n (F vs) vs R)
theorem fit0_of (ks:List Nat) (h0:Lent vs) {F:(Nat→Nat)→List (Nat × AV)}{R:List (Nat × RowC)}(h1:allEq l (F (killV vs ks))) (h2:killC cs ks=R) (h3:small ks=true:=by rfl):Fit0 n F R (st n l vs cs):=by
 refine⟨killV vs ks,lent_kill h3 h0,(sub_kills ks vs cs h3).trans ?_⟩
 subst h2
 exact sub_look _ (allEq_mem h1)
theorem awp_upto0 {P:Program}{C:Ctx}{c:Code}{Q:Exit→AS→Prop}{s:AS}(N:Nat) (F:Nat→(Nat→Nat)→List (Nat × AV)) (R:Nat→List (Nat × RowC)) (I:Nat→Prop) (i0:Nat)
 (h0:Fit0 n (F i0) (R i0) s) (hi:i0≤N) (hI:I i0)
 (round:∀ i vs,Lent vs→i≤N→I i→awp P C c (andThen (fun s'=>i<N∧I (i+1)∧Fit0 n (F (i+1)) (R (i+1)) s') Q) (st n (F i vs) vs (R i))):awp P C (.loop c) Q s:=by
 refine awp_loop (fun k s=>∃ i,(i≤N∧I i)∧N-i=k∧Fit0 n (F i) (R i) s) (N-i0) ⟨i0,⟨hi,hI⟩,rfl,h0⟩ ?_
 rintro k s ⟨i,⟨hi,hI⟩,rfl,vs,hv,hs⟩
 refine zw hs (awp_mono ?_ (round i vs hv hi hI))
 intro e s' hq
 cases e with
 | normal =>
   obtain⟨h1,h2,h3⟩:=hq
   exact⟨N-(i+1),by omega,i+1,⟨h1,h2⟩,rfl,h3⟩
 | _=>exact hq
end
end Go.Oc

namespace Go.Oc
open Go Go.RowKit
theorem sub_adoptB (s:AS) (kb i k e sz:Nat) {cells:List AV}(hk0:k<1000) (hne:kb≠k) (hbox:(s.rows kb).c = .box cells) (hi:cells[i]? = some (.r .ns)) :
 Sub s { s with rows:=upd (upd s.rows k ⟨(s.rows k).ver+1,.arr e sz []⟩) kb ⟨(s.rows kb).ver,.box (cells.set i (.os k ((s.rows k).ver+1) sz 0 0))⟩ }:=fun C a w ⟨p,hp⟩=>by
 have h1:=hp.reRow (w':=w) k hk0 (.arr e sz []) rfl none 0 (Nat.zero_le _) rfl rfl rfl (Nat.le_refl _) (fun _ _ _=>rfl) (fun _ h=>by cases h) (fun p' ver' _ hβ hγ _=>by simp [zrl,hβ,hγ])
 have:=h1.cell (x:=.r .ns) (y:=.os k ((s.rows k).ver+1) sz 0 0) kb i (cells:=cells) (by show (upd s.rows k ⟨(s.rows k).ver+1,.arr e sz []⟩ kb).c=_;rw[zuo _ _ hne];exact hbox) hi (fun {u} hx=>by
  simp only[AV.rel,RV.rel] at hx
  obtain⟨A,hA⟩:=hx
  simp only[AV.rel,AS.ver,zus];exact⟨Nat.le_refl _,fun _=>.inl ⟨trivial,trivial,trivial,trivial,A,hA⟩⟩)
 rw[show (upd s.rows k ⟨(s.rows k).ver+1,.arr e sz []⟩ kb).ver=(s.rows kb).ver by rw[zuo _ _ hne]] at this
 exact⟨_,this⟩
section
variable {n:Nat}{l:List (Nat × AV)}{vs:Nat→Nat}{cs:List (Nat × RowC)}
theorem sub_ownB (kb i k e sz:Nat) {cells:List AV}(hk0:k<1000) (hne:kb≠k) (hb:lookc cs kb = .box cells) (hi:cells[i]? = some (.r .ns)) :
 Sub (st n l vs cs) (st n l (upd vs k (vs k+1)) (insc (insc cs k (.arr e sz [])) kb (.box (cells.set i (.os k (vs k+1) sz 0 0))))):=by
 have:=sub_adoptB (st n l vs cs) kb i k e sz hk0 hne hb hi
 have e:({ st n l vs cs with rows:=upd (upd (st n l vs cs).rows k ⟨((st n l vs cs).rows k).ver+1,.arr e sz []⟩) kb ⟨((st n l vs cs).rows kb).ver,.box (cells.set i (.os k (((st n l vs cs).rows k).ver+1) sz 0 0))⟩ }:AS)
  = st n l (upd vs k (vs k+1)) (insc (insc cs k (.arr e sz [])) kb (.box (cells.set i (.os k (vs k+1) sz 0 0)))):=by
  simp only[st,AS.mk.injEq,true_and]
  funext j
  rw[lookc_insc,lookc_insc]
  unfold upd
  split
  ·rename_i e;subst e;rw[if_neg hne]
  ·split<;>rfl
 rwa [e] at this
def FitW (n:Nat) (F:(Nat→Nat)→List (Nat × AV)) (R:(Nat→Nat)→List (Nat × RowC)) (s:AS):Prop:=∃ vs,Lent vs∧Sub s (st n (F vs) vs (R vs))
theorem fitW_of (ks:List Nat) (h0:Lent vs) {F:(Nat→Nat)→List (Nat × AV)}{R:(Nat→Nat)→List (Nat × RowC)}(h1:allEq l (F (killV vs ks))) (h2:killC cs ks=R (killV vs ks)) (h3:small ks=true:=by rfl):FitW n F R (st n l vs cs):=by
 refine⟨killV vs ks,lent_kill h3 h0,(sub_kills ks vs cs h3).trans ?_⟩
 rw[← h2]
 exact sub_look _ (allEq_mem h1)
theorem awp_uptoW {P:Program}{C:Ctx}{c:Code}{Q:Exit→AS→Prop}{s:AS}(N:Nat) (F:Nat→(Nat→Nat)→List (Nat × AV)) (R:Nat→(Nat→Nat)→List (Nat × RowC)) (I:Nat→Prop) (i0:Nat)
 (h0:FitW n (F i0) (R i0) s) (hi:i0≤N) (hI:I i0)
 (round:∀ i vs,Lent vs→i≤N→I i→awp P C c (andThen (fun s'=>i<N∧I (i+1)∧FitW n (F (i+1)) (R (i+1)) s') Q) (st n (F i vs) vs (R i vs))):awp P C (.loop c) Q s:=by
 refine awp_loop (fun k s=>∃ i,(i≤N∧I i)∧N-i=k∧FitW n (F i) (R i) s) (N-i0) ⟨i0,⟨hi,hI⟩,rfl,h0⟩ ?_
 rintro k s ⟨i,⟨hi,hI⟩,rfl,vs,hv,hs⟩
 refine zw hs (awp_mono ?_ (round i vs hv hi hI))
 intro e s' hq
 cases e with
 | normal =>
   obtain⟨h1,h2,h3⟩:=hq
   exact⟨N-(i+1),by omega,i+1,⟨h1,h2⟩,rfl,h3⟩
 | _=>exact hq
end
def agIs (ks:List (Nat × RowC)) (rows:Nat→Row):AV→List AV→Prop
 | .ag cs,cs0=>frzPL ks rows cs∧frzL ks rows cs=cs0
 | _,_=>False
theorem agIs_ag {ks:List (Nat × RowC)}{rows:Nat→Row}{cs cs0:List AV}:agIs ks rows (.ag cs) cs0=(frzPL ks rows cs∧frzL ks rows cs=cs0):=rfl
def mpostG (P:Program) (rv:ResultVar) (cs0:List AV) (L L':List (Nat × RowC)):Exit→AS→Prop
 | .normal,s=>resC (resA P s rv) (fun x=>agIs L s.rows x cs0)∧mfin L s.rows L L'
 | .ret,s=>resC (resA P s rv) (fun x=>agIs L s.rows x cs0)∧mfin L s.rows L L'
 | _,_=>False
theorem mpostG_normal {P:Program}{s:AS}{rv:ResultVar}{cs0:List AV}{L L':List (Nat × RowC)}:mpostG P rv cs0 L L' .normal s=(resC (resA P s rv) (fun x=>agIs L s.rows x cs0)∧mfin L s.rows L L'):=rfl
theorem mpostG_ret {P:Program}{s:AS}{rv:ResultVar}{cs0:List AV}{L L':List (Nat × RowC)}:mpostG P rv cs0 L L' .ret s=(resC (resA P s rv) (fun x=>agIs L s.rows x cs0)∧mfin L s.rows L L'):=rfl
section
variable {P:Program}{C:Ctx}{p p0:Plan}{s:AS}{a:Act}{w:World}
end
attribute [go_sem] agIs_ag mpostG_normal mpostG_ret
end Go.Oc

namespace Go.Oc
open Go Go.RowKit
theorem relC_plain {w:World}{p:Plan}{ver:Nat→Nat}{R':Nat→Prop}(hR:∀ b,p.R b→R' b) {b:Nat}{cells:Array Value}{ty:TypeId}(hh:w.heap[b]? = some (.cells cells ty (0,0))) (h1:∀ u∈cells.toList,u.oneCell'=true) :
 ∀ (cs:List RV) (us:List Value) (j:Nat),(∀ i u,us[i]? = some u→cells[j+i]? = some u)→AV.relV w p ver (cs.map .r) us→RV.relC w R' cs ⟨b,0,none⟩ j
 | [],_,_,_,_=>by simp [RV.relC]
 | c::cs, us, j, hget, hV=>by
   simp only[List.map_cons,AV.relV] at hV
   obtain⟨u,us,rfl,hu,hV⟩:=hV
   simp only[RV.relC]
   have hc0:cells[j]? = some u:=by simpa using hget 0 u (by simp)
   refine⟨⟨u,?_,h1 u (by simpa using List.mem_of_getElem? (by simpa using hc0:cells.toList[j]? = some u)),?_⟩,?_⟩
   ·rw[add_at,Nat.zero_add,cell_of_row w b j cells ty (0,0) hh];exact hc0
   ·simp only[AV.rel] at hu
    exact RV.rel_mono hR (fun _ _=>rfl) _ _ hu
   ·exact relC_plain hR hh h1 cs us (j+1) (fun i u hi=>by
     have:=hget (i+1) u (by simpa using hi)
     rwa [show j+1+i=j+(i+1) by omega]) hV
theorem sub_freezeP (s:AS) (t k:Nat) {rs:List RV}(hk0:k<1000) (ht:s.tm t = .pt k (s.ver k) 0) (hc:(s.rows k).c = .box (rs.map .r)) :
 Sub s { s with tm:=upd s.tm t (.r (.rp rs)),rows:=upd s.rows k ⟨(s.rows k).ver+1,.dead⟩ }:=fun C a w ⟨p,hp⟩=>by
 have h1:=hp.reRow (w':=w) k hk0 .dead rfl none 1 (by simp [maxLen]) rfl rfl rfl (Nat.le_refl _) (fun _ _ _=>rfl) (fun _ h=>by cases h) (fun p' ver' _ hβ hγ _=>by simp only[zrl];exact⟨hβ,hγ⟩)
 have hval:=hp.tm t
 rw[ht] at hval
 have hr:=hp.rw k
 rw[hc] at hr
 simp only[zrl] at hr
 obtain⟨b,cs,ty,g1,g2,g3,g4⟩:=hr
 simp only[AV.rel] at hval
 obtain⟨b',e1,e2⟩:=hval.2 trivial
 rw[g1] at e1
 injection e1 with e1
 subst e1
 obtain⟨q1,_,q2⟩:=hp.bl k b g1
 have h2:=h1.publish (b:=b) q1 (q2.imp id fun h=>h.resolve_left (fun h=>by omega)) (fun j hj=>by
  have hj':upd p.β k none j=some b:=hj
  by_cases e:j=k
  ·subst e;rw[zus] at hj';cases hj'
  ·rw[zuo _ _ e] at hj';exact e (hp.ij j k b hj' g1)) (hp.ex.publish g1)
 refine⟨_,{ h2 with tm:=fun j=>?_ }⟩
 show AV.rel w _ _ (upd s.tm t _ j) _
 by_cases hj:j=t
 ·subst hj
  rw[zus]
  simp only[AV.rel,RV.rel]
  refine⟨_,e2,.inr rfl,?_⟩
  exact relC_plain (fun _ h=>.inl h) g2 g4 _ _ _ (fun i u h=>by simpa using h) g3
 ·rw[zuo _ _ hj]
  exact h2.tm j
section
variable {n:Nat}{l:List (Nat × AV)}{vs:Nat→Nat}{cs:List (Nat × RowC)}
theorem zfP (t k:Nat) (rs:List RV) (hk0:k<1000) (ht:look l t = .pt k (vs k) 0) (hc:lookc cs k = .box (rs.map .r)) :
 Sub (st n l vs cs) (st n ((t,.r (.rp rs))::l) (upd vs k (vs k+1)) (delc cs k)):=by
 have:=sub_freezeP (st n l vs cs) t k hk0 ht hc
 have e:({ st n l vs cs with tm:=upd (st n l vs cs).tm t (.r (.rp rs)),rows:=upd (st n l vs cs).rows k ⟨((st n l vs cs).rows k).ver+1,.dead⟩ }:AS)=st n ((t,.r (.rp rs))::l) (upd vs k (vs k+1)) (delc cs k):=by
  simp only[st,AS.mk.injEq,true_and]
  constructor
  ·funext j
   show upd (look l) t (.r (.rp rs)) j=look ((t,.r (.rp rs))::l) j
   rfl
  ·funext j
   rw[lookc_delc]
   unfold upd
   split<;>rfl
 rwa [e] at this
end
end Go.Oc

namespace Go.Oc
open Go Go.RowKit
section
variable {P:Program}{C:Ctx}{s:AS}{ops:Array Oper}
theorem aops_seq2 {Q:AS→Prop}{Q':Exit→Act→World→Prop}{l2:List Oper}{n:Nat}(hQ:∀ s a w,s.n=n→Q s→SRel C s a w→wpListIn (fnc C.rd) 0 P ops Q' l2 a w):∀ (l:List Oper) (s:AS) (a:Act) (w:World),s.n=n→dstOk l.toArray s.n=true→aops P false ops l Q s→SRel C s a w→wpListIn (fnc C.rd) 0 P ops Q' (l++l2) a w
 | [],s,a,w,hn0,_,h,hs=>hQ s a w hn0 h hs
 | o::l, s, a, w, hn0, hd, h, hs=>by
   rw[List.cons_append]
   have hd0:∀ t,o.dst=some t→t<s.n:=dstOk_get (i:=0) hd (by simp)
   have hdl:dstOk l.toArray s.n=true:=by
    unfold dstOk at hd ⊢
    simp only[List.all_toArray,List.all_cons,Bool.and_eq_true] at hd ⊢
    exact hd.2
   obtain⟨p,hp⟩:=hs
   have run:∀ {s1:AS},s1=s→xop P false o (aops P false ops l Q) s1→wantA ops s o=some true→wpListIn (fnc C.rd) 0 P ops Q' (o::(l++l2)) a w:=fun e hop hw=>by
    subst e
    unfold wpListIn
    rw[if_pos (wantA_sound hp hw)]
    refine xop_sound hp hop hd0 (fun a' w' p' s' hs' hn hK=>?_) (dstOk_nd (i:=0) hd (by simp))
    exact aops_seq2 hQ l _ a' w' (hn.trans hn0) (by rw[hn];exact hdl) hK ⟨p',hs'⟩
   have skip:∀ {s1:AS},s1=s→aops P false ops l Q (s1.put o.dst (.r .ud))→wantA ops s o=some false→wpListIn (fnc C.rd) 0 P ops Q' (o::(l++l2)) a w:=fun e hop hw=>by
    subst e
    unfold wpListIn
    rw[wantA_sound hp hw]
    simp only[Bool.false_eq_true,if_false]
    refine⟨fun _ _=>trivial,?_⟩
    have:=hp.put' (d:=o.dst) (av:=.r .ud) (v:=undef) (by simp only[AV.rel,RV.rel]) hd0
    exact aops_seq2 hQ l _ _ w ((put_n _ _ _).trans hn0) (by rw[put_n];exact hdl) hop ⟨p,this⟩
   unfold aops at h
   split at h
   ·rename_i hg
    exact run rfl h (by simp [wantA,hg])
   ·rename_i g want hg
    split at h
    ·rename_i ht
     exact skip rfl h (by simp [wantA,hg,ht])
    ·rename_i t ht
     split at h
     ·rename_i b hb
      by_cases hw:b=want
      ·subst hw
       exact run (put_self hb) (h.1 rfl) (by simp [wantA,hg,ht,hb])
      ·have hw':b = !want:=by cases b<;>cases want<;>simp_all
       subst hw'
       exact skip (put_self hb) (h.2 rfl) (by simp [wantA,hg,ht,hb])
     ·rename_i hb
      exact skip rfl h (by simp [wantA,hg,ht,hb])
     ·exact h.elim
def sops (P:Program) (C:Ctx) (ops:Array Oper) (l:List Oper) (Q:Exit→AS→Prop) (s:AS):Prop:=∀ a w,SRel C s a w→wpListIn (fnc C.rd) 0 P ops (fun e a' w'=>∃ s',SRel C s' a' w'∧Q e s') l a w
variable {Q:Exit→AS→Prop}
theorem awp_long {id:Nat}{l:List Oper}(h:sops P C l.toArray l Q s):awp P C (.region id l.toArray false) Q s:=fun a w hs=>wpIn_region_list (h a w hs)
theorem sops_take (k:Nat) {l:List Oper}(hd:dstOk (l.take k).toArray s.n=true) (h:∀ K:AS→Prop,(∀ s',s'.n=s.n→sops P C ops (l.drop k) Q s'→K s')→aops P false ops (l.take k) K s):sops P C ops l Q s:=fun a w hs=>by
 have h1:=h (fun s'=>s'.n=s.n→sops P C ops (l.drop k) Q s') (fun s' _ hq _=>hq)
 have:=aops_seq2 (Q':=fun e a' w'=>∃ s',SRel C s' a' w'∧Q e s') (l2:=l.drop k) (n:=s.n) (fun s' a' w' hn hq hs'=>hq hn a' w' hs') (l.take k) s a w rfl hd h1 hs
 rwa [List.take_append_drop] at this
theorem sops_sub {l:List Oper}{s':AS}(h:Sub s s') (hq:sops P C ops l Q s'):sops P C ops l Q s:=fun a w hs=>hq a w (h C a w hs)
theorem sops_end {l:List Oper}(hd:dstOk l.toArray s.n=true) (h:∀ K:AS→Prop,(∀ s,Q .normal s→K s)→aops P false ops l K s):sops P C ops l Q s:=fun a w hs =>
 aops_seq (fun s a w hq hs=>⟨s,hs,hq⟩) l s a w hd (h _ fun _ h=>h) hs
theorem awp_fitV {c:Code}{n:Nat}{F:(Nat→Nat)→List (Nat × AV)}{R:(Nat→Nat)→List (Nat × RowC)}(h:FitV n F R s) (k:∀ vs,awp P C c Q (st n (F vs) vs (R vs))):awp P C c Q s:=by
 obtain⟨vs,h⟩:=h
 exact zw h (k vs)
theorem zaw {n:Nat}{c d:Code}{Q1:Exit→AS→Prop}{α:Type}(F:α→(Nat→Nat)→List (Nat × AV)) (R:α→(Nat→Nat)→List (Nat × RowC)) (I:α→Prop)
 (h0:∀ s,awp P C d Q1 s→Q .normal s) (h1:awp P C c (andThen (fun s'=>∃ z,I z∧FitV n (F z) (R z) s') Q) s) (h2:∀ z vs,I z→awp P C d Q1 (st n (F z vs) vs (R z vs))):awp P C c Q s:=by
 refine awp_mono ?_ h1
 intro e s' hq
 cases e with
 | normal =>
   obtain⟨z,hz,hf⟩:=hq
   exact h0 s' (awp_fitV hf fun vs=>h2 z vs hz)
 | _=>exact hq
end
end Go.Oc

namespace Go.Oc
open Go Go.RowKit
def ICalls (P:Program) (z:Bool) (F:FuncId) (caps:List RV) (xs:List (List RV)):Prop :=
 callable P F=true∧∀ (w:World) (R:Nat→Prop) (vs:Array Value) (X:XS) (Ψ Θ:Nat→Prop),(∀ b,R b→b<w.heap.size)→RV.relV w R caps vs.toList→X.z=z→(z=false→∀ b,R b→X.R b)→X.n0≤w.heap.size→YOk P X →
  (∀ b,Ψ b→b<w.heap.size)→(∀ b,Θ b→b<w.heap.size)→(∀ b,R b→¬ Θ b)→X.X (some xs) w Ψ Θ →
  Calls P F (#[.func (.yield X.l) #[] #[]]++vs) w fun e w'=>(∃ v,e = .returned v)∧(∃ Ψ' Θ',X.X (some []) w' Ψ' Θ'∨X.X none w' Ψ' Θ')
def ipost (P:Program):Exit→AS→Prop
 | .normal,s=>∃ l z,(s.rows 999).c = .gh P l z (some [])∨(s.rows 999).c = .gh P l z none
 | .ret,s=>∃ l z,(s.rows 999).c = .gh P l z (some [])∨(s.rows 999).c = .gh P l z none
 | _,_=>False
theorem icalls_st {P:Program}{z:Bool}{f:FuncId}{fn:Func}{c:Code}{n:Nat}{caps:List RV}{xs:List (List RV)}(hf:P.funcs[f]? = some fn) (hb:fn.body=some c) (hc:callable P f=true) (hn:fn.ntmps=n) (hres:fn.results.toList=[])
 (hargs:caps.length+1≤n) (h:∀ C l,awp P C c (ipost P) (st n (argL 0 (.yl l::caps)) (fun _=>0) [(999,.gh P l z (some xs))])):ICalls P z f caps xs:=by
 refine⟨hc,fun w R vs0 X Ψ Θ hR hV0 hz hzR hn0 hY hΨ hΘ hRΘ hX=>?_⟩
 have hV:RV.relV w R (.yl X.l::caps) (#[Value.func (.yield X.l) #[] #[]]++vs0).toList:=by
  simp only[RV.relV];exact⟨Value.func (.yield X.l) #[] #[],vs0.toList,by simp,by simp only[RV.rel],hV0⟩
 generalize #[Value.func (.yield X.l) #[] #[]]++vs0=vs at hV
 have hlen:=RV.relV_length hV
 simp only[Array.length_toList,List.length_cons] at hlen
 let C:Ctx:={ w0:=w,R0:=R,bor:=Θ,pin:=fun _=>none,X:=X }
 let p:Plan:={ R:=R,β:=fun _=>none,γ:=fun _=>1,X:=X,Ψ:=Ψ,Θ:=Θ }
 have hs:SR C p (st n (argL 0 (.yl X.l::caps)) (fun _=>0) [(999,.gh P X.l z (some xs))]) { tmps:=vs++Array.replicate (fn.ntmps-vs.size) undef,defers:=[] } w:={
  base:=⟨rfl,rfl,rfl,Nat.le_refl _,fun _ _ _ _=>rfl⟩
  r0:=fun _ h=>h
  rn:=fun _ h=>.inl h
  rb:=hR
  tm:=fun t=>by
   show (look (argL 0 (.yl X.l::caps)) t).rel _ _ _ _
   by_cases hmem:∃ x,(t,x)∈argL 0 (RV.yl X.l::caps)
   ·cases e:(RV.yl X.l::caps)[t]? with
    | none =>
      obtain⟨x,hx⟩:=hmem
      obtain⟨i,y,h1,h2⟩:=argL_mem _ hx
      simp only[Nat.zero_add,Prod.mk.injEq] at h1
      rw[← h1.1,e] at h2;cases h2
    | some x =>
      obtain⟨u,hu,hx⟩:=RV.relV_get hV e
      have:(vs++Array.replicate (fn.ntmps-vs.size) undef).getD t undef=u:=by
       have ht:t<vs.size:=by have:=(List.getElem?_eq_some_iff.1 hu).1;simpa using this
       rw[Array.getD_eq_getD_getElem?,Array.getElem?_append_left ht]
       simp only[Array.getElem?_toList] at hu
       rw[hu];rfl
      have e2:=argL_look (k:=0) e
      rw[Nat.zero_add] at e2
      rw[this,e2]
      simpa only[AV.rel] using hx
   ·rw[look_none hmem]
    exact AV.rel_un _ _ _ _
  sz:=by simp only[Array.size_append,Array.size_replicate,st];omega
  ex:={
   px:=rfl
   n0:=hn0
   ψ0:=fun hz' b hb=>hzR (hz▸hz') b hb
   ψl:=hΨ
   θl:=hΘ
   ψb:=fun k b h=>by cases h
   ψr:=hRΘ
   ψo:=fun b h=>h.elim
   θo:=fun b h _=>h
   bo:=fun b h=>h.elim (hΘ b) (fun h=>h.elim)
   ψn:=fun hn=>(hn _ _ _ _ hX).elim
   hd:=fun b h=>h.elim
   rm:=fun _=>rfl
   df:=⟨[],rfl,List.nodup_nil,fun D hD=>by cases hD⟩ }
  rw:=fun k=>by
   show zrl w p _ k (lookc [(999,RowC.gh P X.l z (some xs))] k)
   rw[zlc,lookc_nil]
   split
   ·rename_i e
    simp only[zrl];exact⟨e,rfl,rfl,rfl,hz,hY,hX⟩
   ·simp only[zrl];exact⟨rfl,rfl⟩
  bl:=fun k b h=>by simp [p] at h
  ij:=fun k k' b h=>by simp [p] at h
  cap:=fun k=>by simp [p,maxLen]
  pn:=fun k x h=>by cases h
  lk:=fun j km n l cur h _=>by
   have h':lookc [(999,RowC.gh P X.l z (some xs))] j = .mi km n l cur:=h
   rw[zlc,lookc_nil] at h'
   split at h'<;>cases h' }
 refine callsIn_wide.1 (callsIn_of_wp_marks (n:=0) hf hb trivial (wpIn_mono (h C X.l _ w ⟨p,hs⟩) ?_))
 rintro e a' w' ⟨s',⟨p',hs'⟩,hq⟩
 have fin:∀ (a':Act) (w':World),SR C p' s' a' w'→(∃ l z,(s'.rows 999).c = .gh P l z (some [])∨(s'.rows 999).c = .gh P l z none) →
  ∃ v,(results fn a'.tmps).run P w' = .ok v w'∧((∃ v',Ending.returned v = .returned v')∧∃ Ψ' Θ',X.X (some []) w' Ψ' Θ'∨X.X none w' Ψ' Θ'):=fun a' w' hs' ⟨l,z',hq⟩=>by
  have hm:(fn.results.mapM (resOp a'.tmps)).run P w' = .ok #[] w':=by
   rw[Array.mapM_eq_mapM_toList,hres]
   simp only[Sem.run_map,List.mapM_nil,Sem.run_pure,Result.andThen_ok]
  refine⟨.tuple #[],by rw[results_eq,Sem.run_bind,hm];simp,⟨_,rfl⟩,p'.Ψ,p'.Θ,?_⟩
  have hpx:p'.X=X:=hs'.ex.px
  have hr:=hs'.rw 999
  rcases hq with hq|hq
  ·rw[hq] at hr
   simp only[zrl] at hr
   rw[hpx] at hr
   exact .inl hr.2.2.2.2.2.2
  ·rw[hq] at hr
   simp only[zrl] at hr
   rw[hpx] at hr
   exact .inr hr.2.2.2.2.2.2
 cases e with
 | normal=>exact hs'.leave fun a'' w'' _ hs''=>fin a'' w'' hs'' hq
 | ret=>exact hs'.leave fun a'' w'' _ hs''=>fin a'' w'' hs'' hq
 | _=>exact hq.elim
section
variable {P:Program}{C:Ctx}{p p1 p3:Plan}{s s1 s3:AS}{a a1 a3:Act}{w w1 w2 w3:World}{L:Nat}{R:Nat→Prop}
def Cin (C:Ctx) (p:Plan) (R:Nat→Prop) (w:World) (rd:Option Nat) (Hd:Nat→Prop):Ctx :=
 { w0:=w,R0:=fun b=>p.R b∨R b,bor:=fun b=>C.bor b∧∃ k,1000≤k∧p.β k=some b,pin:=C.pin,own:=fun b=>∃ k,p.β k=some b∧¬ (1000≤k∧C.bor b),X:=C.X,rd:=rd,hd:=Hd }
theorem own_of {k b:Nat}(h:p.β k=some b):(1000≤k∧(C.bor b∧∃ k,1000≤k∧p.β k=some b))∨∃ k,p.β k=some b∧¬ (1000≤k∧C.bor b):=by
 by_cases e:1000≤k∧C.bor b
 ·exact .inl ⟨e.1,e.2,k,e.1,h⟩
 ·exact .inr ⟨k,h,e⟩
theorem SR.into (h:SR C p s a w) (hn:∀ o w Ψ Θ,¬ C.X.X o w Ψ Θ) (hos:w2.os=w.os) (htape:w2.tape=w.tape) (hout:w2.output=w.output) (hsize:w2.heap.size=w.heap.size) (hoth:∀ b,b≠L→w2.heap[b]? = w.heap[b]?)
 (hLR:¬ p.R L) (hLβ:∀ k,p.β k≠some L) (hR:∀ b,R b→b<w.heap.size∧∀ k,p.β k≠some b) {a':Act}{tm':Nat→AV}(htm:∀ t,(tm' t).rel w2 { p with R:=fun b=>p.R b∨R b } s.ver (a'.tmps.getD t undef))
 (hsz:a'.tmps.size=s.n) (hdf:a'.defers=[]) {rd:Option Nat}{Hd:Nat→Prop}(hHd:∀ b,Hd b→b<w.heap.size∧¬ C.bor b∧¬ p.R b∧¬ R b∧∀ k,p.β k≠some b) (hC:C.X=XS.none) :
 SR (Cin C p R w2 rd Hd) { p with R:=fun b=>p.R b∨R b } { s with tm:=tm' } a' w2:=by
 have hk:Kept w w2 p { p with R:=fun b=>p.R b∨R b } s.ver s.ver :=
  ⟨fun _ h=>.inl h,fun ad hr=>World.cell?_of_block (hoth _ fun e=>hLR (e▸hr)),fun _=>Nat.le_refl _,fun _ _=>⟨rfl,rfl⟩⟩
 have hψ:=h.ex.ψn hn
 exact {
  base:=⟨rfl,rfl,rfl,Nat.le_refl _,fun _ _ _ _=>rfl⟩
  r0:=fun _ h=>h
  rn:=fun _ h=>.inl h
  rb:=fun b hb=>by rw[hsize];exact hb.elim (h.rb b) (fun hb=>(hR b hb).1)
  tm:=htm
  sz:=hsz
  ex:={
   px:=h.ex.px
   n0:=by show C.X.n0≤_;rw[hC];exact Nat.zero_le _
   ψ0:=fun hz=>by have:C.X.z=false:=hz;rw[hC] at this;cases this
   ψl:=fun b hb=>((hψ b).1 hb).elim
   θl:=fun b hb=>((hψ b).2 hb).elim
   ψb:=fun k b _=>hψ b
   ψr:=fun b _=>(hψ b).2
   ψo:=fun b _=>.inr (by show C.X.n0≤_;rw[hC];exact Nat.zero_le _)
   θo:=fun b hb=>((hψ b).2 hb).elim
   bo:=fun b hb=>by
    show b<w2.heap.size
    rw[hsize]
    rcases hb with⟨_,k,_,hk⟩|⟨k,hk,_⟩
    ·exact (h.bl k b hk).1
    ·exact (h.bl k b hk).1
   ψn:=fun _ b=>hψ b
   hd:=fun b hb=>by
    obtain⟨g1,g2,g3,g4,g5⟩:=hHd b hb
    exact⟨by show b<w2.heap.size;rw[hsize];exact g1,fun ⟨g,_⟩=>g2 g,fun ⟨k,g,_⟩=>g5 k g,by rw[hsize];exact g1,fun g=>g.elim g3 g4,(hψ b).1,(hψ b).2,g5⟩
   rm:=fun _=>hdf
   df:=⟨[],hdf,List.nodup_nil,fun D hD=>by cases hD⟩ }
  rw:=fun k=>by
   by_cases e:k=999
   ·have hr:=h.rw k
    show zrl w2 _ s.ver k (s.rows k).c
    cases hc:(s.rows k).c with
    | gh P' l z left =>
      rw[hc] at hr
      simp only[zrl] at hr
      exact (hn _ _ _ _ (h.ex.px▸hr.2.2.2.2.2.2)).elim
    | _ =>
      refine rowRel_mono hk (.inr ⟨rfl,rfl,rfl,hos,htape,hout,Nat.le_of_eq hsize.symm,fun b hb=>((hψ b).1 hb).elim⟩) rfl rfl (fun b hb=>hoth b fun e=>hLβ k (e▸hb)) _ (fun km _ _ _ _ _ b hb=>hoth b fun e=>hLβ km (e▸hb)) (by rw[hc] at hr;exact hr)
   ·exact rowRel_mono hk (.inl e) rfl rfl (fun b hb=>hoth b fun e=>hLβ k (e▸hb)) _ (fun km _ _ _ _ _ b hb=>hoth b fun e=>hLβ km (e▸hb)) (h.rw k)
  bl:=fun k b hb=>⟨by rw[hsize];exact (h.bl k b hb).1,fun hr=>hr.elim (h.bl k b hb).2.1 (fun hr=>(hR b hr).2 k hb),.inr (own_of hb)⟩
  ij:=h.ij
  cap:=h.cap
  pn:=h.pn
  lk:=h.lk }
structure Hop (C:Ctx) (p:Plan) (w:World) (L:Nat) (R:Nat→Prop) (p3:Plan) (w3:World):Prop where
 os:w3.os=w.os
 tape:w3.tape=w.tape
 output:w3.output=w.output
 size:w.heap.size≤w3.heap.size
 heap:∀ b,b<w.heap.size→(∀ k,p.β k≠some b)→b≠L→w3.heap[b]? = w.heap[b]?
 r:∀ b,p.R b→p3.R b
 rn:∀ b,p3.R b→p.R b∨R b∨w.heap.size≤b∨∃ k,p.β k=some b∧¬ (1000≤k∧C.bor b)
 bl:∀ k b,p3.β k=some b→w.heap.size≤b∨(1000≤k∧C.bor b∧∃ k,1000≤k∧p.β k=some b)∨∃ k,p.β k=some b∧¬ (1000≤k∧C.bor b)
theorem Hop.of (hos:w2.os=w.os) (htape:w2.tape=w.tape) (hout:w2.output=w.output) (hsize:w2.heap.size=w.heap.size) (hoth:∀ b,b≠L→w2.heap[b]? = w.heap[b]?) {rd:Option Nat}{Hd:Nat→Prop}
 (h:SR (Cin C p R w2 rd Hd) p3 s3 a3 w3):Hop C p w L R p3 w3 where
 os:=h.base.os.trans hos
 tape:=h.base.tape.trans htape
 output:=h.base.output.trans hout
 size:=hsize▸h.base.size
 heap:=fun b hb hn hl=>(h.base.block b (by show b<w2.heap.size;rw[hsize];exact hb) (fun ⟨_,k,_,hk⟩=>hn k hk) (fun ⟨k,hk,_⟩=>hn k hk)).trans (hoth b hl)
 r:=fun b hb=>h.r0 b (.inl hb)
 rn:=fun b hb=>by
  rcases h.rn b hb with g|g|g
  ·exact g.elim .inl (fun g=>.inr (.inl g))
  ·exact .inr (.inr (.inl (by rw[← hsize];exact g)))
  ·exact .inr (.inr (.inr g))
 bl:=fun k b hb=>by
  rcases (h.bl k b hb).2.2 with g|⟨g1,g2,k',g3,g4⟩|g
  ·exact .inl (by rw[← hsize];exact g)
  ·exact .inr (.inl ⟨g1,g2,k',g3,g4⟩)
  ·exact .inr (.inr g)
theorem Hop.trans (h:Hop C p w L R p1 w1) {C':Ctx}(hCb:∀ b,C'.bor b↔C.bor b∧∃ k,1000≤k∧p.β k=some b) (h':Hop C' p1 w1 L (fun _=>False) p3 w3):Hop C p w L R p3 w3 where
 os:=h'.os.trans h.os
 tape:=h'.tape.trans h.tape
 output:=h'.output.trans h.output
 size:=Nat.le_trans h.size h'.size
 heap:=fun b hb hn hl=>by
  refine (h'.heap b (Nat.lt_of_lt_of_le hb h.size) (fun k hk=>?_) hl).trans (h.heap b hb hn hl)
  rcases h.bl k b hk with g|⟨_,_,k',_,g⟩|⟨k',g,_⟩
  ·omega
  ·exact hn k' g
  ·exact hn k' g
 r:=fun b hb=>h'.r b (h.r b hb)
 rn:=fun b hb=>by
  rcases h'.rn b hb with g|g|g|⟨k,g,g'⟩
  ·exact h.rn b g
  ·exact g.elim
  ·exact .inr (.inr (.inl (Nat.le_trans h.size g)))
  ·rcases h.bl k b g with g1|⟨g1,g2,g3⟩|g1
   ·exact .inr (.inr (.inl g1))
   ·exact (g' ⟨g1,(hCb b).2 ⟨g2,g3⟩⟩).elim
   ·exact .inr (.inr (.inr g1))
 bl:=fun k b hb=>by
  rcases h'.bl k b hb with g|⟨g1,g2,_⟩|⟨k',g1,g2⟩
  ·exact .inl (Nat.le_trans h.size g)
  ·exact .inr (.inl ⟨g1,((hCb b).1 g2).1,((hCb b).1 g2).2⟩)
  ·rcases h.bl k' b g1 with q|⟨q1,q2,q3⟩|q
   ·exact .inl q
   ·exact (g2 ⟨q1,(hCb b).2 ⟨q2,q3⟩⟩).elim
   ·exact .inr (.inr q)
theorem Hop.put (h:Hop C p w L R p3 w3) {o:Obj}:Hop C p w L R p3 (w3.putObj L o) where
 os:=h.os
 tape:=h.tape
 output:=h.output
 size:=by rw[World.putObj_size];exact h.size
 heap:=fun b hb hn hl=>(World.putObj_heap_other hl).trans (h.heap b hb hn hl)
 r:=h.r
 rn:=h.rn
 bl:=h.bl
theorem SR.land (h0:SR C p s a w) (hn:∀ o w Ψ Θ,¬ C.X.X o w Ψ Θ) (hL0:C.w0.heap.size≤L) (hLm:∀ d∈a.defers,d.target ≠ .collected L) (hop:Hop C p w L R p3 w3)
 (hR:∀ b,R b→b<w.heap.size∧(∀ d∈a.defers,d.target ≠ .collected b)∧¬ C.hd b∧(C.R0 b∨C.w0.heap.size≤b∨C.own b)) {C':Ctx}(hpin:C'.pin=C.pin) (hX:C'.X=C.X) (h3:SR C' p3 s3 a3 w2) (hLR:¬ p3.R L) (hLβ:∀ k,p3.β k≠some L)
 (hos:w3.os=w2.os) (htape:w3.tape=w2.tape) (hout:w3.output=w2.output) (hsize:w3.heap.size=w2.heap.size) (hoth:∀ b,b≠L→w3.heap[b]? = w2.heap[b]?) :
 SR C p3 { n:=s.n,tm:=fun _=>.r .un,rows:=s3.rows } a w3:=by
 have hψ:=h3.ex.ψn (by rw[hX];exact hn)
 have hk:Kept w2 w3 p3 p3 s3.ver s3.ver:=⟨fun _ h=>h,fun ad hr=>World.cell?_of_block (hoth _ fun e=>hLR (e▸hr)),fun _=>Nat.le_refl _,fun _ _=>⟨rfl,rfl⟩⟩
 have hx:KX w2 w3 p3 p3:=⟨rfl,rfl,rfl,hos,htape,hout,Nat.le_of_eq hsize.symm,fun b hb=>((hψ b).1 hb).elim⟩
 have hβC:∀ k b,p3.β k=some b→C.w0.heap.size≤b∨(1000≤k∧C.bor b)∨C.own b:=fun k b hb=>by
  rcases hop.bl k b hb with g|⟨g1,g2,_⟩|⟨k',g1,g2⟩
  ·exact .inl (Nat.le_trans h0.base.size g)
  ·exact .inr (.inl ⟨g1,g2⟩)
  ·rcases (h0.bl k' b g1).2.2 with q|q|q
   ·exact .inl q
   ·exact (g2 q).elim
   ·exact .inr (.inr q)
 have hout':∀ b,b<w.heap.size→(∀ k,p.β k≠some b)→(∀ k,p3.β k=some b→1000≤k∧C.bor b∧∃ k,1000≤k∧p.β k=some b):=fun b hb hn k hk=>by
  rcases hop.bl k b hk with g|g|⟨k',g1,_⟩
  ·omega
  ·exact g
  ·exact (hn k' g1).elim
 exact {
  base:=⟨hop.os.trans h0.base.os,hop.tape.trans h0.base.tape,hop.output.trans h0.base.output,Nat.le_trans h0.base.size hop.size,fun b hb hbor hown=>by
   refine (hop.heap b (Nat.lt_of_lt_of_le hb h0.base.size) (fun k hk=>?_) (fun e=>by omega)).trans (h0.base.block b hb hbor hown)
   rcases (h0.bl k b hk).2.2 with g|g|g
   ·omega
   ·exact hbor g.2
   ·exact hown g⟩
  r0:=fun b hb=>hop.r b (h0.r0 b hb)
  rn:=fun b hb=>by
   rcases hop.rn b hb with g|g|g|⟨k,g1,g2⟩
   ·exact h0.rn b g
   ·exact (hR b g).2.2.2
   ·exact .inr (.inl (Nat.le_trans h0.base.size g))
   ·rcases (h0.bl k b g1).2.2 with q|q|q
    ·exact .inr (.inl q)
    ·exact (g2 q).elim
    ·exact .inr (.inr q)
  rb:=fun b hb=>hsize▸h3.rb b hb
  tm:=fun t=>AV.rel_un _ _ _ _
  sz:=h0.sz
  ex:={
   px:=h3.ex.px.trans hX
   n0:=h0.ex.n0
   ψ0:=h0.ex.ψ0
   ψl:=fun b hb=>((hψ b).1 hb).elim
   θl:=fun b hb=>((hψ b).2 hb).elim
   ψb:=fun k b _=>hψ b
   ψr:=fun b _=>(hψ b).2
   ψo:=h0.ex.ψo
   θo:=fun b hb=>((hψ b).2 hb).elim
   bo:=h0.ex.bo
   ψn:=fun _ b=>hψ b
   hd:=fun b hb=>by
    obtain⟨k1,k2,k3,k4,k5,k6,k7,k8⟩:=h0.ex.hd b hb
    refine⟨k1,k2,k3,Nat.lt_of_lt_of_le k4 hop.size,fun g=>?_,(hψ b).1,(hψ b).2,fun k hk=>?_⟩
    ·rcases hop.rn b g with g|g|g|⟨k,g,_⟩
     ·exact k5 g
     ·exact (hR b g).2.2.1 hb
     ·omega
     ·exact k8 k g
    ·exact k2 (hout' b k4 k8 k hk).2.1
   rm:=h0.ex.rm
   df:=by
    obtain⟨Ds,g1,g2,g3⟩:=h0.ex.df
    refine⟨Ds,g1,g2,fun D hD=>?_⟩
    have hmem:({ target:=.collected D,args:=#[] }:Deferred)∈a.defers:=by rw[g1];exact List.mem_map.2 ⟨D,hD,rfl⟩
    obtain⟨k1,k2,k3,k4,k5,k6⟩:=g3 D hD
    have hlt:D<w.heap.size:=(Array.getElem?_eq_some_iff.1 k1).1
    refine⟨(hop.heap D hlt k4 fun e=>hLm _ hmem (by rw[e])).trans k1,k2,fun g=>?_,fun k hk=>?_,(hψ D).1,(hψ D).2⟩
    ·rcases hop.rn D g with g|g|g|⟨k,g,_⟩
     ·exact k3 g
     ·exact (hR D g).2.1 _ hmem rfl
     ·omega
     ·exact k4 k g
    ·have:=h0.ex.bo D (.inl (hout' D hlt k4 k hk).2.1);omega }
  rw:=fun k=>by
   show zrl w3 p3 s3.ver k (s3.rows k).c
   exact rowRel_mono hk (.inr hx) rfl rfl (fun b hb=>hoth b fun e=>hLβ k (e▸hb)) _ (fun km _ _ _ _ _ b hb=>hoth b fun e=>hLβ km (e▸hb)) (h3.rw k)
  bl:=fun k b hb=>⟨by rw[hsize];exact (h3.bl k b hb).1,(h3.bl k b hb).2.1,hβC k b hb⟩
  ij:=h3.ij
  cap:=h3.cap
  pn:=fun k x hx=>h3.pn k x (by rw[hpin];exact hx)
  lk:=h3.lk }
end
end Go.Oc

namespace Go.Oc
open Go Go.RowKit
section
variable {P:Program}{C:Ctx}{p:Plan}{s:AS}{a:Act}{w:World}
theorem SR.enter (h:SR C p s a w) (hrd:C.rd=none) (o1:Loop) :
 SR C p s { tmps:=a.tmps,defers:={ target:=.collected w.heap.size,args:=#[] }::a.defers } ((w.alloc (.deferred (some []))).alloc (.loop o1)):=by
 have h1:SR C p s a ((w.alloc (.deferred (some []))).alloc (.loop o1)) :=
  h.below (R':=p.R) (((Below.refl _ w).alloc (Nat.le_refl _) _).alloc (by simp) _) (fun _ h=>h) (fun _ h=>.inl h) (fun b hb=>by have:=h.rb b hb;simp;omega)
 have hnew:((w.alloc (.deferred (some []))).alloc (.loop o1)).heap[w.heap.size]? = some (.deferred (some [])):=(Below.heap_alloc _ _ _ (by simp)).trans (World.alloc_heap_new w _)
 refine h1.other rfl rfl rfl rfl (Nat.le_refl _) (fun _ _ _=>rfl) { h1.ex with rm:=fun hr=>absurd hr (by rw[hrd];simp),df:=?_ }
 obtain⟨Ds,g1,g2,g3⟩:=h.ex.df
 obtain⟨Ds',g1',_,g3'⟩:=h1.ex.df
 have he:Ds'=Ds:=marks_inj (g1'.symm.trans g1)
 subst he
 refine⟨w.heap.size::Ds',by rw[g1];rfl,List.nodup_cons.2 ⟨fun hD=>?_,g2⟩,fun D hD=>?_⟩
 ·have:=(Array.getElem?_eq_some_iff.1 (g3 _ hD).1).1;omega
 ·rcases List.mem_cons.1 hD with rfl|hD
  ·exact⟨hnew,h.base.size,fun hr=>by have:=h.rb _ hr;omega,fun k hk=>by have:=(h.bl k _ hk).1;omega,fun hr=>by have:=h.ex.ψl _ hr;omega,fun hr=>by have:=h.ex.θl _ hr;omega⟩
  ·exact g3' D hD
theorem SR.wait (h:SR C p s a w) (hdead:(s.rows 0).c = .dead) (ts:List Nat) :
 SR C p { n:=s.n,tm:=fun _=>.r .un,rows:=upd s.rows 0 ⟨(s.rows 0).ver,.sus (ts.map s.tm) (ts.map fun t=>a.tmps.getD t undef)⟩ } a w:=by
 have hv:AS.ver { n:=s.n,tm:=fun _=>.r .un,rows:=upd s.rows 0 ⟨(s.rows 0).ver,.sus (ts.map s.tm) (ts.map fun t=>a.tmps.getD t undef)⟩ }=s.ver:=by
  funext j
  show (upd s.rows 0 _ j).ver=(s.rows j).ver
  unfold upd;split
  ·rename_i e;subst e;rfl
  ·rfl
 exact {
  base:=h.base
  r0:=h.r0
  rn:=h.rn
  rb:=h.rb
  tm:=fun t=>AV.rel_un _ _ _ _
  sz:=h.sz
  ex:=h.ex
  rw:=fun k=>by
   rw[hv]
   show zrl w p s.ver k (upd s.rows 0 _ k).c
   by_cases e:k=0
   ·subst e
    rw[zus]
    have hr:=h.rw 0
    rw[hdead] at hr
    simp only[zrl] at hr ⊢
    refine⟨hr.1,hr.2,?_⟩
    clear hv hr
    induction ts with
    | nil=>simp [AV.relV]
    | cons t ts ih=>simp only[List.map_cons,AV.relV];exact⟨_,_,rfl,h.tm t,ih⟩
   ·rw[zuo _ _ e];exact h.rw k
  bl:=h.bl
  ij:=h.ij
  cap:=h.cap
  pn:=fun k x hx=>by rw[hv];exact h.pn k x hx
  lk:=fun j km n l cur hj hn=>by
   rw[hv] at hn
   show (upd s.rows 0 _ km).c.isMpi=true
   have hj':(upd s.rows 0 ⟨(s.rows 0).ver,.sus (ts.map s.tm) (ts.map fun t=>a.tmps.getD t undef)⟩ j).c = .mi km n l cur:=hj
   by_cases e:j=0
   ·subst e;rw[zus] at hj';cases hj'
   ·rw[zuo _ _ e] at hj'
    have h5:=h.lk j km n l cur hj' hn
    have e2:km≠0:=fun e2=>by rw[e2,hdead] at h5;cases h5
    rw[zuo _ _ e2];exact h5 }
def psA:List Nat→List RV→(Nat→AV)→Nat→AV
 | t::ts,x::xs,tm=>psA ts xs (upd tm t (.r x))
 | _,_,tm=>tm
theorem look_zip {ver:Nat→Nat}{f:Nat→Value}:∀ {ts:List Nat}{avs:List AV},AV.relV w p ver avs (ts.map f)→∀ t,(look (ts.zip avs) t).rel w p ver (f t)
 | [],_,_,t=>by simp only[List.zip_nil_left];exact AV.rel_un _ _ _ _
 | _::_,[],_,t=>by simp only[List.zip_nil_right];exact AV.rel_un _ _ _ _
 | t0::ts, x::avs, h, t=>by
   simp only[List.map_cons,AV.relV] at h
   obtain⟨u,us,he,h1,h2⟩:=h
   injection he with e1 e2
   subst e1 e2
   simp only[List.zip_cons_cons]
   show ((if t=t0 then x else look (ts.zip avs) t)).rel w p ver (f t)
   split
   ·rename_i e;subst e;exact h1
   ·exact look_zip h2 t
theorem psA_rel {ver:Nat→Nat}:∀ (ts:List Nat) (es:List RV) (vs:List Value) (tm:Nat→AV) (tmps:Array Value),RV.relV w p.R es vs→(∀ t∈ts,t<tmps.size)→(∀ t,(tm t).rel w p ver (tmps.getD t undef)) →
 ((ts.zip vs).foldl (fun tmps (x:Nat × Value)=>tmps.setIfInBounds x.1 x.2) tmps).size=tmps.size∧∀ t,(psA ts es tm t).rel w p ver (((ts.zip vs).foldl (fun tmps (x:Nat × Value)=>tmps.setIfInBounds x.1 x.2) tmps).getD t undef)
 | [],_,_,tm,tmps,_,_,h=>⟨rfl,h⟩
 | t0::ts, [], vs, tm, tmps, hV, _, h=>by
   simp only[RV.relV] at hV
   subst hV
   exact⟨rfl,h⟩
 | t0::ts, x::es, vs, tm, tmps, hV, hlt, h=>by
   simp only[RV.relV] at hV
   obtain⟨u,us,rfl,h1,h2⟩:=hV
   simp only[List.zip_cons_cons,List.foldl_cons]
   have h3:=psA_rel (ver:=ver) ts es us (upd tm t0 (.r x)) (tmps.setIfInBounds t0 u) h2 (fun t ht=>by simpa using hlt t (by simp [ht])) (fun t=>by
    by_cases e:t=t0
    ·subst e
     rw[zus]
     have:t<tmps.size:=hlt t (by simp)
     have e2:(tmps.setIfInBounds t u).getD t undef=u:=by simp [Array.getD,this]
     rw[e2]
     simpa only[AV.rel] using h1
    ·rw[zuo _ _ e]
     have e2:(tmps.setIfInBounds t0 u).getD t undef=tmps.getD t undef:=by simp only[Array.getD_eq_getD_getElem?,Array.getElem?_setIfInBounds_ne (Ne.symm e)]
     rw[e2];exact h t)
   exact⟨h3.1.trans (by simp),h3.2⟩
theorem look_nil':look []=fun _=>AV.r .un:=funext fun _=>rfl
def rpost (n:Nat) (I:List (List RV)→List Value→AS→Prop) (J:Code→List Value→AS→Prop) (rest:List (List RV)) (us:List Value):Exit→AS→Prop
 | .normal,s=>∃ s4,Sub s s4∧I rest us ⟨n,look [],s4.rows⟩
 | .ret,s=>∃ s4,Sub s s4∧J .ret us ⟨n,look [],s4.rows⟩
 | .exit id,s=>∃ s4,Sub s s4∧J (.exit id) us ⟨n,look [],s4.rows⟩
 | .goto l,s=>∃ s4,Sub s s4∧J (.goto l) us ⟨n,look [],s4.rows⟩
 | _,_=>False
def XJ (C:Ctx) (aL:Act) (L:Nat) (rec:LoopState→Option Code→Loop) (I:List (List RV)→AS→Prop) (J:Code→AS→Prop) (o:Option (List (List RV))) (w:World) (Ψ Θ:Nat→Prop):Prop :=
 ∃ p s, SR C p s aL w∧s.n=aL.tmps.size∧(match o with
   | some left=>I left s∧w.heap[L]? = some (.loop (rec .ready none))
   | none=>∃ c,J c s∧w.heap[L]? = some (.loop (rec .done (some c))))∧¬ p.R L∧(∀ k,p.β k≠some L) ∧
   (∀ b,Ψ b↔p.R b∨(∃ k,p.β k=some b)∨(b<C.w0.heap.size∧¬ C.bor b∧¬ C.own b)∨b=L∨C.hd b∨∃ d∈aL.defers,d.target = .collected b)∧(∀ b,Θ b↔(∃ k,p.β k=some b)∨b=L)
theorem XJ.st (hn:∀ o w Ψ Θ,¬ C.X.X o w Ψ Θ) {aL:Act}{L:Nat}{rec:LoopState→Option Code→Loop}{I:List (List RV)→AS→Prop}{J:Code→AS→Prop}{o:Option (List (List RV))}{w w':World}{Ψ Θ:Nat→Prop}(h:XJ C aL L rec I J o w Ψ Θ)
 (hos:w'.os=w.os) (htape:w'.tape=w.tape) (hout:w'.output=w.output) (hsize:w.heap.size≤w'.heap.size) (hh:∀ b,Ψ b→w'.heap[b]? = w.heap[b]?):XJ C aL L rec I J o w' Ψ Θ:=by
 obtain⟨p,s,hS,hsn,ho,hLR,hLβ,hΨ,hΘ⟩:=h
 have hψ:=hS.ex.ψn hn
 refine⟨p,s,hS.other rfl hos htape hout hsize (fun b hb hf=>hh b ((hΨ b).2 ?_)) ?_,hsn,?_,hLR,hLβ,hΨ,hΘ⟩
 ·rcases hf with g|g|g|g
  ·exact .inl g
  ·exact .inr (.inl g)
  ·exact .inr (.inr (.inl g))
  ·exact ((hψ b).1 g).elim
 ·obtain⟨Ds,g1,g2,g3⟩:=hS.ex.df
  exact { hS.ex with
   ψl:=fun b hb=>((hψ b).1 hb).elim
   θl:=fun b hb=>((hψ b).2 hb).elim
   hd:=fun b hb=>by
    obtain⟨k1,k2,k3,k4,k5⟩:=hS.ex.hd b hb
    exact⟨k1,k2,k3,Nat.lt_of_lt_of_le k4 hsize,k5⟩
   df:=⟨Ds,g1,g2,fun D hD=>by
    obtain⟨k1,k2⟩:=g3 D hD
    refine⟨(hh D ((hΨ D).2 (.inr (.inr (.inr (.inr (.inr ⟨{ target:=.collected D,args:=#[] },?_,rfl⟩))))))).trans k1,k2⟩
    rw[g1];exact List.mem_map.2 ⟨D,hD,rfl⟩⟩ }
 ·have hL:=hh L ((hΨ L).2 (.inr (.inr (.inr (.inl rfl)))))
  cases o with
  | some left=>exact⟨ho.1,hL.trans ho.2⟩
  | none =>
    obtain⟨c,h1,h2⟩:=ho
    exact⟨c,h1,hL.trans h2⟩
theorem callee_eval (h:SR C p s a w) {f:Operand}{F:FuncId}{cs:List AV}(hF:callee? (s.ev f)=some (F,cs)):∃ vs:Array Value,a.eval f = .func (.func F) #[] vs∧AV.relV w p s.ver cs vs.toList:=by
 have hx:=h.ev f
 unfold callee? at hF
 split at hF
 ·rename_i g cs' e
  injection hF with hF
  injection hF with h1 h2
  subst h1 h2
  rw[e] at hx
  simp only[AV.rel,RV.rel] at hx
  obtain⟨vs,hv,hV⟩:=hx
  exact⟨vs,hv,AV.relV_map_r hV⟩
 ·rename_i g cs' e
  injection hF with hF
  injection hF with h1 h2
  subst h1 h2
  rw[e] at hx
  simp only[AV.rel] at hx
  exact hx
 ·cases hF
theorem SR.awake (h:SR C p s a w) {avs:List AV}{ts:List Nat}(hrow:(s.rows 0).c = .sus avs (ts.map fun t=>a.tmps.getD t undef)):SR C p ⟨s.n,look (ts.zip avs),s.rows⟩ a w :=
 { h with
   tm:=fun t=>by
    have hr:=h.rw 0
    rw[hrow] at hr
    simp only[zrl] at hr
    exact look_zip (f:=fun t=>a.tmps.getD t undef) hr.2.2 t }
theorem putObj_other {w:World}{L:Nat}{o:Obj}:∀ b,b≠L→(w.putObj L o).heap[b]? = w.heap[b]?:=fun b hb=>World.putObj_heap_other hb
theorem SR.turn (h:SR C p s a w) {L:Nat}{o:Obj}(hLR:¬ p.R L) (hLβ:∀ k,p.β k≠some L) (hL0:C.w0.heap.size≤L) (hψ:∀ b,¬ p.Ψ b∧¬ p.Θ b) (hLm:∀ d∈a.defers,d.target ≠ .collected L):SR C p s a (w.putObj L o):=by
 refine h.other rfl rfl rfl rfl (Nat.le_of_eq World.putObj_size.symm) (fun b _ hb=>putObj_other b fun e=>?_) ?_
 ·subst e
  rcases hb with g|⟨k,g⟩|g|g
  ·exact hLR g
  ·exact hLβ k g
  ·omega
  ·exact (hψ b).1 g
 ·obtain⟨Ds,g1,g2,g3⟩:=h.ex.df
  exact { h.ex with
   ψl:=fun b hb=>((hψ b).1 hb).elim
   θl:=fun b hb=>((hψ b).2 hb).elim
   hd:=fun b hb=>by rw[World.putObj_size];exact h.ex.hd b hb
   df:=⟨Ds,g1,g2,fun D hD=>by
    obtain⟨k1,k2⟩:=g3 D hD
    refine⟨(putObj_other D fun e=>hLm { target:=.collected D,args:=#[] } ?_ (by rw[e])).trans k1,k2⟩
    rw[g1];exact List.mem_map.2 ⟨D,hD,rfl⟩⟩ }
set_option maxHeartbeats 400000 in
theorem awp_rangeFunc {g:Operand}{ps:Array Tmp}{assign body:Code}{Q:Exit→AS→Prop}(hrd:C.rd=none) (hC:C.X=XS.none) {F:FuncId}{cs:List AV}{args:List RV}{xs:List (List RV)}{z:Bool}
 (hF:callee? (s.ev g)=some (F,cs)) (hcap0:∀ (p:Plan) (a:Act) (w:World),SR C p s a w→∀ vs:List Value,AV.relV w p s.ver cs vs→∃ Rx:Nat→Prop,(∀ b,Rx b→C.hd b∧z=true)∧RV.relV w (fun b=>p.R b∨Rx b) args vs) (hI:ICalls P z F args xs) (hdead:(s.rows 0).c = .dead) (ts:List Nat) (hps:∀ t∈ps.toList,t<s.n)
 (I:List (List RV)→List Value→AS→Prop) (J:Code→List Value→AS→Prop)
 (h0:∀ us,I xs us { n:=s.n,tm:=look [],rows:=upd s.rows 0 ⟨(s.rows 0).ver,.sus (ts.map s.tm) us⟩ })
 (round:∀ e rest us s',s'.n=s.n→I (e::rest) us s'→e.length=ps.size∧∃ avs,(s'.rows 0).c = .sus avs us∧∀ C,awp P C assign (fun x s2=>x = .normal∧∀ C,awp P C body (rpost s.n I J rest us) s2) ⟨s.n,psA ps.toList e (look (ts.zip avs)),s'.rows⟩)
 (done:∀ us s',s'.n=s.n→I [] us s'→∃ avs,(s'.rows 0).c = .sus avs us∧Q .normal ⟨s.n,look (ts.zip avs),s'.rows⟩)
 (stop:∀ c us s',s'.n=s.n→J c us s'→∃ avs,(s'.rows 0).c = .sus avs us∧awp P C c Q ⟨s.n,look (ts.zip avs),s'.rows⟩):awp P C (.rangeFunc g ps assign body) Q s:=by
 rintro a w ⟨p,hS⟩
 have hn:∀ o w Ψ Θ,¬ C.X.X o w Ψ Θ:=fun o w Ψ Θ h=>by rw[hC] at h;exact h
 have hF0:fnc C.rd=Fence.wide:=by rw[hrd];rfl
 rw[hF0]
 refine wpIn_rangeFunc fun fn _=>?_
 obtain⟨vsC,hgv,hcs⟩:=callee_eval hS hF
 have hψ0:=hS.ex.ψn hn
 obtain⟨rec,hrec⟩:∃ rec:LoopState→Option Code→Loop,rec=fun st pe=>{ state:=st,pending:=pe,fn,tmps:=a.tmps,params:=ps,assign,body,defers:=w.heap.size }:=⟨_,rfl⟩
 obtain⟨w1,hw1⟩:∃ w1,(w.alloc (.deferred (some []))).alloc (.loop (rec .ready none))=w1:=⟨_,rfl⟩
 obtain⟨L,hLdef⟩:∃ L,L=w.heap.size+1:=⟨_,rfl⟩
 obtain⟨aL,haL⟩:∃ aL:Act,aL={ tmps:=a.tmps,defers:={ target:=.collected w.heap.size,args:=#[] }::a.defers }:=⟨_,rfl⟩
 have hS1:SR C p s aL w1:=by rw[haL,← hw1];exact hS.enter hrd _
 have hsz1:w1.heap.size=w.heap.size+2:=by rw[← hw1];simp
 have hL1:w1.heap[L]? = some (.loop (rec .ready none)):=by
  rw[← hw1,hLdef];have:=World.alloc_heap_new (w.alloc (.deferred (some []))) (.loop (rec .ready none));rwa [World.size_alloc] at this
 have hLR:¬ p.R L:=fun h=>by have:=hS.rb L h;omega
 have hLβ:∀ k,p.β k≠some L:=fun k h=>by have:=(hS.bl k L h).1;omega
 have hL0:C.w0.heap.size≤L:=by have:=hS.base.size;omega
 have hLm:∀ d∈aL.defers,d.target ≠ .collected L:=fun d hd e=>by
  obtain⟨Ds,g1,_,g3⟩:=hS1.ex.df
  rw[g1] at hd
  obtain⟨D,hD,rfl⟩:=List.mem_map.1 hd
  injection e with e
  subst e
  have:=(g3 _ hD).1
  rw[hL1] at this;cases this
 obtain⟨us,hus⟩:∃ us,us=ts.map fun t=>aL.tmps.getD t undef:=⟨_,rfl⟩
 have hS2:=hS1.wait hdead ts
 rw[← hus,← look_nil'] at hS2
 have htmps:aL.tmps=a.tmps:=by rw[haL]
 have hsn:s.n=aL.tmps.size:=by rw[htmps];exact hS.sz.symm
 let X:XS:={ l:=L,z:=z,n0:=w1.heap.size,R:=p.R,X:=XJ C aL L rec (fun left s'=>I left us s') (fun c s'=>J c us s'),st:=XJ.st hn }
 obtain⟨Rx,hRx,hcap⟩:=hcap0 p aL w1 hS1 vsC.toList (by
  have hk:Kept w w1 p p s.ver s.ver:=⟨fun _ h=>h,fun ad hr=>World.cell?_of_block (by rw[← hw1];exact (Below.heap_alloc _ _ _ (by have:=hS.rb _ hr;simp;omega)).trans (Below.heap_alloc _ _ _ (hS.rb _ hr))),fun _=>Nat.le_refl _,fun _ _=>⟨rfl,rfl⟩⟩
  exact AV.relV_mono hk _ _ hcs)
 have hY:YOk P X:=by
  intro e rest wv Ψ Θ R vs hX hR hV
  obtain⟨pv,sv,hSv,hsnv,⟨hIv,hLv⟩,hLRv,hLβv,hΨv,hΘv⟩:=hX
  have hψv:=hSv.ex.ψn hn
  obtain⟨hlen,avs,hrow,hround⟩:=round e rest us sv (hsnv.trans hsn.symm) hIv
  have hvs:vs.size=ps.size:=by have:=RV.relV_length hV;simp only[Array.length_toList] at this;omega
  have hltv:L<wv.heap.size:=(Array.getElem?_eq_some_iff.1 hLv).1
  have hy:=run_yield (P:=P) (args:=vs) hLv (by rw[hrec];exact hvs)
  rw[hrec] at hy
  refine⟨fn,_,assign,body,hy,?_⟩
  have hRβ:∀ b,R b→b<wv.heap.size∧∀ k,pv.β k≠some b:=fun b hb=>⟨(hR b hb).1,fun k hk=>(hR b hb).2.1 ((hΘv b).2 (.inl ⟨k,hk⟩))⟩
  have hRL:¬ R L:=fun hb=>(hR L hb).2.1 ((hΘv L).2 (.inr rfl))
  have hkv:Kept wv wv pv { pv with R:=fun b=>pv.R b∨R b } sv.ver sv.ver:=⟨fun _ h=>.inl h,fun _ _=>rfl,fun _=>Nat.le_refl _,fun _ _=>⟨rfl,rfl⟩⟩
  have haw:=hSv.awake (by rw[hrow,hus])
  have hzip:(ps.zip vs).foldl (fun tmps (x:Nat × Value)=>tmps.setIfInBounds x.1 x.2) a.tmps=(ps.toList.zip vs.toList).foldl (fun tmps (x:Nat × Value)=>tmps.setIfInBounds x.1 x.2) a.tmps:=by
   rw[← Array.foldl_toList,Array.toList_zip]
  obtain⟨hpsz,hprel⟩:=psA_rel (w:=wv) (p:={ pv with R:=fun b=>pv.R b∨R b }) (ver:=sv.ver) ps.toList e vs.toList (look (ts.zip avs)) a.tmps (RV.relV_mono (fun _ h=>.inr h) (fun _ _=>rfl) _ _ hV)
   (fun t ht=>by rw[← htmps,← hsn];exact hps t ht) (fun t=>by rw[← htmps];exact AV.rel_mono hkv _ _ (haw.tm t))
  let Hd:Nat→Prop:=fun b=>b=L∨∃ d∈aL.defers,d.target = .collected b
  have hHd:∀ b,Hd b→b<wv.heap.size∧¬ C.bor b∧¬ pv.R b∧¬ R b∧∀ k,pv.β k≠some b:=fun b hb=>by
   rcases hb with rfl|⟨d,hd,hdt⟩
   ·exact⟨hltv,fun hb=>by have:=hS.ex.bo b (.inl hb);omega,hLRv,hRL,hLβv⟩
   ·obtain⟨Ds,g1,_,g3⟩:=hSv.ex.df
    rw[g1] at hd
    obtain⟨D,hD,rfl⟩:=List.mem_map.1 hd
    injection hdt with hdt
    subst hdt
    obtain⟨k1,k2,k3,k4,k5,k6⟩:=g3 D hD
    refine⟨(Array.getElem?_eq_some_iff.1 k1).1,fun hb=>by have:=hS.ex.bo D (.inl hb);omega,k3,fun hr=>?_,k4⟩
    have hD1:D<w1.heap.size:=by
     obtain⟨Ds',q1,_,q3⟩:=hS1.ex.df
     have:Ds'=Ds:=marks_inj (q1.symm.trans g1)
     subst this
     exact (Array.getElem?_eq_some_iff.1 (q3 D hD).1).1
    rcases (hR D hr).2.2 with q|q
    ·obtain⟨Ds',q1,_,q3⟩:=hS1.ex.df
     have:Ds'=Ds:=marks_inj (q1.symm.trans g1)
     subst this
     exact (q3 D hD).2.2.1 q
    ·have q':w1.heap.size≤D:=q
     omega
  have hSa:=hSv.into (L:=L) (w2:=wv) (R:=R) (rd:=some L) (Hd:=Hd) (a':={ tmps:=(ps.zip vs).foldl (fun tmps (x:Nat × Value)=>tmps.setIfInBounds x.1 x.2) a.tmps,defers:=[] }) (tm':=psA ps.toList e (look (ts.zip avs)))
   hn rfl rfl rfl rfl (fun _ _=>rfl) hLRv hLβv hRβ (fun t=>by rw[hzip];exact hprel t) (by rw[hzip,hpsz,← htmps];exact hsnv.symm) rfl hHd hC
  have hna:=hsnv.trans hsn.symm
  refine roundIn_of_wpIn trivial ?_
  have hassign:=hround (Cin C pv R wv (some L) Hd) _ _ ⟨_,hna▸hSa⟩
  refine wpIn_mono hassign ?_
  rintro x a1 wa ⟨s1,⟨p1,hS1a⟩,rfl,hbody⟩
  have hLa:wa.heap[L]? = some (.loop (rec .ready none)):=(hS1a.base.block L hltv (fun ⟨hb,_⟩=>(hHd L (.inl rfl)).2.1 hb) (fun ⟨k,hk,_⟩=>hLβv k hk)).trans hLv
  have hlta:L<wa.heap.size:=(Array.getElem?_eq_some_iff.1 hLa).1
  refine⟨_,run_beginRound hLa (by rw[hrec]),?_⟩
  have hop1:=Hop.of (L:=L) (w:=wv) (w2:=wv) rfl rfl rfl rfl (fun _ _=>rfl) hS1a
  have hHd1:∀ b,Hd b→b<wa.heap.size∧¬ (Cin C pv R wv (some L) Hd).bor b∧¬ p1.R b∧¬ False∧∀ k,p1.β k≠some b:=fun b hb=>by
   obtain⟨_,q2,_,q4,q5,_,_,q8⟩:=hS1a.ex.hd b hb
   exact⟨q4,q2,q5,fun h=>h,q8⟩
  have hS1b:=hS1a.into (L:=L) (w2:=wa.putObj L (.loop { rec .ready none with state:=.busy })) (R:=fun _=>False) (rd:=some L) (Hd:=Hd) (a':=a1) (tm':=s1.tm) hn rfl rfl rfl World.putObj_size putObj_other
   (hHd1 L (.inl rfl)).2.2.1 (hHd1 L (.inl rfl)).2.2.2.2 (fun _ h=>h.elim) (fun t=>by
    have hk1:Kept wa (wa.putObj L (.loop { rec .ready none with state:=.busy })) p1 { p1 with R:=fun b=>p1.R b∨False } s1.ver s1.ver :=
     ⟨fun _ h=>.inl h,fun ad hr=>World.cell?_of_block (putObj_other _ fun e=>(hHd1 L (.inl rfl)).2.2.1 (e▸hr)),fun _=>Nat.le_refl _,fun _ _=>⟨rfl,rfl⟩⟩
    exact AV.rel_mono hk1 _ _ (hS1a.tm t)) hS1a.sz (hS1a.ex.rm rfl) hHd1 hC
  refine wpIn_mono (hbody _ _ _ ⟨_,hS1b⟩) ?_
  have hLb:(wa.putObj L (.loop { rec .ready none with state:=.busy })).heap[L]? = some (.loop { rec .ready none with state:=.busy }):=World.putObj_heap_same hlta
  have hRo:∀ b,R b→b<wv.heap.size∧(∀ d∈aL.defers,d.target ≠ .collected b)∧¬ C.hd b∧(C.R0 b∨C.w0.heap.size≤b∨C.own b):=fun b hb=>by
   have hsz0:=hS.base.size
   refine⟨(hR b hb).1,fun d hd hdt=>(hHd b (.inr ⟨d,hd,hdt⟩)).2.2.2.1 hb,fun hh=>?_,?_⟩
   ·obtain⟨q1,_,_,_,q5,_⟩:=hS.ex.hd b hh
    rcases (hR b hb).2.2 with q|q
    ·exact q5 q
    ·have q':w1.heap.size≤b:=q;omega
   ·rcases (hR b hb).2.2 with q|q
    ·exact hS.rn b q
    ·have q':w1.heap.size≤b:=q;exact .inr (.inl (by omega))
  have fin:∀ (jump:Option Code) (s3:AS) (p3:Plan) (a3:Act) (w3:World),SR (Cin (Cin C pv R wv (some L) Hd) p1 (fun _=>False) (wa.putObj L (.loop { rec .ready none with state:=.busy })) (some L) Hd) p3 s3 a3 w3 →
   (match jump with|none=>∃ s4,Sub s3 s4∧I rest us ⟨s.n,look [],s4.rows⟩|some c=>∃ s4,Sub s3 s4∧J c us ⟨s.n,look [],s4.rows⟩) →
   ∃ v w', (Instr.endRound L jump).run P w3 = .ok v w'∧(w'.os=wv.os∧w'.tape=wv.tape∧w'.output=wv.output∧wv.heap.size≤w'.heap.size∧(∀ b, b<wv.heap.size→¬ Θ b→w'.heap[b]? = wv.heap[b]?) ∧
     ∃ Ψ' Θ':Nat→Prop,(∀ b,Ψ' b→Ψ b∨R b∨wv.heap.size≤b)∧(∀ b,Θ' b→Θ b∨wv.heap.size≤b)∧(∀ b,Ψ' b→b<w'.heap.size)∧(∀ b,Θ' b→b<w'.heap.size) ∧
     ((Ending.returned v = .returned (.bool true)∧X.X (some rest) w' Ψ' Θ')∨(Ending.returned v = .returned (.bool false)∧X.X Option.none w' Ψ' Θ'))):=by
   intro jump s30 p30 a3 w3 h30 hj0
   obtain⟨s3,hsub,hj⟩:∃ s4,Sub s30 s4∧(match jump with|none=>I rest us ⟨s.n,look [],s4.rows⟩|some c=>J c us ⟨s.n,look [],s4.rows⟩):=by
    cases jump with
    | none=>exact hj0
    | some c=>exact hj0
   obtain⟨p3,h3⟩:=hsub _ _ _ ⟨p30,h30⟩
   have hL3:w3.heap[L]? = some (.loop { rec .ready none with state:=.busy }):=by
    refine (h3.base.block L (by show L<(wa.putObj L _).heap.size;rw[World.putObj_size];exact hlta) (fun ⟨hb,_⟩=>(hHd1 L (.inl rfl)).2.1 hb) (fun ⟨k,hk,_⟩=>(hHd1 L (.inl rfl)).2.2.2.2 k hk)).trans hLb
   obtain⟨_,_,_,_,e5,_,_,e8⟩:=h3.ex.hd L (.inl rfl)
   have hend:=run_endRound (P:=P) jump hL3
   have hlt3:L<w3.heap.size:=(Array.getElem?_eq_some_iff.1 hL3).1
   have hop2:=Hop.of (C:=Cin C pv R wv (some L) Hd) (p:=p1) (L:=L) (w:=wa) (w2:=wa.putObj L (.loop { rec .ready none with state:=.busy })) (R:=fun _=>False) rfl rfl rfl World.putObj_size putObj_other h3
   obtain⟨o4,ho4⟩:∃ o4,o4=Obj.loop { { rec .ready none with state:=.busy } with state:=if jump.isNone then .ready else .done,pending:=jump }:=⟨_,rfl⟩
   rw[← ho4] at hend
   have hop:=(Hop.trans (C':=Cin C pv R wv (some L) Hd) hop1 (fun _=>Iff.rfl) hop2).put (o:=o4)
   have hL4:(w3.putObj L o4).heap[L]? = some (.loop (rec (if jump.isNone then .ready else .done) jump)):=by
    rw[World.putObj_heap_same hlt3,ho4,hrec]
   have hS4:SR C p3 ⟨s.n,look [],s3.rows⟩ aL (w3.putObj L o4):=by
    have:=hSv.land (C':=Cin (Cin C pv R wv (some L) Hd) p1 (fun _=>False) (wa.putObj L (.loop { rec .ready none with state:=.busy })) (some L) Hd) hn hL0 hLm hop hRo rfl rfl h3 e5 e8 rfl rfl rfl World.putObj_size putObj_other
    rw[hna,← look_nil'] at this
    exact this
   have hψ4:=hS4.ex.ψn hn
   refine⟨_,_,hend,hop.os,hop.tape,hop.output,hop.size,fun b hb hθ=>hop.heap b hb (fun k hk=>hθ ((hΘv b).2 (.inl ⟨k,hk⟩))) (fun e=>hθ ((hΘv b).2 (.inr e))),
    fun b=>p3.R b∨(∃ k,p3.β k=some b)∨(b<C.w0.heap.size∧¬ C.bor b∧¬ C.own b)∨b=L∨C.hd b∨∃ d∈aL.defers,d.target = .collected b,fun b=>(∃ k,p3.β k=some b)∨b=L,fun b hb=>?_,fun b hb=>?_,fun b hb=>?_,fun b hb=>?_,?_⟩
   ·rcases hb with g|⟨k,g⟩|g|g|g|g
    ·rcases hop.rn b g with q|q|q|⟨k,q,_⟩
     ·exact .inl ((hΨv b).2 (.inl q))
     ·exact .inr (.inl q)
     ·exact .inr (.inr q)
     ·exact .inl ((hΨv b).2 (.inr (.inl ⟨k,q⟩)))
    ·rcases hop.bl k b g with q|⟨_,_,k',_,q⟩|⟨k',q,_⟩
     ·exact .inr (.inr q)
     ·exact .inl ((hΨv b).2 (.inr (.inl ⟨k',q⟩)))
     ·exact .inl ((hΨv b).2 (.inr (.inl ⟨k',q⟩)))
    ·exact .inl ((hΨv b).2 (.inr (.inr (.inl g))))
    ·exact .inl ((hΨv b).2 (.inr (.inr (.inr (.inl g)))))
    ·exact .inl ((hΨv b).2 (.inr (.inr (.inr (.inr (.inl g))))))
    ·exact .inl ((hΨv b).2 (.inr (.inr (.inr (.inr (.inr g))))))
   ·rcases hb with⟨k,g⟩|g
    ·rcases hop.bl k b g with q|⟨_,_,k',_,q⟩|⟨k',q,_⟩
     ·exact .inr q
     ·exact .inl ((hΘv b).2 (.inl ⟨k',q⟩))
     ·exact .inl ((hΘv b).2 (.inl ⟨k',q⟩))
    ·exact .inl ((hΘv b).2 (.inr g))
   ·have hsz4:=hS4.base.size
    rcases hb with g|⟨k,g⟩|g|rfl|g|⟨d,hd,hdt⟩
    ·exact hS4.rb b g
    ·exact (hS4.bl k b g).1
    ·omega
    ·rw[World.putObj_size];exact hlt3
    ·exact (hS4.ex.hd b g).2.2.2.1
    ·exact Nat.lt_of_lt_of_le (hHd b (.inr ⟨d,hd,hdt⟩)).1 hop.size
   ·rcases hb with⟨k,g⟩|rfl
    ·exact (hS4.bl k b g).1
    ·rw[World.putObj_size];exact hlt3
   ·cases jump with
    | none=>exact .inl ⟨rfl,p3,_,hS4,hsn,⟨hj,hL4⟩,e5,e8,fun _=>Iff.rfl,fun _=>Iff.rfl⟩
    | some c=>exact .inr ⟨rfl,p3,_,hS4,hsn,⟨c,hj,hL4⟩,e5,e8,fun _=>Iff.rfl,fun _=>Iff.rfl⟩
  rintro en a3 w3 ⟨s3,⟨p3,h3⟩,hq⟩
  cases en with
  | normal=>exact fin none s3 p3 a3 w3 h3 hq
  | ret=>exact fin (some .ret) s3 p3 a3 w3 h3 hq
  | exit id=>exact fin (some (.exit id)) s3 p3 a3 w3 h3 hq
  | goto l=>exact fin (some (.goto l)) s3 p3 a3 w3 h3 hq
  | panic ch=>exact hq.elim
  | outgrown=>exact hq.elim
 have hX0:X.X (some xs) w1 (fun b=>p.R b∨(∃ k,p.β k=some b)∨(b<C.w0.heap.size∧¬ C.bor b∧¬ C.own b)∨b=L∨C.hd b∨∃ d∈aL.defers,d.target = .collected b) (fun b=>(∃ k,p.β k=some b)∨b=L) :=
  ⟨p,_,hS2,hsn,⟨h0 us,hL1⟩,hLR,hLβ,fun _=>Iff.rfl,fun _=>Iff.rfl⟩
 have hlt1:L<w1.heap.size:=(Array.getElem?_eq_some_iff.1 hL1).1
 have hcall:=hI.2 w1 (fun b=>p.R b∨Rx b) vsC X _ _ (fun b hb=>hb.elim (hS1.rb b) fun h=>(hS1.ex.hd b (hRx b h).1).2.2.2.1) hcap rfl (fun hz b hb=>hb.elim id fun h=>by have:=(hRx b h).2;rw[hz] at this;cases this) (Nat.le_refl _) hY (fun b hb=>by
  have hszw:=hS1.base.size
  rcases hb with g|⟨k,g⟩|g|rfl|g|⟨d,hd,hdt⟩
  ·exact hS1.rb b g
  ·exact (hS1.bl k b g).1
  ·omega
  ·exact hlt1
  ·exact (hS1.ex.hd b g).2.2.2.1
  ·obtain⟨Ds,g1,_,g3⟩:=hS1.ex.df
   rw[g1] at hd
   obtain⟨D,hD,rfl⟩:=List.mem_map.1 hd
   injection hdt with hdt
   subst hdt
   exact (Array.getElem?_eq_some_iff.1 (g3 D hD).1).1) (fun b hb=>by
  rcases hb with⟨k,g⟩|rfl
  ·exact (hS1.bl k b g).1
  ·exact hlt1) (fun b hb hθ=>by
  rcases hb with hb|hb
  ·rcases hθ with⟨k,g⟩|rfl
   ·exact (hS1.bl k b g).2.1 hb
   ·exact hLR hb
  ·obtain⟨_,_,_,g4,_,_,_,g8⟩:=hS.ex.hd b (hRx b hb).1
   rcases hθ with⟨k,g⟩|g
   ·exact g8 k g
   ·omega) hX0
 have e1:(Instr.enterLoop fn a.tmps ps assign body none).run P w = .ok (L,[{ target:=.collected w.heap.size,args:=#[] }]) w1:=by
  rw[run_enterLoop_outer,← hw1,hrec,hLdef]
 have e2:(resolve a.eval (rangeCall g L) 0).run P w1 = .ok { target:=.fn (.func F) vsC,args:=#[.func (.yield L) #[] #[]] } w1:=by
  simp only[resolve,hgv,Sem.run_bind,Deferred.ofValue,Sem.run_pure,Result.andThen_ok]
  simp [Act.eval]
 have e3:(invoke (.fn (.func F) vsC) #[.func (.yield L) #[] #[]]).run P w1 = .ok (.enter F (#[.func (.yield L) #[] #[]]++vsC)) w1:=by
  simp only[invoke];exact run_callFunc hI.1 _ _
 have e4:Fence.wide.depth.isSome=true→1≤0:=fun h=>by simp [Fence.wide] at h
 refine⟨L,_,w1,_,w1,F,_,w1,e1,e2,?_,e3,e4,?_⟩
 ·intro f' _;exact trivial
 ·refine callsIn_wide.2 (hcall.mono ?_)
  have haL':({ a with defers:=[{ target:=.collected w.heap.size,args:=#[] }]++a.defers }:Act)=aL:=by rw[haL];rfl
  rintro e w' ⟨⟨v,rfl⟩,Ψ',Θ',hX|hX⟩
  ·obtain⟨p',s',hS',hsn',⟨hI',hL'⟩,hLR',hLβ',_⟩:=hX
   have hend:=run_endLoop (P:=P) hL' (by rw[hrec];simp)
   have hp:(rec .ready none).pending=none:=by rw[hrec]
   rw[hp] at hend
   refine⟨none,_,hend,?_⟩
   obtain⟨avs,hrow,hQ⟩:=done us s' (hsn'.trans hsn.symm) hI'
   have hS4:∀ o,SR C p' ⟨s.n,look (ts.zip avs),s'.rows⟩ aL (w'.putObj L o):=fun o=>by
    have:=(hS'.turn (o:=o) hLR' hLβ' hL0 (hS'.ex.ψn hn) hLm).awake (by rw[hrow,hus])
    rw[hsn'.trans hsn.symm] at this
    exact this
   rw[haL']
   exact⟨_,⟨_,hS4 _⟩,hQ⟩
  ·obtain⟨p',s',hS',hsn',⟨c,hJ',hL'⟩,hLR',hLβ',_⟩:=hX
   have hend:=run_endLoop (P:=P) hL' (by rw[hrec];simp)
   have hp:(rec .done (some c)).pending=some c:=by rw[hrec]
   rw[hp] at hend
   refine⟨some c,_,hend,?_⟩
   obtain⟨avs,hrow,hQ⟩:=stop c us s' (hsn'.trans hsn.symm) hJ'
   have hS4:∀ o,SR C p' ⟨s.n,look (ts.zip avs),s'.rows⟩ aL (w'.putObj L o):=fun o=>by
    have:=(hS'.turn (o:=o) hLR' hLβ' hL0 (hS'.ex.ψn hn) hLm).awake (by rw[hrow,hus])
    rw[hsn'.trans hsn.symm] at this
    exact this
   have hQ':=fun o=>hQ _ _ ⟨_,hS4 o⟩
   rw[hF0] at hQ'
   rw[haL']
   exact hQ' _
end
end Go.Oc

namespace Go.Oc
open Go Go.RowKit
theorem zI {n:Int}(h1 : -9223372036854775808≤n) (h2:n≤9223372036854775807):IntKind.i64.wrap n=n:=by
 unfold IntKind.wrap
 simp only[IntKind.bits,IntKind.signed,Bool.true_and]
 split<;>rename_i h<;>simp only[ge_iff_le,decide_eq_true_eq] at h<;>omega
theorem getD_map_opt {α:Type}{f:α→List RV}{l:List α}{i:Nat}:(l.map f).getD i []=match l[i]? with|some x=>f x|none=>[]:=by
 rw[List.getD_eq_getElem?_getD,List.getElem?_map]
 cases l[i]? <;> rfl
abbrev i64 (n:Int):RV:=.it .i64 n
abbrev ints (l:List Int):RV:=.sl 1 (l.map fun x=>[.it .i64 x])
theorem zmo {α:Type}{l:List α}{i:Nat}{x:α}(h:l[i]? = some x):x∈l:=List.mem_of_getElem? h
theorem drop_of_opt {α:Type}{l:List α}{i:Nat}{x:α}(h:l[i]? = some x):l.drop i=x::l.drop (i+1):=by
 obtain⟨hi,rfl⟩:=List.getElem?_eq_some_iff.1 h
 exact List.drop_eq_getElem_cons hi
theorem zto {α:Type}{l:List α}{i:Nat}{x:α}(h:l[i]? = some x):l.take (i+1)=l.take i++[x]:=by
 obtain⟨hi,rfl⟩:=List.getElem?_eq_some_iff.1 h
 exact List.take_succ_eq_append_getElem hi
theorem zol {α:Type}{l:List α}{i:Nat}(h:i<l.length):∃ x,l[i]? = some x:=⟨l[i],List.getElem?_eq_getElem h⟩
theorem snapVL_ro {rows:Nat→Row}:∀ l:List RV,snapVL rows (l.map .r)=l
 | []=>by simp only[List.map_nil,snapVL]
 | x::l=>by simp only[List.map_cons,snapVL,snapV,snapVL_ro l]
theorem snapPL_ro {rows:Nat→Row}:∀ l:List RV,snapPL rows (l.map .r)↔True
 | []=>by simp only[List.map_nil,snapPL]
 | x::l=>by simp only[List.map_cons,snapPL,snapP,snapPL_ro l,true_and]
theorem take_map_len {α β:Type}{f:α→β}{l:List α}:(l.map f).take l.length=l.map f:=List.take_of_length_le (by simp)
theorem toNat_add1 {n:Nat}:((n:Int)+1).toNat=n+1:=rfl
def indexF {α:Type}(p:α→Bool):List α→Int
 | []=>-1
 | x::l=>if p x then 0 else if indexF p l<0 then -1 else indexF p l+1
theorem indexF_any {α:Type}(p:α→Bool):∀ l:List α,decide (indexF p l ≥ 0)=l.any p
 | []=>rfl
 | x::l=>by
   have ih:=indexF_any p l
   unfold indexF
   cases h:p x
   ·simp only[Bool.false_eq_true,if_false,List.any_cons,h,Bool.false_or,← ih]
    split
    ·rename_i h1
     have:¬ indexF p l ≥ 0:=by omega
     simp [this]
    ·rename_i h1
     have:indexF p l ≥ 0:=by omega
     have h2:indexF p l+1 ≥ 0:=by omega
     simp only[this,h2]
   ·simp [h]
theorem indexF_ge {α:Type}(p:α→Bool):∀ l:List α,-1≤indexF p l
 | []=>by simp [indexF]
 | x::l=>by
   have:=indexF_ge p l
   unfold indexF
   split
   ·omega
   ·split<;>omega
open Go
attribute [go_sem] reduceIte reduceCtorEq Nat.reduceEqDiff Nat.reduceAdd Nat.reduceSub Nat.reduceMul Nat.reduceLeDiff Nat.reduceLT Int.reduceToNat Int.reduceLE Int.reduceLT Int.reduceMul Int.reduceAdd Int.reduceSub Int.reduceNeg Int.reduceEq Int.reduceNe
attribute [go_sem] aops_nil aops_cons aops_guard gslot_zero gslot_succ gA_some gB_tt gB_ff gB_tf gB_ft gB_ud gB_bo aop_move aop_assign aop_pick aop_bin aop_un aop_conv aop_load aop_store aop_box aop_alloc aop_fieldAddr aop_field aop_indexAddr aop_index aop_slice aop_build aop_buildSlice aop_makeSlice aop_makeFunc aop_extract aop_nil aop_len aop_min aop_max aop_append aop_cap aop_clear sAppendZ sCap sClear sSlice3 lenA rowLen aop_call aop_next aop_makeMap aop_lookup aop_mapUpdate aop_mapEntry aop_entryStore sMapEntry sEntryStore bornAt aop_range aop_entry sNext sMakeMap sLookup sMapUpdate sRange sEntry mapOf valR agR sEq cmpL cmpB sameK findK keyOk allIt List.length_cons List.length_nil row_st verf_st lendA lendL lendC lendOk zLk backA backL backC backCs pinOf aR_when aR_val aR_bad aR_mk aF_false aF_true evs evp upd_app put_st put_none app_val app_st evt_st tm_st rows_st ver_st n_st ins insc delc look_nil look_cons lookc_nil zlc keepL killV killC argL allEq cond_true cond_false ev_const ev_func sPick pickA sBin sUn sConv sLoad sStore sBox sAlloc sField sFieldV sPart sIndex sIndexV sSlice sSliceA chunk bound sBuild lay sBuildSlice layE sMakeSlice news? sAppend sLen minA minF maxA maxF sMinMax sExtract sNil RV.flat1 AV.cells? roL cutR cutA need RV.ofV RV.ofV1
attribute [go_sem] opostL_normal opostL_ret resA_tmp resA_cell mpostL_normal mpostL_ret resM_nil resM_tmp resM_cell mfin fnOk frzC frzPC frzL frzPL frz1 frzP1 keyIn okC argA resC_when resC_val resOk_nil resOk_tmp resOk_cell fpostL_normal fpostL_ret andThen_normal andThen_ret andThen_exit inBlk_normal inBlk_ret inBlk_exit le_bo le_it le_ns le_sls le_ag leL_nil leL_cons le_nsns le_np snapV snapVL snapP snapPL snap1V snap1P snap1PL
attribute [go_sem] Bool.false_eq_true Bool.not_false Bool.not_true Bool.true_eq_false Int.le_refl List.append_nil List.cons_append List.drop_succ_cons List.drop_zero List.getElem?_cons_succ List.getElem?_cons_zero List.headD_cons List.length_cons List.length_nil List.map_cons List.map_nil List.nil_append List.replicate_succ List.replicate_zero List.set_cons_succ List.set_cons_zero List.take_succ_cons List.take_zero Nat.add_zero Nat.le_refl Nat.zero_add Nat.zero_le Option.bind_some Option.getD_none Option.getD_some Option.isSome_some Option.map_none Option.map_some Option.some.injEq and_false and_true decide_false decide_true eq_self false_and false_imp_iff forall_const ite_false ite_true true_and true_imp_iff
attribute [go_sem] not_false_eq_true not_true_eq_false toNat_add1 Nat.sub_zero beq_iff_eq beq_eq_false_iff_ne List.length_drop List.length_take upd_self List.drop_replicate Nat.add_sub_cancel_left take_map_len List.getD_cons_zero List.getD_cons_succ true_or or_true false_or or_false List.length_replicate Int.sub_zero Int.add_zero Int.zero_add getD_map_opt snapVL_ro snapPL_ro Int.ofNat_lt Int.ofNat_le Int.toNat_natCast Int.natCast_nonneg Int.natCast_add Int.cast_ofNat_Int Int.natCast_zero Int.natCast_one List.length_map List.mem_cons ge_iff_le gt_iff_lt decide_eq_true_eq decide_eq_false_iff_not AV.r.injEq RV.it.injEq RV.bo.injEq RV.sl.injEq
open Go Go.RowKit
def psL:List Nat→List RV→List (Nat × AV)→List (Nat × AV)
 | t::ts,x::xs,l=>psL ts xs ((t,.r x)::l)
 | _,_,l=>l
theorem psL_nil {l:List (Nat × AV)}:psL [] [] l=l:=rfl
theorem psL_cons {t:Nat}{ts:List Nat}{x:RV}{xs:List RV}{l:List (Nat × AV)}:psL (t::ts) (x::xs) l=psL ts xs ((t,.r x)::l):=rfl
theorem psA_look:∀ (ts:List Nat) (xs:List RV) (l:List (Nat × AV)),psA ts xs (look l)=look (psL ts xs l)
 | [],_,_=>rfl
 | _::_,[],_=>rfl
 | t::ts, x::xs, l=>by
   simp only[psA,psL];rw[← psA_look ts xs]
   rfl
def rfpost (n:Nat) (ts:List Nat) (Q:Exit→AS→Prop) (N:AS→Prop) (us:List Value):Exit→AS→Prop
 | .normal,s=>N s
 | .ret,s=>∃ avs,(s.rows 0).c = .sus avs us∧Q .ret ⟨n,look (ts.zip avs),s.rows⟩
 | .exit id,s=>∃ avs,(s.rows 0).c = .sus avs us∧Q (.exit id) ⟨n,look (ts.zip avs),s.rows⟩
 | _,_=>False
section
variable {n:Nat}{ts:List Nat}{Q:Exit→AS→Prop}{N:AS→Prop}{us:List Value}{l:List (Nat × AV)}{vs:Nat→Nat}{cs:List (Nat × RowC)}
theorem rfpost_normal {s:AS}:rfpost n ts Q N us .normal s=N s:=rfl
theorem rf_ret {avs:List AV}(h:lookc cs 0 = .sus avs us) (hq:Q .ret (st n (ts.zip avs) vs cs)):rfpost n ts Q N us .ret (st n l vs cs):=⟨avs,h,hq⟩
end
theorem sub_wake {n:Nat}{l:List (Nat × AV)}{vs:Nat→Nat}{cs:List (Nat × RowC)}{avs:List AV}{us:List Value}(h:lookc cs 0 = .dead):Sub (st n l vs ((0,.sus avs us)::cs)) (st n l vs cs):=fun C a w ⟨p,hp⟩=>by
 refine⟨p,{ hp with rw:=fun k=>?_,lk:=fun j km m l' cur hj hn=>?_ }⟩
 ·have hr:=hp.rw k
  show zrl w p vs k (lookc cs k)
  have hr':zrl w p vs k (lookc ((0,.sus avs us)::cs) k):=hr
  rw[zlc] at hr'
  split at hr'
  ·rename_i e
   subst e
   rw[h]
   simp only[zrl] at hr' ⊢
   exact⟨hr'.1,hr'.2.1⟩
  ·exact hr'
 ·have hj':lookc cs j = .mi km m l' cur:=hj
  have e1:j≠0:=fun e=>by subst e;rw[h] at hj';cases hj'
  have h1:=hp.lk j km m l' cur (by show lookc ((0,.sus avs us)::cs) j=_;rw[zlc,if_neg e1];exact hj') hn
  show (lookc cs km).isMpi=true
  have h2:(lookc ((0,.sus avs us)::cs) km).isMpi=true:=h1
  rw[zlc] at h2
  split at h2
  ·cases h2
  ·exact h2
theorem upd_rows_st {n:Nat}{l:List (Nat × AV)}{vs:Nat→Nat}{cs:List (Nat × RowC)}{k:Nat}{c:RowC}:(⟨n,look [],upd (st n l vs cs).rows k ⟨((st n l vs cs).rows k).ver,c⟩⟩:AS)=st n [] vs ((k,c)::cs):=by
 simp only[st,AS.mk.injEq,true_and]
 funext j
 rw[zlc]
 unfold upd
 split
 ·rename_i e;subst e;rfl
 ·rfl
theorem zip_keys:∀ l:List (Nat × AV),(l.map (·.1)).zip (l.map (·.2))=l
 | []=>rfl
 | _::l=>by simp only[List.map_cons,List.zip_cons_cons,zip_keys l]
attribute [go_sem] psL_nil psL_cons rfpost_normal List.zip_cons_cons List.zip_nil_right
theorem look_keys:∀ l:List (Nat × AV),(l.map (·.1)).Nodup→l.map (·.2)=(l.map (·.1)).map (look l)
 | [],_=>rfl
 | (k, v)::l, h=>by
   simp only[List.map_cons,List.nodup_cons] at h ⊢
   have h1:look ((k,v)::l) k=v:=by rw[look_cons,if_pos rfl]
   rw[h1,look_keys l h.2]
   congr 1
   refine List.map_congr_left fun j hj=>?_
   have hne:j≠k:=fun e=>h.1 (e▸hj)
   rw[look_cons,if_neg hne]
theorem awp_rangeF {P:Program}{C:Ctx}{n:Nat}{s:AS}{t:Nat}{ps:Array Tmp}{assign body:Code}{Q:Exit→AS→Prop}(hC:C.rd=none∧C.X=XS.none) {f:FuncId}{caps:List RV}{z:Bool}(xs:List (List RV)) (hI:ICalls P z f caps xs)
 (ts:List Nat) (hnd:ts.Nodup) (F:(Nat→Nat)→List (Nat × AV)) (R:Nat→(Nat→Nat)→List (Nat × RowC)) (I:Nat→Prop) (h0:FitV n F (R 0) s) (hi0:I 0)
 (hts:∀ vs,(F vs).map (·.1)=ts) (hg:∀ vs,look (F vs) t = .r (.fn f caps)) (hd:∀ i vs,lookc (R i vs) 0 = .dead) (hps:∀ t∈ps.toList,t<n) (hlen:∀ e∈xs,e.length=ps.size)
 (round:∀ i e vs us C,xs[i]? = some e→I i→awp P C assign (fun x s2=>x = .normal∧∀ C,awp P C body (rfpost n ts Q (fun s3=>I (i+1)∧∃ vs',Sub s3 (st n [] vs' ((0,.sus ((F vs').map (·.2)) us)::R (i+1) vs'))) us) s2)
  (st n (psL ps.toList e (F vs)) vs ((0,.sus ((F vs).map (·.2)) us)::R i vs)))
 (done:∀ vs us,I xs.length→Q .normal (st n (F vs) vs ((0,.sus ((F vs).map (·.2)) us)::R xs.length vs))):awp P C (.rangeFunc (.tmp t) ps assign body) Q s:=by
 obtain⟨vs0,h0⟩:=h0
 refine zw h0 ?_
 have hdrop:∀ i e rest,xs.drop i=e::rest→xs[i]? = some e∧xs.drop (i+1)=rest:=fun i e rest h=>by
  refine⟨?_,by rw[← List.drop_drop,h];rfl⟩
  have:(xs.drop i)[0]? = some e:=by rw[h];rfl
  simpa using this
 have hz:∀ vs,ts.zip ((F vs).map (·.2))=F vs:=fun vs=>by rw[← hts vs];exact zip_keys _
 refine awp_rangeFunc hC.1 hC.2 (F:=f) (cs:=caps.map .r) (args:=caps) (xs:=xs) (z:=z) (by
  show callee? (look (F vs0) t)=_
  rw[hg];rfl) (fun p a w _ us hV=>⟨fun _=>False,fun _ h=>h.elim,by
  have hp:AV.pureL (caps.map .r)=true:=by clear hI hg hV;induction caps with|nil=>rfl|cons c cs ih=>simpa [AV.pureL,AV.pure] using ih
  have h1:=pure_relV (rows:=fun _=>⟨0,.dead⟩) _ _ hp hV
  rw[snapVL_ro] at h1
  exact RV.relV_mono (fun _ h=>.inl h) (fun _ _=>rfl) _ _ h1⟩) hI (hd 0 vs0) ts hps
  (fun left us s'=>∃ i vs,left=xs.drop i∧i≤xs.length∧I i∧s'=st n [] vs ((0,.sus ((F vs).map (·.2)) us)::R i vs))
  (fun c us s'=>∃ avs,(s'.rows 0).c = .sus avs us∧((c = .ret∧Q .ret ⟨n,look (ts.zip avs),s'.rows⟩)∨∃ id,c = .exit id∧Q (.exit id) ⟨n,look (ts.zip avs),s'.rows⟩))
  (fun us=>⟨0,vs0,rfl,Nat.zero_le _,hi0,?_⟩) ?_ ?_ ?_
 ·refine (upd_rows_st (c:=.sus (ts.map (st n (F vs0) vs0 (R 0 vs0)).tm) us)).trans ?_
  congr 3
  have hk:(F vs0).map (·.2)=ts.map (look (F vs0)):=by
   have:=look_keys (F vs0) (by rw[hts vs0];exact hnd)
   rw[hts vs0] at this
   exact this
  rw[hk];rfl
 ·rintro e rest us s' _ ⟨i,vs,hl,hle,hI',rfl⟩
  obtain⟨h1,h2⟩:=hdrop i e rest hl.symm
  refine⟨hlen e (List.mem_of_getElem? h1),(F vs).map (·.2),rfl,fun C'=>?_⟩
  have hr:=round i e vs us C' h1 hI'
  rw[hz,psA_look]
  refine awp_mono ?_ hr
  rintro x s2 ⟨hx,hbody⟩
  refine⟨hx,fun C''=>awp_mono ?_ (hbody C'')⟩
  intro x s3 hq
  cases x with
  | normal =>
    obtain⟨hI3,vs',hsub⟩:=hq
    refine⟨_,hsub,i+1,vs',h2.symm,?_,hI3,rfl⟩
    have:=(List.getElem?_eq_some_iff.1 h1).1
    omega
  | ret =>
    obtain⟨avs,h3,h4⟩:=hq
    exact⟨s3,Sub.refl _,avs,h3,.inl ⟨rfl,h4⟩⟩
  | exit id =>
    obtain⟨avs,h3,h4⟩:=hq
    exact⟨s3,Sub.refl _,avs,h3,.inr ⟨id,rfl,h4⟩⟩
  | goto l=>exact hq.elim
  | panic c=>exact hq.elim
  | outgrown=>exact hq.elim
 ·rintro us s' _ ⟨i,vs,hl,hle,hI',rfl⟩
  have hi:i=xs.length:=by
   have:(xs.drop i).length=0:=by rw[← hl];rfl
   rw[List.length_drop] at this;omega
  subst hi
  refine⟨(F vs).map (·.2),rfl,?_⟩
  have:=done vs us hI'
  rw[hz]
  exact this
 ·rintro c us s' _ ⟨avs,h3,h4⟩
  refine⟨avs,h3,?_⟩
  rcases h4 with⟨rfl,h4⟩|⟨id,rfl,h4⟩
  ·exact ze h4
  ·exact zf h4
theorem zuv {P:Program}{C:Ctx}{c:Code}{n:Nat}{Q:Exit→AS→Prop}{s:AS}(N:Nat) (F:Nat→(Nat→Nat)→List (Nat × AV)) (R:Nat→(Nat→Nat)→List (Nat × RowC)) (I:Nat→Prop) (i0:Nat)
 (h0:FitV n (F i0) (R i0) s) (hi:i0≤N) (hI:I i0)
 (round:∀ i vs,i≤N→I i→awp P C c (andThen (fun s'=>i<N∧I (i+1)∧FitV n (F (i+1)) (R (i+1)) s') Q) (st n (F i vs) vs (R i vs))):awp P C (.loop c) Q s:=by
 refine awp_whileV F R (fun i=>i≤N∧I i) (fun i=>N-i) i0 h0 ⟨hi,hI⟩ ?_
 rintro i vs ⟨hi,hI⟩
 refine awp_mono ?_ (round i vs hi hI)
 intro e s' hq
 cases e with
 | normal =>
   obtain⟨h1,h2,h3⟩:=hq
   exact⟨i+1,⟨h1,h2⟩,by omega,h3⟩
 | _=>exact hq
end Go.Oc

namespace Go.Oc
open Go Go.RowKit
mutual
def AV.park (k:Nat) (u:Addr):AV→AV
 | .r x=>.r x
 | .pt j n off=>if j=k then (if off=0 then .r (.vl u) else .r (.vl ⟨u.block,off,none⟩)) else .pt j n off
 | .pe j n sz idx off=>if j=k then .r .un else .pe j n sz idx off
 | .os j n sz off m=>if j=k then .r .un else .os j n sz off m
 | .mp j n=>if j=k then .r .un else .mp j n
 | .mi j n=>if j=k then .r .un else .mi j n
 | .pu j n u'=>if j=k then .r (.vl u') else .pu j n u'
 | .fn f cs=>.fn f (AV.parkL k u cs)
 | .ag cs=>.ag (AV.parkL k u cs)
 | .tu cs=>.tu (AV.parkL k u cs)
def AV.parkL (k:Nat) (u:Addr):List AV→List AV
 | []=>[]
 | x::xs=>x.park k u::AV.parkL k u xs
end
def RowC.park (k:Nat) (u:Addr):RowC→RowC
 | .box cs=>.box (AV.parkL k u cs)
 | .ara t sz cs=>.ara t sz (AV.parkL k u cs)
 | .sus cs vs=>.sus (AV.parkL k u cs) vs
 | c=>c
section
variable {w:World}{p:Plan}{ver:Nat→Nat}{k b0 g0:Nat}
mutual
theorem park_rel (hv:ver k=0) (hβ:p.β k=some b0):∀ (x:AV) (v:Value),x.rel w p ver v→(x.park k ⟨b0,0,none⟩).rel w { p with β:=upd p.β k none,γ:=upd p.γ k 1 } ver v
 | .r x,v,h=>by simpa only[AV.park,AV.rel] using h
 | .pt j n off, v, h=>by
   unfold AV.park
   split
   ·rename_i e
    subst e
    split
    ·rename_i e0
     subst e0
     simp only[AV.rel] at h
     obtain⟨b,hb,hv'⟩:=h.2 (by omega)
     rw[hβ] at hb
     injection hb with hb
     subst hb
     simp only[AV.rel,RV.rel];exact hv'
    ·simp only[AV.rel] at h
     obtain⟨b,hb,hv'⟩:=h.2 (by omega)
     rw[hβ] at hb
     injection hb with hb
     subst hb
     simp only[AV.rel,RV.rel];exact hv'
   ·rename_i e
    simp only[AV.rel,zuo _ _ e] at h ⊢
    exact h
 | .pe j n sz idx off, v, h=>by
   unfold AV.park
   split
   ·exact AV.rel_un _ _ _ _
   ·rename_i e
    simp only[AV.rel,zuo _ _ e] at h ⊢
    exact h
 | .os j n sz off m, v, h=>by
   unfold AV.park
   split
   ·exact AV.rel_un _ _ _ _
   ·rename_i e
    simp only[AV.rel,zuo _ _ e] at h ⊢
    exact h
 | .mp j n, v, h=>by
   unfold AV.park
   split
   ·exact AV.rel_un _ _ _ _
   ·rename_i e
    simp only[AV.rel,zuo _ _ e] at h ⊢
    exact h
 | .mi j n, v, h=>by
   unfold AV.park
   split
   ·exact AV.rel_un _ _ _ _
   ·rename_i e
    simp only[AV.rel,zuo _ _ e] at h ⊢
    exact h
 | .pu j n u', v, h=>by
   unfold AV.park
   split
   ·simp only[AV.rel] at h
    simp only[AV.rel,RV.rel];exact h.1
   ·rename_i e
    simp only[AV.rel,zuo _ _ e] at h ⊢
    exact h
 | .fn f cs, v, h=>by
   simp only[AV.park,AV.rel] at h ⊢
   obtain⟨vs,h1,h2⟩:=h
   exact⟨vs,h1,parkL_rel hv hβ cs _ h2⟩
 | .ag cs, v, h=>by
   simp only[AV.park,AV.rel] at h ⊢
   obtain⟨vs,h1,h2,h3⟩:=h
   exact⟨vs,h1,h2,parkL_rel hv hβ cs _ h3⟩
 | .tu cs, v, h=>by
   simp only[AV.park,AV.rel] at h ⊢
   obtain⟨vs,h1,h2⟩:=h
   exact⟨vs,h1,parkL_rel hv hβ cs _ h2⟩
theorem parkL_rel (hv:ver k=0) (hβ:p.β k=some b0):∀ (xs:List AV) (vs:List Value),AV.relV w p ver xs vs→AV.relV w { p with β:=upd p.β k none,γ:=upd p.γ k 1 } ver (AV.parkL k ⟨b0,0,none⟩ xs) vs
 | [],_,h=>by simpa only[AV.parkL,AV.relV] using h
 | x::xs, vs, h=>by
   simp only[AV.parkL,AV.relV] at h ⊢
   obtain⟨u,us,h1,h2,h3⟩:=h
   exact⟨u,us,h1,park_rel hv hβ x u h2,parkL_rel hv hβ xs us h3⟩
end
mutual
theorem unpark_rel (hv:ver k=0) (hβ:p.β k=none) (hγ:p.γ k=1):∀ (x:AV) (v:Value),x.rel w p ver v→x.rel w { p with β:=upd p.β k (some b0),γ:=upd p.γ k g0 } ver v
 | .r x,v,h=>by simpa only[AV.rel] using h
 | .pt j n off, v, h=>by
   by_cases e:j=k
   ·subst e
    simp only[AV.rel] at h
    obtain⟨b,hb,_⟩:=h.2 (by omega)
    rw[hβ] at hb;cases hb
   ·simp only[AV.rel,zuo _ _ e] at h ⊢
    exact h
 | .pe j n sz idx off, v, h=>by
   by_cases e:j=k
   ·subst e
    simp only[AV.rel] at h
    obtain⟨b,hb,_⟩:=h.2 (by omega)
    rw[hβ] at hb;cases hb
   ·simp only[AV.rel,zuo _ _ e] at h ⊢
    exact h
 | .os j n sz off m, v, h=>by
   by_cases e:j=k
   ·subst e
    simp only[AV.rel] at h
    rcases h.2 (by omega) with⟨_,h1,_⟩|⟨b,_,hb,_⟩
    ·rw[hγ] at h1;cases h1
    ·rw[hβ] at hb;cases hb
   ·simp only[AV.rel,zuo _ _ e] at h ⊢
    exact h
 | .mp j n, v, h=>by
   by_cases e:j=k
   ·subst e
    simp only[AV.rel] at h
    obtain⟨b,hb,_⟩:=h.2 (by omega)
    rw[hβ] at hb;cases hb
   ·simp only[AV.rel,zuo _ _ e] at h ⊢
    exact h
 | .mi j n, v, h=>by
   by_cases e:j=k
   ·subst e
    simp only[AV.rel] at h
    obtain⟨b,hb,_⟩:=h.2 (by omega)
    rw[hβ] at hb;cases hb
   ·simp only[AV.rel,zuo _ _ e] at h ⊢
    exact h
 | .pu j n u', v, h=>by
   by_cases e:j=k
   ·subst e
    simp only[AV.rel] at h
    obtain⟨b,hb,_⟩:=h.2.2 (by omega)
    rw[hβ] at hb;cases hb
   ·simp only[AV.rel,zuo _ _ e] at h ⊢
    exact h
 | .fn f cs, v, h=>by
   simp only[AV.rel] at h ⊢
   obtain⟨vs,h1,h2⟩:=h
   exact⟨vs,h1,unparkL_rel hv hβ hγ cs _ h2⟩
 | .ag cs, v, h=>by
   simp only[AV.rel] at h ⊢
   obtain⟨vs,h1,h2,h3⟩:=h
   exact⟨vs,h1,h2,unparkL_rel hv hβ hγ cs _ h3⟩
 | .tu cs, v, h=>by
   simp only[AV.rel] at h ⊢
   obtain⟨vs,h1,h2⟩:=h
   exact⟨vs,h1,unparkL_rel hv hβ hγ cs _ h2⟩
theorem unparkL_rel (hv:ver k=0) (hβ:p.β k=none) (hγ:p.γ k=1):∀ (xs:List AV) (vs:List Value),AV.relV w p ver xs vs→AV.relV w { p with β:=upd p.β k (some b0),γ:=upd p.γ k g0 } ver xs vs
 | [],_,h=>by simpa only[AV.relV] using h
 | x::xs, vs, h=>by
   simp only[AV.relV] at h ⊢
   obtain⟨u,us,h1,h2,h3⟩:=h
   exact⟨u,us,h1,unpark_rel hv hβ hγ x u h2,unparkL_rel hv hβ hγ xs us h3⟩
end
theorem parkRow_rel (hv:ver k=0) (hβ:p.β k=some b0) {j:Nat}(hj:j≠k):∀ (c:RowC),(∀ km n l cur,c = .mi km n l cur→km≠k)→zrl w p ver j c→zrl w { p with β:=upd p.β k none,γ:=upd p.γ k 1 } ver j (c.park k ⟨b0,0,none⟩)
 | .dead,_,h=>by simpa only[RowC.park,zrl,zuo _ _ hj] using h
 | .box cs, _, h=>by
   simp only[RowC.park,zrl,zuo _ _ hj] at h ⊢
   obtain⟨b,cells,t,h1,h2,h3,h4⟩:=h
   exact⟨b,cells,t,h1,h2,parkL_rel hv hβ cs _ h3,h4⟩
 | .arr t sz es,_,h=>by simpa only[RowC.park,zrl,zuo _ _ hj] using h
 | .arc t sz es c,_,h=>by simpa only[RowC.park,zrl,zuo _ _ hj] using h
 | .ara t sz cs, _, h=>by
   simp only[RowC.park,zrl,zuo _ _ hj] at h ⊢
   obtain⟨b,cells,h1,h2,h3,l,rest,h4,h5,h6⟩:=h
   exact⟨b,cells,h1,h2,h3,l,rest,h4,parkL_rel hv hβ cs _ h5,h6⟩
 | .mp m,_,h=>by simpa only[RowC.park,zrl,zuo _ _ hj] using h
 | .mpi m,_,h=>by simpa only[RowC.park,zrl,zuo _ _ hj] using h
 | .mpx m bs cl,_,h=>by simpa only[RowC.park,zrl,zuo _ _ hj] using h
 | .mem Φ,_,h=>by simpa only[RowC.park,zrl,zuo _ _ hj] using h
 | .mi km n left cur,hm,h=>by simpa only[RowC.park,zrl,zuo _ _ hj,zuo _ _ (hm km n left cur rfl)] using h
 | .gh P l z left,_,h=>by simpa only[RowC.park,zrl,zuo _ _ hj] using h
 | .sus cs vs, _, h=>by
   simp only[RowC.park,zrl,zuo _ _ hj] at h ⊢
   exact⟨h.1,h.2.1,parkL_rel hv hβ cs _ h.2.2⟩
theorem unparkRow_rel (hv:ver k=0) (hβ:p.β k=none) (hγ:p.γ k=1) {j:Nat}(hj:j≠k):∀ (c:RowC),(∀ km n l cur,c = .mi km n l cur→km≠k)→zrl w p ver j c→zrl w { p with β:=upd p.β k (some b0),γ:=upd p.γ k g0 } ver j c
 | .dead,_,h=>by simpa only[zrl,zuo _ _ hj] using h
 | .box cs, _, h=>by
   simp only[zrl,zuo _ _ hj] at h ⊢
   obtain⟨b,cells,t,h1,h2,h3,h4⟩:=h
   exact⟨b,cells,t,h1,h2,unparkL_rel hv hβ hγ cs _ h3,h4⟩
 | .arr t sz es,_,h=>by simpa only[zrl,zuo _ _ hj] using h
 | .arc t sz es c,_,h=>by simpa only[zrl,zuo _ _ hj] using h
 | .ara t sz cs, _, h=>by
   simp only[zrl,zuo _ _ hj] at h ⊢
   obtain⟨b,cells,h1,h2,h3,l,rest,h4,h5,h6⟩:=h
   exact⟨b,cells,h1,h2,h3,l,rest,h4,unparkL_rel hv hβ hγ cs _ h5,h6⟩
 | .mp m,_,h=>by simpa only[zrl,zuo _ _ hj] using h
 | .mpi m,_,h=>by simpa only[zrl,zuo _ _ hj] using h
 | .mpx m bs cl,_,h=>by simpa only[zrl,zuo _ _ hj] using h
 | .mem Φ,_,h=>by simpa only[zrl,zuo _ _ hj] using h
 | .mi km n left cur,hm,h=>by simpa only[zrl,zuo _ _ hj,zuo _ _ (hm km n left cur rfl)] using h
 | .gh P l z left,_,h=>by simpa only[zrl,zuo _ _ hj] using h
 | .sus cs vs, _, h=>by
   simp only[zrl,zuo _ _ hj] at h ⊢
   exact⟨h.1,h.2.1,unparkL_rel hv hβ hγ cs _ h.2.2⟩
end
def Parked (C:Ctx) (u:Addr) (us:List Value):Prop :=
 ∃ b cells t,u=⟨b,0,none⟩∧us=cells.toList∧C.hd b∧C.w0.heap[b]? = some (.cells cells t (0,0))∧∀ v∈us,v.oneCell'=true
section
variable {P:Program}{C:Ctx}{p:Plan}{s:AS}{a:Act}{w:World}{Q:Exit→AS→Prop}
theorem parked_read {k:Nat}{rs:List RV}{u:Addr}{us:List Value}(h:SR C p s a w) (hc:(s.rows k).c = .sus (rs.map .r) us) (hP:Parked C u us):∃ b0,C.hd b0∧RV.rel w (fun b=>p.R b∨b=b0) (.rp rs) (.pointer (some u)):=by
 obtain⟨b,cells,t,rfl,rfl,hhd,hw0,h1⟩:=hP
 obtain⟨g1,g2,g3,_⟩:=h.ex.hd b hhd
 have hb:=(h.base.block b g1 g2 g3).trans hw0
 have hr:=h.rw k
 rw[hc] at hr
 simp only[zrl] at hr
 refine⟨b,hhd,?_⟩
 simp only[RV.rel]
 refine⟨_,rfl,.inr rfl,RV.relC_of_get fun i x hx=>?_⟩
 have hV:∀ (rs:List RV) (us:List Value),AV.relV w p s.ver (rs.map .r) us→RV.relV w p.R rs us:=by
  intro rs
  induction rs with
  | nil=>intro us h;simpa only[List.map_nil,AV.relV,RV.relV] using h
  | cons r rs ih =>
    intro us h
    simp only[List.map_cons,AV.relV,AV.rel] at h
    simp only[RV.relV]
    obtain⟨u,us',e,h2,h3⟩:=h
    exact⟨u,us',e,h2,ih us' h3⟩
 obtain⟨v,hv,hx'⟩:=RV.relV_get (hV rs _ hr.2.2) hx
 refine⟨v,?_,h1 v (List.mem_of_getElem? hv),RV.rel_mono (fun _ h=>.inl h) (fun _ _=>rfl) _ _ hx'⟩
 rw[Nat.zero_add,add_at,Nat.zero_add,cell_of_row w b i cells t (0,0) hb]
 simpa using hv
theorem awp_park {c:Code}(k t0:Nat) (u0:Addr) (rs:List RV) (ht0:s.tm t0 = .pu k 0 u0) (hX:C.X=XS.none) (hrd:C.rd=none) (hown:∀ b,¬ C.own b) (hk:1000≤k) (hv:s.ver k=0) (hc:(s.rows k).c = .box (rs.map .r)) (hcb:∃ x,C.pin k=some x∧∀ b,x.1=some b→C.bor b)
 (h:∀ us C2,(C2.rd=none∧C2.X=XS.none)∧(∀ b,¬ C2.own b)→Parked C2 u0 us→awp P C2 c (fun e s'=>s'.tm t0 = .r (.vl u0)∧s'.rows k=⟨0,.sus (rs.map .r) us⟩∧Q e ⟨s'.n,upd s'.tm t0 (.pu k 0 u0),upd s'.rows k ⟨0,.box (rs.map .r)⟩⟩)
  ⟨s.n,fun t=>(s.tm t).park k u0,fun j=>if j=k then ⟨0,.sus (rs.map .r) us⟩ else ⟨(s.rows j).ver,(s.rows j).c.park k u0⟩⟩):awp P C c Q s:=by
 rintro a w ⟨p,hS⟩
 have hn:∀ o w Ψ Θ,¬ C.X.X o w Ψ Θ:=fun o w Ψ Θ h=>by rw[hX] at h;exact h
 have hψ:=hS.ex.ψn hn
 have hrow:=hS.rw k
 rw[hc] at hrow
 simp only[zrl] at hrow
 obtain⟨b0,cells,ty,hβ,hheap,hcells,hone⟩:=hrow
 have hbor:C.bor b0:=by
  obtain⟨x,hx,hxb⟩:=hcb
  exact hxb b0 ((hS.pn k x hx).1.symm.trans hβ)
 have hb0:=hS.ex.bo b0 (.inl hbor)
 have hu0:u0=⟨b0,0,none⟩:=by
  have hx:=hS.tm t0
  rw[ht0] at hx
  simp only[AV.rel] at hx
  obtain⟨b,hb,hbv⟩:=hx.2.2 hv.symm
  rw[hβ] at hb
  injection hb with hb
  subst hb
  have:=hx.1.symm.trans hbv
  injection this with this
  injection this
 subst hu0
 let C2:Ctx:={ C with w0:=C.w0.putObj b0 (.cells cells ty (0,0)),bor:=fun b=>C.bor b∧b≠b0,hd:=fun b=>C.hd b∨b=b0,pin:=fun j=>if j=k then none else C.pin j }
 let p2:Plan:={ p with β:=upd p.β k none,γ:=upd p.γ k 1 }
 have hsz0:C2.w0.heap.size=C.w0.heap.size:=World.putObj_size
 have hkver:∀ j,(if j=k then (⟨0,.sus (rs.map .r) cells.toList⟩:Row) else ⟨(s.rows j).ver,(s.rows j).c.park k ⟨b0,0,none⟩⟩).ver=s.ver j:=fun j=>by
  split
  ·rename_i e;subst e;exact hv.symm
  ·rfl
 have hver:AS.ver ⟨s.n,fun t=>(s.tm t).park k ⟨b0,0,none⟩,fun j=>if j=k then ⟨0,.sus (rs.map .r) cells.toList⟩ else ⟨(s.rows j).ver,(s.rows j).c.park k ⟨b0,0,none⟩⟩⟩=s.ver:=funext hkver
 have hβ2:∀ j b,p2.β j=some b→j≠k∧p.β j=some b∧b≠b0:=fun j b hb=>by
  have hb':upd p.β k none j=some b:=hb
  by_cases e:j=k
  ·subst e;rw[zus] at hb';cases hb'
  ·rw[zuo _ _ e] at hb'
   exact⟨e,hb',fun e2=>e (hS.ij j k b hb' (e2▸hβ))⟩
 have hmi:∀ j km n l cur,(s.rows j).c = .mi km n l cur→km≠k:=fun j km n l cur hj e=>by
  subst e
  have hr:=hS.rw j
  rw[hj] at hr
  simp only[zrl] at hr
  obtain⟨_,_,h2,_⟩:=hr
  have:=hS.lk j km n l cur hj (by omega)
  rw[hc] at this;cases this
 have hS2:SR C2 p2 ⟨s.n,fun t=>(s.tm t).park k ⟨b0,0,none⟩,fun j=>if j=k then ⟨0,.sus (rs.map .r) cells.toList⟩ else ⟨(s.rows j).ver,(s.rows j).c.park k ⟨b0,0,none⟩⟩⟩ a w:={
  base:=⟨hS.base.os,hS.base.tape,hS.base.output,by rw[hsz0];exact hS.base.size,fun j hj hjb hjo=>by
   rw[hsz0] at hj
   by_cases e:j=b0
   ·subst e
    show _=(C.w0.putObj j _).heap[j]?
    rw[hheap,World.putObj_heap_same hj]
   ·show _=(C.w0.putObj b0 _).heap[j]?
    rw[World.putObj_heap_other e]
    exact hS.base.block j hj (fun hb=>hjb ⟨hb,e⟩) hjo⟩
  r0:=hS.r0
  rn:=fun b hb=>by
   rcases hS.rn b hb with g|g|g
   ·exact .inl g
   ·exact .inr (.inl (by rw[hsz0];exact g))
   ·exact .inr (.inr g)
  rb:=hS.rb
  tm:=fun t=>by rw[hver];exact park_rel hv hβ _ _ (hS.tm t)
  sz:=hS.sz
  ex:={
   px:=hS.ex.px
   n0:=by rw[hsz0];exact hS.ex.n0
   ψ0:=hS.ex.ψ0
   ψl:=hS.ex.ψl
   θl:=hS.ex.θl
   ψb:=fun j b _=>hψ b
   ψr:=hS.ex.ψr
   ψo:=hS.ex.ψo
   θo:=fun b hb=>((hψ b).2 hb).elim
   bo:=fun b hb=>by rw[hsz0];exact hS.ex.bo b (hb.imp (fun h=>h.1) id)
   ψn:=hS.ex.ψn
   hd:=fun b hb=>by
    rw[hsz0]
    rcases hb with hb|rfl
    ·obtain⟨g1,g2,g3,g4,g5,g6,g7,g8⟩:=hS.ex.hd b hb
     exact⟨g1,fun h=>g2 h.1,g3,g4,g5,g6,g7,fun j hj=>g8 j (hβ2 j b hj).2.1⟩
    ·exact⟨hb0,fun h=>h.2 rfl,hown b,(hS.bl k b hβ).1,(hS.bl k b hβ).2.1,(hψ b).1,(hψ b).2,fun j hj=>(hβ2 j b hj).2.2 rfl⟩
   rm:=hS.ex.rm
   df:=by
    obtain⟨Ds,g1,g2,g3⟩:=hS.ex.df
    refine⟨Ds,g1,g2,fun D hD=>?_⟩
    obtain⟨k1,k2,k3,k4,k5⟩:=g3 D hD
    exact⟨k1,by rw[hsz0];exact k2,k3,fun j hj=>k4 j (hβ2 j D hj).2.1,k5⟩ }
  rw:=fun j=>by
   rw[hver]
   show zrl w p2 s.ver j (if j=k then (⟨0,.sus (rs.map .r) cells.toList⟩:Row) else ⟨(s.rows j).ver,(s.rows j).c.park k ⟨b0,0,none⟩⟩).c
   split
   ·rename_i e
    subst e
    simp only[zrl]
    refine⟨zus _ _ _,zus _ _ _,?_⟩
    have hV:∀ (rs:List RV) (us:List Value),AV.relV w p s.ver (rs.map .r) us→AV.relV w p2 s.ver (rs.map .r) us:=by
     intro rs
     induction rs with
     | nil=>intro us h;simpa only[List.map_nil,AV.relV] using h
     | cons r rs ih =>
       intro us h
       simp only[List.map_cons,AV.relV,AV.rel] at h ⊢
       obtain⟨u,us',e,h2,h3⟩:=h
       exact⟨u,us',e,h2,ih us' h3⟩
    exact hV rs _ hcells
   ·rename_i e
    exact parkRow_rel hv hβ e _ (fun km n l cur hj=>hmi j km n l cur hj) (hS.rw j)
  bl:=fun j b hb=>by
   obtain⟨e1,e2,e3⟩:=hβ2 j b hb
   obtain⟨g1,g2,g3⟩:=hS.bl j b e2
   refine⟨g1,g2,?_⟩
   rw[hsz0]
   exact g3.imp id (fun h=>h.imp (fun h=>⟨h.1,h.2,e3⟩) id)
  ij:=fun i j b hi hj=>hS.ij i j b (hβ2 i b hi).2.1 (hβ2 j b hj).2.1
  cap:=fun j=>by
   show upd p.γ k 1 j≤maxLen
   unfold upd;split
   ·simp [maxLen]
   ·exact hS.cap j
  pn:=fun j x hx=>by
   have hx':(if j=k then none else C.pin j)=some x:=hx
   split at hx'
   ·cases hx'
   ·rename_i e
    obtain⟨g1,g2,g3,g4⟩:=hS.pn j x hx'
    rw[hver]
    exact⟨(zuo _ _ e).trans g1,(zuo _ _ e).trans g2,g3,g4⟩
  lk:=fun j km n l cur hj hn=>by
   rw[hver] at hn
   have hj':(if j=k then (⟨0,.sus (rs.map .r) cells.toList⟩:Row) else ⟨(s.rows j).ver,(s.rows j).c.park k ⟨b0,0,none⟩⟩).c = .mi km n l cur:=hj
   split at hj'
   ·cases hj'
   ·have hj2:(s.rows j).c = .mi km n l cur:=by
     generalize (s.rows j).c=c at hj'
     cases c<;>simp only[RowC.park] at hj'<;>first|exact hj'|cases hj'
    have hl:=hS.lk j km n l cur hj2 hn
    show (if km=k then (⟨0,.sus (rs.map .r) cells.toList⟩:Row) else ⟨(s.rows km).ver,(s.rows km).c.park k ⟨b0,0,none⟩⟩).c.isMpi=true
    rw[if_neg (hmi j km n l cur hj2)]
    generalize (s.rows km).c=c at hl
    cases c<;>first|exact hl|cases hl }
 have hpk:Parked C2 ⟨b0,0,none⟩ cells.toList:=⟨b0,cells,ty,rfl,rfl,.inr rfl,World.putObj_heap_same hb0,hone⟩
 have hrun:=h _ C2 ⟨⟨hrd,hX⟩,hown⟩ hpk a w ⟨p2,hS2⟩
 refine wpIn_mono hrun ?_
 rintro e a' w' ⟨s',⟨p',hS'⟩,ht,hrk,hQ⟩
 refine⟨_,⟨{ p' with β:=upd p'.β k (some b0),γ:=upd p'.γ k (p.γ k) },?_⟩,hQ⟩
 have hψ':=hS'.ex.ψn hn
 obtain⟨q1,q2,q3,q4,q5,_,_,q8⟩:=hS'.ex.hd b0 (.inr rfl)
 have hheap':w'.heap[b0]? = some (.cells cells ty (0,0)):=by
  have:=hS'.base.block b0 q1 q2 q3
  rw[this]
  exact World.putObj_heap_same hb0
 have hvk:s'.ver k=0:=by show (s'.rows k).ver=0;rw[hrk]
 have hrk':=hS'.rw k
 rw[hrk] at hrk'
 simp only[zrl] at hrk'
 obtain⟨hβk,hγk,hcells'⟩:=hrk'
 have hver':AS.ver ⟨s'.n,upd s'.tm t0 (.pu k 0 ⟨b0,0,none⟩),upd s'.rows k ⟨0,.box (rs.map .r)⟩⟩=s'.ver:=by
  funext j
  show (upd s'.rows k _ j).ver=(s'.rows j).ver
  unfold upd;split
  ·rename_i e;subst e;exact hvk.symm
  ·rfl
 have hβ3:∀ j b,upd p'.β k (some b0) j=some b→(j=k∧b=b0)∨(j≠k∧p'.β j=some b):=fun j b hb=>by
  by_cases e:j=k
  ·subst e;rw[zus] at hb;injection hb with hb;exact .inl ⟨rfl,hb.symm⟩
  ·rw[zuo _ _ e] at hb;exact .inr ⟨e,hb⟩
 have hmi':∀ j km n l cur,(s'.rows j).c = .mi km n l cur→km≠k:=fun j km n l cur hj e=>by
  subst e
  have hr:=hS'.rw j
  rw[hj] at hr
  simp only[zrl] at hr
  obtain⟨_,_,h2,_⟩:=hr
  have:=hS'.lk j km n l cur hj (by omega)
  rw[hrk] at this;cases this
 exact {
  base:=⟨hS'.base.os,hS'.base.tape,hS'.base.output,by have:=hS'.base.size;rw[hsz0] at this;exact this,fun j hj hjb hjo=>by
   have hne:j≠b0:=fun e=>hjb (e▸hbor)
   refine (hS'.base.block j (by rw[hsz0];exact hj) (fun hb=>hjb hb.1) hjo).trans ?_
   show (C.w0.putObj b0 _).heap[j]? = _
   rw[World.putObj_heap_other hne]⟩
  r0:=hS'.r0
  rn:=fun b hb=>by
   rcases hS'.rn b hb with g|g|g
   ·exact .inl g
   ·exact .inr (.inl (by rw[hsz0] at g;exact g))
   ·exact .inr (.inr g)
  rb:=hS'.rb
  tm:=fun t=>by
   rw[hver']
   show AV.rel w' _ s'.ver (upd s'.tm t0 (.pu k 0 ⟨b0,0,none⟩) t) _
   by_cases e:t=t0
   ·subst e
    rw[zus]
    have hx:=hS'.tm t
    rw[ht] at hx
    simp only[AV.rel,RV.rel] at hx ⊢
    exact⟨hx,by omega,fun _=>⟨b0,zus _ _ _,hx⟩⟩
   ·rw[zuo _ _ e]
    exact unpark_rel hvk hβk hγk _ _ (hS'.tm t)
  sz:=hS'.sz
  ex:={
   px:=hS'.ex.px
   n0:=by have:=hS'.ex.n0;rw[hsz0] at this;exact this
   ψ0:=hS'.ex.ψ0
   ψl:=hS'.ex.ψl
   θl:=hS'.ex.θl
   ψb:=fun j b _=>hψ' b
   ψr:=hS'.ex.ψr
   ψo:=hS'.ex.ψo
   θo:=fun b hb=>((hψ' b).2 hb).elim
   bo:=hS.ex.bo
   ψn:=hS'.ex.ψn
   hd:=fun b hb=>by
    obtain⟨g1,g2,g3,g4,g5,g6,g7,g8⟩:=hS'.ex.hd b (.inl hb)
    obtain⟨_,g2',_⟩:=hS.ex.hd b hb
    refine⟨by rw[hsz0] at g1;exact g1,g2',g3,g4,g5,g6,g7,fun j hj=>?_⟩
    rcases hβ3 j b hj with⟨_,e⟩|⟨_,e⟩
    ·exact g2' (e▸hbor)
    ·exact g8 j e
   rm:=hS'.ex.rm
   df:=by
    obtain⟨Ds,g1,g2,g3⟩:=hS'.ex.df
    refine⟨Ds,g1,g2,fun D hD=>?_⟩
    obtain⟨k1,k2,k3,k4,k5⟩:=g3 D hD
    rw[hsz0] at k2
    refine⟨k1,k2,k3,fun j hj=>?_,k5⟩
    rcases hβ3 j D hj with⟨_,e⟩|⟨_,e⟩
    ·omega
    ·exact k4 j e }
  rw:=fun j=>by
   rw[hver']
   show zrl w' _ s'.ver j (upd s'.rows k ⟨0,.box (rs.map .r)⟩ j).c
   by_cases e:j=k
   ·subst e
    rw[zus]
    simp only[zrl]
    refine⟨b0,cells,ty,zus _ _ _,hheap',unparkL_rel hvk hβk hγk _ _ hcells',hone⟩
   ·rw[zuo _ _ e]
    exact unparkRow_rel hvk hβk hγk e _ (fun km n l cur hj=>hmi' j km n l cur hj) (hS'.rw j)
  bl:=fun j b hb=>by
   rcases hβ3 j b hb with⟨rfl,rfl⟩|⟨e,hb'⟩
   ·exact⟨q4,q5,.inr (.inl ⟨hk,hbor⟩)⟩
   ·obtain⟨g1,g2,g3⟩:=hS'.bl j b hb'
    rw[hsz0] at g3
    exact⟨g1,g2,g3.imp id (fun h=>h.imp (fun h=>⟨h.1,h.2.1⟩) id)⟩
  ij:=fun i j b hi hj=>by
   rcases hβ3 i b hi with⟨rfl,rfl⟩|⟨ei,hi'⟩
   ·rcases hβ3 j b hj with⟨rfl,_⟩|⟨_,hj'⟩
    ·rfl
    ·exact (q8 j hj').elim
   ·rcases hβ3 j b hj with⟨rfl,rfl⟩|⟨_,hj'⟩
    ·exact (q8 i hi').elim
    ·exact hS'.ij i j b hi' hj'
  cap:=fun j=>by
   show upd p'.γ k (p.γ k) j≤maxLen
   unfold upd;split
   ·exact hS.cap k
   ·exact hS'.cap j
  pn:=fun j x hx=>by
   rw[hver']
   by_cases e:j=k
   ·subst e
    obtain⟨g1,g2,_,g4⟩:=hS.pn j x hx
    exact⟨(zus _ _ _).trans (hβ.symm.trans g1),(zus _ _ _).trans g2,hvk,g4⟩
   ·obtain⟨g1,g2,g3,g4⟩:=hS'.pn j x (by show (if j=k then none else C.pin j)=some x;rw[if_neg e];exact hx)
    exact⟨(zuo _ _ e).trans g1,(zuo _ _ e).trans g2,g3,g4⟩
  lk:=fun j km n l cur hj hn'=>by
   rw[hver'] at hn'
   have hj':(upd s'.rows k ⟨0,.box (rs.map .r)⟩ j).c = .mi km n l cur:=hj
   by_cases e:j=k
   ·subst e;rw[zus] at hj';cases hj'
   ·rw[zuo _ _ e] at hj'
    have hl:=hS'.lk j km n l cur hj' hn'
    show (upd s'.rows k ⟨0,.box (rs.map .r)⟩ km).c.isMpi=true
    rw[zuo _ _ (hmi' j km n l cur hj')]
    exact hl }
theorem awp_name {c:Code}{n:Nat}{l:List (Nat × AV)}{vs:Nat→Nat}{cs:List (Nat × RowC)}(t:Nat) {k:Nat}(ht:look l t = .pt k (vs k) 0) (h:∀ u,awp P C c Q (st n ((t,.pu k (vs k) u)::l) vs cs)):awp P C c Q (st n l vs cs):=fun a w ⟨p,hp⟩=>by
 have hx:=hp.tm t
 have e2:(st n l vs cs).tm t = .pt k (vs k) 0:=ht
 rw[e2] at hx
 simp only[AV.rel] at hx
 obtain⟨b,hb,hbv⟩:=hx.2 rfl
 refine h ⟨b,0,none⟩ a w ⟨p,{ hp with tm:=fun j=>?_ }⟩
 show AV.rel w _ _ (look ((t,.pu k (vs k) ⟨b,0,none⟩)::l) j) _
 rw[look_cons]
 split
 ·rename_i e
  subst e
  simp only[AV.rel];exact⟨hbv,hx⟩
 ·exact hp.tm j
theorem sub_unname {n:Nat}{l:List (Nat × AV)}{vs:Nat→Nat}{cs:List (Nat × RowC)}(t:Nat) {k m:Nat}{u:Addr}(ht:look l t = .pu k m u):Sub (st n l vs cs) (st n ((t,.pt k m 0)::l) vs cs):=fun C a w ⟨p,hp⟩=>by
 refine⟨p,{ hp with tm:=fun j=>?_ }⟩
 show AV.rel w _ _ (look ((t,.pt k m 0)::l) j) _
 rw[look_cons]
 split
 ·rename_i e
  subst e
  have hx:=hp.tm j
  have e2:(st n l vs cs).tm j = .pu k m u:=ht
  rw[e2] at hx
  simp only[AV.rel] at hx ⊢
  exact hx.2
 ·exact hp.tm j
end
end Go.Oc

namespace Go.Oc
open Go Go.RowKit
theorem park_un (k:Nat) (u:Addr):AV.park k u (.r .un) = .r .un:=by simp only[AV.park]
theorem look_park (k:Nat) (u:Addr):∀ (l:List (Nat × AV)) (t:Nat),look (l.map fun x=>(x.1,x.2.park k u)) t=(look l t).park k u
 | [],t=>(park_un k u).symm
 | (j, x)::l, t=>by
   simp only[List.map_cons,look_cons]
   split
   ·rfl
   ·exact look_park k u l t
theorem lookc_park (k:Nat) (u:Addr):∀ (cs:List (Nat × RowC)) (j:Nat),lookc (cs.map fun x=>(x.1,x.2.park k u)) j=(lookc cs j).park k u
 | [],_=>rfl
 | (i, c)::cs, j=>by
   simp only[List.map_cons,zlc]
   split
   ·rfl
   ·exact lookc_park k u cs j
section
variable {P:Program}{C:Ctx}{n:Nat}{l:List (Nat × AV)}{vs:Nat→Nat}{cs:List (Nat × RowC)}{Q:Exit→AS→Prop}
theorem awp_parkS {c:Code}(k t0:Nat) (u:Addr) (rs:List RV) (ht0:look l t0 = .pu k 0 u) (hC:(C.rd=none∧C.X=XS.none)∧∀ b,¬ C.own b) (hk:1000≤k) (hv:vs k=0) (hc:lookc cs k = .box (rs.map .r)) (hcb:∃ x,C.pin k=some x∧∀ b,x.1=some b→C.bor b)
 (h:∀ us C2,(C2.rd=none∧C2.X=XS.none)∧(∀ b,¬ C2.own b)→Parked C2 u us→awp P C2 c (fun e s'=>s'.tm t0 = .r (.vl u)∧s'.rows k=⟨0,.sus (rs.map .r) us⟩∧Q e ⟨s'.n,upd s'.tm t0 (.pu k 0 u),upd s'.rows k ⟨0,.box (rs.map .r)⟩⟩)
  (st n (l.map fun x=>(x.1,x.2.park k u)) vs (insc (cs.map fun x=>(x.1,x.2.park k u)) k (.sus (rs.map .r) us)))):awp P C c Q (st n l vs cs):=by
 refine awp_park k t0 u rs ht0 hC.1.2 hC.1.1 hC.2 hk hv hc hcb fun us C2 hC2 hP=>?_
 have e:(⟨n,fun t=>((st n l vs cs).tm t).park k u,fun j=>if j=k then ⟨0,.sus (rs.map .r) us⟩ else ⟨((st n l vs cs).rows j).ver,((st n l vs cs).rows j).c.park k u⟩⟩:AS)
  = st n (l.map fun x=>(x.1,x.2.park k u)) vs (insc (cs.map fun x=>(x.1,x.2.park k u)) k (.sus (rs.map .r) us)):=by
  simp only[st,AS.mk.injEq,true_and]
  constructor
  ·funext t
   exact (look_park k u l t).symm
  ·funext j
   rw[lookc_insc]
   split
   ·rename_i e;subst e;rw[hv]
   ·rw[lookc_park]
 have:=h us C2 hC2 hP
 rw[← e] at this
 exact this
theorem st_unpark (k t0:Nat) (x:AV) (c:RowC) (hv:vs k=0):(⟨n,upd (st n l vs cs).tm t0 x,upd (st n l vs cs).rows k ⟨0,c⟩⟩:AS)=st n ((t0,x)::l) vs (insc cs k c):=by
 simp only[st,AS.mk.injEq,true_and]
 constructor
 ·funext t
  rw[look_cons]
  unfold upd
  split<;>rfl
 ·funext j
  rw[lookc_insc]
  unfold upd
  split
  ·rename_i e;subst e;rw[hv]
  ·rfl
theorem awp_rangeK {t:Nat}{ps:Array Tmp}{assign body:Code}(hC:(C.rd=none∧C.X=XS.none)∧∀ b,¬ C.own b) (k t0:Nat) (u:Addr) (ht00:look l t0 = .pu k 0 u) (hk:1000≤k) (hcb:∃ x,C.pin k=some x∧∀ b,x.1=some b→C.bor b) (rs:List RV) (hl0:Lent vs) (hc:lookc cs k = .box (rs.map .r))
 {f:FuncId}{cf:List AV}{args:List RV}(xs:List (List RV)) (hI:ICalls P true f args xs) (ts:List Nat) (hnd:ts.Nodup) (F:(Nat→Nat)→List (Nat × AV)) (R:Nat→(Nat→Nat)→List (Nat × RowC)) (I:Nat→Prop)
 (h0:∀ us,∃ vs',Lent vs'∧Sub (st n (l.map fun x=>(x.1,x.2.park k u)) vs (insc (cs.map fun x=>(x.1,x.2.park k u)) k (.sus (rs.map .r) us))) (st n (F vs') vs' (insc (R 0 vs') k (.sus (rs.map .r) us)))) (hi0:I 0)
 (hts:∀ vs,(F vs).map (·.1)=ts) (ht0:∀ vs,look (F vs) t0 = .r (.vl u)) (hg:∀ vs,callee? (look (F vs) t)=some (f,cf))
 (hcap:∀ (w:World) (p:Plan) (ver:Nat→Nat) (R':Nat→Prop) (vals:List Value),AV.relV w p ver cf vals→RV.rel w R' (.rp rs) (.pointer (some u))→(∀ b,p.R b→R' b)→RV.relV w R' args vals)
 (hd:∀ i vs,lookc (R i vs) 0 = .dead) (hps:∀ t∈ps.toList,t<n) (hlen:∀ e∈xs,e.length=ps.size)
 (round:∀ i e vs us usp C,xs[i]? = some e→I i→Lent vs→awp P C assign (fun x s2=>x = .normal∧∀ C,awp P C body (fun x s3=>x = .normal∧I (i+1)∧∃ vs',Lent vs'∧Sub s3 (st n [] vs' ((0,.sus ((F vs').map (·.2)) us)::insc (R (i+1) vs') k (.sus (rs.map .r) usp)))) s2)
  (st n (psL ps.toList e (F vs)) vs ((0,.sus ((F vs).map (·.2)) us)::insc (R i vs) k (.sus (rs.map .r) usp))))
 (done:∀ vs us,Lent vs→I xs.length→Q .normal (st n ((t0,.pu k 0 u)::F vs) vs (insc ((0,.sus ((F vs).map (·.2)) us)::R xs.length vs) k (.box (rs.map .r))))):awp P C (.rangeFunc (.tmp t) ps assign body) Q (st n l vs cs):=by
 refine awp_parkS k t0 u rs ht00 hC hk (hl0 k hk) hc hcb fun usp C2 hC2 hP=>?_
 obtain⟨vs0,hv0,hsub0⟩:=h0 usp
 refine zw hsub0 ?_
 have hk0:k≠0:=by omega
 have hdrop:∀ i e rest,xs.drop i=e::rest→xs[i]? = some e∧xs.drop (i+1)=rest:=fun i e rest h=>by
  refine⟨?_,by rw[← List.drop_drop,h];rfl⟩
  have:(xs.drop i)[0]? = some e:=by rw[h];rfl
  simpa using this
 have hz:∀ vs,ts.zip ((F vs).map (·.2))=F vs:=fun vs=>by rw[← hts vs];exact zip_keys _
 refine awp_rangeFunc hC2.1.1 hC2.1.2 (F:=f) (cs:=cf) (args:=args) (xs:=xs) (z:=true) (hg vs0) (fun p a w hS vals hV=>by
  obtain⟨b0,hb0,hr⟩:=parked_read (k:=k) (rs:=rs) hS (by show lookc (insc (R 0 vs0) k _) k=_;rw[lookc_insc,if_pos rfl]) hP
  exact⟨fun b=>b=b0,fun b hb=>⟨hb▸hb0,rfl⟩,hcap w p _ _ vals hV hr fun _ h=>.inl h⟩) hI
  (by show lookc (insc (R 0 vs0) k _) 0=_;rw[lookc_insc,if_neg (Ne.symm hk0)];exact hd 0 vs0) ts hps
  (fun left us s'=>∃ i vs,left=xs.drop i∧i≤xs.length∧I i∧Lent vs∧s'=st n [] vs ((0,.sus ((F vs).map (·.2)) us)::insc (R i vs) k (.sus (rs.map .r) usp)))
  (fun c us s'=>False)
  (fun us=>⟨0,vs0,rfl,Nat.zero_le _,hi0,hv0,?_⟩) ?_ ?_ (fun c us s' _ h=>h.elim)
 ·refine (upd_rows_st (c:=.sus (ts.map (st n (F vs0) vs0 (insc (R 0 vs0) k (.sus (rs.map .r) usp))).tm) us)).trans ?_
  congr 3
  have hkk:(F vs0).map (·.2)=ts.map (look (F vs0)):=by
   have:=look_keys (F vs0) (by rw[hts vs0];exact hnd)
   rw[hts vs0] at this
   exact this
  rw[hkk];rfl
 ·rintro e rest us s' _ ⟨i,vs,hl,hle,hI',hvl,rfl⟩
  obtain⟨h1,h2⟩:=hdrop i e rest hl.symm
  refine⟨hlen e (List.mem_of_getElem? h1),(F vs).map (·.2),rfl,fun C'=>?_⟩
  have hr:=round i e vs us usp C' h1 hI' hvl
  rw[hz,psA_look]
  refine awp_mono ?_ hr
  rintro x s2 ⟨hx,hbody⟩
  refine⟨hx,fun C''=>awp_mono ?_ (hbody C'')⟩
  rintro x s3 ⟨rfl,hI3,vs',hvl',hsub⟩
  refine⟨_,hsub,i+1,vs',h2.symm,?_,hI3,hvl',rfl⟩
  have:=(List.getElem?_eq_some_iff.1 h1).1
  omega
 ·rintro us s' _ ⟨i,vs,hl,hle,hI',hvl,rfl⟩
  have hi:i=xs.length:=by
   have:(xs.drop i).length=0:=by rw[← hl];rfl
   rw[List.length_drop] at this;omega
  subst hi
  refine⟨(F vs).map (·.2),rfl,?_⟩
  rw[hz]
  refine⟨ht0 vs,?_,?_⟩
  ·show (⟨vs k,lookc ((0,.sus ((F vs).map (·.2)) us)::insc (R xs.length vs) k (.sus (rs.map .r) usp)) k⟩:Row)=_
   rw[zlc,if_neg hk0,lookc_insc,if_pos rfl,hvl k hk]
  ·have hq:=done vs us hvl hI'
   have e:=st_unpark (n:=n) (l:=F vs) (vs:=vs) (cs:=(0,.sus ((F vs).map (·.2)) us)::insc (R xs.length vs) k (.sus (rs.map .r) usp)) k t0 (.pu k 0 u) (.box (rs.map .r)) (hvl k hk)
   have e2:(st n ((t0,.pu k 0 u)::F vs) vs (insc ((0,.sus ((F vs).map (·.2)) us)::insc (R xs.length vs) k (.sus (rs.map .r) usp)) k (.box (rs.map .r))):AS)=st n ((t0,.pu k 0 u)::F vs) vs (insc ((0,.sus ((F vs).map (·.2)) us)::R xs.length vs) k (.box (rs.map .r))):=by
    simp only[st,AS.mk.injEq,true_and]
    funext j
    simp only[lookc_insc,zlc]
    split
    ·rfl
    ·split
     ·rfl
     ·rfl
   rw[← e2,← e] at hq
   exact hq
end
attribute [go_sem] AV.park AV.parkL RowC.park
end Go.Oc

namespace Go.Proofs.YtonpmcdkncbjoaaGreat.Du
open Go Go.Oc
set_option maxRecDepth 8000
structure Bd where
 b:Int
 lo:Int
 hi:Int
structure Am where
 at_:Int
 beds:List Bd
def bedR (x:Bd):List RV:=[i64 x.b,i64 x.lo,i64 x.hi]
abbrev bedV (x:Bd):RV:=.ag [i64 x.b,i64 x.lo,i64 x.hi]
abbrev bedsR (l:List Bd):RV:=.sl 3 (l.map bedR)
def aimR (a:Am):List RV:=[i64 a.at_,bedsR a.beds]
abbrev aimV (a:Am):RV:=.ag [i64 a.at_,bedsR a.beds]
abbrev aimsR (l:List Am):RV:=.sl 2 (l.map aimR)
abbrev lawV (d:Int) (l:List Am):RV:=.ag [i64 d,aimsR l]
abbrev chV (a:Am) (d:Int):RV:=.ag [i64 a.at_,bedsR a.beds,i64 d]
def I64 (n:Int):Prop:=-9223372036854775808≤n∧n≤9223372036854775807
theorem within1_ok (n a b:Int):ACalls Tryz.prog 67 [i64 n,.rp [i64 a],.rp [i64 b]] (.bo (decide (n<a) || decide (b<n))):=by
 refine zas (rs:=[.bo (decide (n<a) || decide (b<n))]) [.tmp 4] Tryz.func67 rfl (by kernel_rfl) Tryz.ntmps67 rfl (by simp) rfl fun C vs=>?_
 apply zq
 refine zb fun K hK=>?_;simp only[go_sem];apply hK
 apply zq
 refine zb fun K hK=>?_;simp only[go_sem]
 refine⟨fun h=>?_,fun h=>?_⟩ <;>
 ·skip
  apply hK;apply ze;simp only[go_sem]
  try simp [h]
theorem index_ok (p:Int→Bool) (f:Nat) (caps:List RV) (l:List Int) (h:∀ x∈l,ACalls Tryz.prog f (i64 x::caps) (.bo (p x))):ACalls Tryz.prog 96 [ints l,.fn f caps] (i64 (indexF p l)):=by
 refine zas (rs:=[i64 (indexF p l)]) [.tmp 4] Tryz.func96 rfl (by kernel_rfl) Tryz.ntmps96 rfl (by simp) rfl fun C vs=>?_
 apply zq
 refine zb fun K hK=>?_;simp only[go_sem];apply hK
 repeat apply zq
 refine zb fun K hK=>?_;simp only[go_sem]
 intro hl
 apply hK;apply zd
 refine zup (n:=19) l.length (fun i vs=>[(0,.r (ints l)),(1,.r (.fn f caps)),(7,.r (i64 l.length)),(8,.r (i64 i))]) (fun _=>[])
  (fun i=>indexF p l=if indexF p (l.drop i)<0 then -1 else i+indexF p (l.drop i)) 0 (zfo [] ?_ rfl) (Nat.zero_le _) ?_ ?_
 ·try simp only[go_sem]
 ·simp only[List.drop_zero]
  have:=indexF_ge p l
  split
  ·omega
  ·simp
 ·intro i vs hi hI
  apply zq
  refine zb fun K hK=>?_;simp only[go_sem];apply hK
  apply zq
  apply zc rfl<;>intro hc<;>(try simp only[go_sem] at hc)
  ·obtain⟨x,hx⟩:=zol hc
   rw[drop_of_opt hx] at hI
   apply zx
   apply zq
   apply zd
   apply zq
   refine zb fun K hK=>?_;simp only[go_sem];apply hK
   apply zq
   refine zb fun K hK=>?_;simp only[go_sem,hx,hc,bedR,aimR]
   refine zh (h x (zmo hx)) rfl (by simp only[go_sem,i64,ints]) (by simp only[go_sem,i64,ints]) ?_
   (try simp only[go_sem]);apply hK
   apply zc rfl<;>intro hc<;>(try simp only[go_sem] at hc)
   ·apply zq
    refine zb fun K hK=>?_;simp only[go_sem];apply hK;apply ze;simp only[go_sem]
    simp [hI,indexF,hc]
   ·apply zx
    try simp only[go_sem]
    refine zb fun K hK=>?_;simp only[go_sem];(try simp (disch:=omega) only[zI]);apply hK
    try simp only[go_sem]
    refine⟨‹_›,?_,zfo [] ?_ rfl⟩
    ·rw[hI]
     simp only[indexF,hc,Bool.false_eq_true,if_false]
     have:=indexF_ge p (l.drop (i+1))
     (repeat' split)<;>omega
    ·try simp only[go_sem]
  ·apply zf;simp only[go_sem]
   apply zq
   refine zb fun K hK=>?_;simp only[go_sem];apply hK;apply ze;simp only[go_sem]
   have:l.drop i=[]:=List.drop_eq_nil_of_le (by omega)
   simp [hI,this,indexF]
theorem contains_ok (p:Int→Bool) (f:Nat) (caps:List RV) (l:List Int) (h:∀ x∈l,ACalls Tryz.prog f (i64 x::caps) (.bo (p x))):ACalls Tryz.prog 66 [ints l,.fn f caps] (.bo (l.any p)):=by
 refine zas (rs:=[.bo (l.any p)]) [.tmp 4] Tryz.func66 rfl (by kernel_rfl) Tryz.ntmps66 rfl (by simp) rfl fun C vs=>?_
 apply zq
 refine zb fun K hK=>?_;simp only[go_sem];apply hK
 apply zq
 refine zb fun K hK=>?_;simp only[go_sem]
 refine zh (index_ok p f caps l h) rfl (by simp only[go_sem,i64,ints]) (by simp only[go_sem,i64,ints]) ?_
 (try simp only[go_sem]);apply hK;apply ze;simp only[go_sem];rw[← indexF_any]
def withinL (a b:Int) (l:List Int):Bool:=l.all fun n=>decide (a≤n)&&decide (n≤b)
theorem withinL_not (a b:Int) (l:List Int):(!(l.any fun n=>decide (n<a) || decide (b<n)))=withinL a b l:=by
 unfold withinL
 rw[List.not_any_eq_all_not]
 congr 1
 funext n
 by_cases h1:n<a<;>by_cases h2:b<n<;>simp [h1,h2]<;>omega
theorem within_ok (a b:Int) (l:List Int):ACalls Tryz.prog 35 [i64 a,i64 b,ints l] (.bo (withinL a b l)):=by
 refine zas (rs:=[.bo (withinL a b l)]) [.tmp 6] Tryz.func35 rfl (by kernel_rfl) Tryz.ntmps35 rfl (by simp) rfl fun C vs=>?_
 apply zq
 refine zb fun K hK=>?_;simp only[go_sem];apply hK
 apply zq
 refine zb fun K hK=>?_;simp only[go_sem]
 refine zh (contains_ok (fun n=>decide (n<a) || decide (b<n)) 67 [.rp [i64 a],.rp [i64 b]] l fun x _=>within1_ok x a b) rfl (by simp only[go_sem,i64,ints]) (by simp only[go_sem,i64,ints]) ?_
 (try simp only[go_sem]);apply hK;apply ze;simp only[go_sem];rw[← withinL_not]
theorem indexB_ok (p:Bd→Bool) (f:Nat) (caps:List RV) (l:List Bd) (h:∀ x∈l,ACalls Tryz.prog f (bedV x::caps) (.bo (p x))):ACalls Tryz.prog 107 [bedsR l,.fn f caps] (i64 (indexF p l)):=by
 refine zas (rs:=[i64 (indexF p l)]) [.tmp 4] Tryz.func107 rfl (by kernel_rfl) Tryz.ntmps107 rfl (by simp) rfl fun C vs=>?_
 apply zq
 refine zb fun K hK=>?_;simp only[go_sem];apply hK
 repeat apply zq
 refine zb fun K hK=>?_;simp only[go_sem]
 intro hl
 apply hK;apply zd
 refine zup (n:=19) l.length (fun i vs=>[(0,.r (bedsR l)),(1,.r (.fn f caps)),(7,.r (i64 l.length)),(8,.r (i64 i))]) (fun _=>[])
  (fun i=>indexF p l=if indexF p (l.drop i)<0 then -1 else i+indexF p (l.drop i)) 0 (zfo [] ?_ rfl) (Nat.zero_le _) ?_ ?_
 ·try simp only[go_sem]
 ·simp only[List.drop_zero]
  have:=indexF_ge p l
  split
  ·omega
  ·simp
 ·intro i vs hi hI
  apply zq
  refine zb fun K hK=>?_;simp only[go_sem];apply hK
  apply zq
  apply zc rfl<;>intro hc<;>(try simp only[go_sem] at hc)
  ·obtain⟨x,hx⟩:=zol hc
   rw[drop_of_opt hx] at hI
   apply zx
   apply zq
   apply zd
   apply zq
   refine zb fun K hK=>?_;simp only[go_sem];apply hK
   apply zq
   refine zb fun K hK=>?_;simp only[go_sem,hx,hc,bedR,aimR]
   refine zh (h x (zmo hx)) rfl (by simp only[go_sem,i64,ints]) (by simp only[go_sem,i64,ints]) ?_
   (try simp only[go_sem]);apply hK
   apply zc rfl<;>intro hc<;>(try simp only[go_sem] at hc)
   ·apply zq
    refine zb fun K hK=>?_;simp only[go_sem];apply hK;apply ze;simp only[go_sem]
    simp [hI,indexF,hc]
   ·apply zx
    try simp only[go_sem]
    refine zb fun K hK=>?_;simp only[go_sem];(try simp (disch:=omega) only[zI]);apply hK
    try simp only[go_sem]
    refine⟨‹_›,?_,zfo [] ?_ rfl⟩
    ·rw[hI]
     simp only[indexF,hc,Bool.false_eq_true,if_false]
     have:=indexF_ge p (l.drop (i+1))
     (repeat' split)<;>omega
    ·try simp only[go_sem]
  ·apply zf;simp only[go_sem]
   apply zq
   refine zb fun K hK=>?_;simp only[go_sem];apply hK;apply ze;simp only[go_sem]
   have:l.drop i=[]:=List.drop_eq_nil_of_le (by omega)
   simp [hI,this,indexF]
theorem containsB_ok (p:Bd→Bool) (f:Nat) (caps:List RV) (l:List Bd) (h:∀ x∈l,ACalls Tryz.prog f (bedV x::caps) (.bo (p x))):ACalls Tryz.prog 90 [bedsR l,.fn f caps] (.bo (l.any p)):=by
 refine zas (rs:=[.bo (l.any p)]) [.tmp 4] Tryz.func90 rfl (by kernel_rfl) Tryz.ntmps90 rfl (by simp) rfl fun C vs=>?_
 apply zq
 refine zb fun K hK=>?_;simp only[go_sem];apply hK
 apply zq
 refine zb fun K hK=>?_;simp only[go_sem]
 refine zh (indexB_ok p f caps l h) rfl (by simp only[go_sem,i64,ints]) (by simp only[go_sem,i64,ints]) ?_
 (try simp only[go_sem]);apply hK;apply ze;simp only[go_sem];rw[← indexF_any]
theorem indexA_ok (p:Am→Bool) (f:Nat) (caps:List RV) (l:List Am) (h:∀ x∈l,ACalls Tryz.prog f (aimV x::caps) (.bo (p x))):ACalls Tryz.prog 89 [aimsR l,.fn f caps] (i64 (indexF p l)):=by
 refine zas (rs:=[i64 (indexF p l)]) [.tmp 4] Tryz.func89 rfl (by kernel_rfl) Tryz.ntmps89 rfl (by simp) rfl fun C vs=>?_
 apply zq
 refine zb fun K hK=>?_;simp only[go_sem];apply hK
 repeat apply zq
 refine zb fun K hK=>?_;simp only[go_sem]
 intro hl
 apply hK;apply zd
 refine zup (n:=19) l.length (fun i vs=>[(0,.r (aimsR l)),(1,.r (.fn f caps)),(7,.r (i64 l.length)),(8,.r (i64 i))]) (fun _=>[])
  (fun i=>indexF p l=if indexF p (l.drop i)<0 then -1 else i+indexF p (l.drop i)) 0 (zfo [] ?_ rfl) (Nat.zero_le _) ?_ ?_
 ·try simp only[go_sem]
 ·simp only[List.drop_zero]
  have:=indexF_ge p l
  split
  ·omega
  ·simp
 ·intro i vs hi hI
  apply zq
  refine zb fun K hK=>?_;simp only[go_sem];apply hK
  apply zq
  apply zc rfl<;>intro hc<;>(try simp only[go_sem] at hc)
  ·obtain⟨x,hx⟩:=zol hc
   rw[drop_of_opt hx] at hI
   apply zx
   apply zq
   apply zd
   apply zq
   refine zb fun K hK=>?_;simp only[go_sem];apply hK
   apply zq
   refine zb fun K hK=>?_;simp only[go_sem,hx,hc,bedR,aimR]
   refine zh (h x (zmo hx)) rfl (by simp only[go_sem,i64,ints]) (by simp only[go_sem,i64,ints]) ?_
   (try simp only[go_sem]);apply hK
   apply zc rfl<;>intro hc<;>(try simp only[go_sem] at hc)
   ·apply zq
    refine zb fun K hK=>?_;simp only[go_sem];apply hK;apply ze;simp only[go_sem]
    simp [hI,indexF,hc]
   ·apply zx
    try simp only[go_sem]
    refine zb fun K hK=>?_;simp only[go_sem];(try simp (disch:=omega) only[zI]);apply hK
    try simp only[go_sem]
    refine⟨‹_›,?_,zfo [] ?_ rfl⟩
    ·rw[hI]
     simp only[indexF,hc,Bool.false_eq_true,if_false]
     have:=indexF_ge p (l.drop (i+1))
     (repeat' split)<;>omega
    ·try simp only[go_sem]
  ·apply zf;simp only[go_sem]
   apply zq
   refine zb fun K hK=>?_;simp only[go_sem];apply hK;apply ze;simp only[go_sem]
   have:l.drop i=[]:=List.drop_eq_nil_of_le (by omega)
   simp [hI,this,indexF]
theorem containsA_ok (p:Am→Bool) (f:Nat) (caps:List RV) (l:List Am) (h:∀ x∈l,ACalls Tryz.prog f (aimV x::caps) (.bo (p x))):ACalls Tryz.prog 56 [aimsR l,.fn f caps] (.bo (l.any p)):=by
 refine zas (rs:=[.bo (l.any p)]) [.tmp 4] Tryz.func56 rfl (by kernel_rfl) Tryz.ntmps56 rfl (by simp) rfl fun C vs=>?_
 apply zq
 refine zb fun K hK=>?_;simp only[go_sem];apply hK
 apply zq
 refine zb fun K hK=>?_;simp only[go_sem]
 refine zh (indexA_ok p f caps l h) rfl (by simp only[go_sem,i64,ints]) (by simp only[go_sem,i64,ints]) ?_
 (try simp only[go_sem]);apply hK;apply ze;simp only[go_sem];rw[← indexF_any]
def bedOk (b:Int):Bool:=decide (b=125) || decide (b=225) || (decide (100≤b)&&decide (b≤499)&&decide (1≤b % 100)&&decide (b % 100≤20))
theorem tdivN {b:Int}(h:b≤0):b.tdiv 100 = -((-b) / 100):=by
 rw[← Int.tdiv_eq_ediv_of_nonneg (by omega),Int.neg_tdiv,Int.neg_neg]
theorem tdiv100 {b:Int}(h:I64 b):IntKind.i64.wrap (b.tdiv 100)=b.tdiv 100:=by
 unfold I64 at h
 by_cases h0:0≤b
 ·rw[Int.tdiv_eq_ediv_of_nonneg h0,zI]<;>omega
 ·rw[tdivN (by omega),zI]<;>omega
theorem tdiv_lt {b:Int}(h:b<100):b.tdiv 100≤0:=by
 by_cases h0:0≤b
 ·rw[Int.tdiv_eq_ediv_of_nonneg h0];omega
 ·rw[tdivN (by omega)];omega
theorem bedOk_within (b:Int):(withinL 1 4 [b.tdiv 100]&&withinL 1 20 [b.tmod 100] || b == 125 || b == 225)=bedOk b:=by
 unfold bedOk withinL
 by_cases h:b<100
 ·have h1:=tdiv_lt h
  have e1:decide (1≤b.tdiv 100)=false:=by simp;omega
  have e2:decide (100≤b)=false:=by simp;omega
  have e3:decide (b=125)=false:=by simp;omega
  have e4:decide (b=225)=false:=by simp;omega
  have e5:(b == 125)=false:=by simp;omega
  have e6:(b == 225)=false:=by simp;omega
  simp [e1,e2,e3,e4,e5,e6]
 ·rw[Int.tdiv_eq_ediv_of_nonneg (by omega),Int.tmod_eq_emod_of_nonneg (by omega)]
  have e:(decide (1≤b / 100)&&decide (b / 100≤4))=(decide (100≤b)&&decide (b≤499)):=by
   by_cases h2:b≤499
   ·have:b / 100≤4:=by omega
    have:1≤b / 100:=by omega
    have:100≤b:=by omega
    simp [*]
   ·have:¬ b / 100≤4:=by omega
    simp [*]
  simp only[List.all_cons,List.all_nil,Bool.and_true,e]
  have e1:(b == 125)=decide (b=125):=by rw[Bool.eq_iff_iff];simp
  have e2:(b == 225)=decide (b=225):=by rw[Bool.eq_iff_iff];simp
  rw[e1,e2]
  cases decide (b=125)<;>cases decide (b=225)<;>simp [Bool.and_assoc]
theorem isBed_ok (b:Int) (hb:I64 b):ACalls Tryz.prog 33 [i64 b] (.bo (bedOk b)):=by
 have hq:=tdiv100 hb
 refine zas (rs:=[.bo (bedOk b)]) [.tmp 2] Tryz.func33 rfl (by kernel_rfl) Tryz.ntmps33 rfl (by simp) rfl fun C vs=>?_
 repeat apply zq
 refine zb fun K hK=>?_;simp only[go_sem];(try simp (disch:=omega) only[zI]);repeat first|intro _|refine⟨by omega,?_⟩
 apply hK;clear hK K
 repeat apply zq
 refine zb fun K hK=>?_;simp only[go_sem,hq];(try simp (disch:=omega) only[zI]);repeat first|intro _|refine⟨by omega,?_⟩
 apply hK;clear hK K
 repeat apply zq
 refine zb fun K hK=>?_;simp only[go_sem];(try simp (disch:=omega) only[zI])
 refine zh (within_ok 1 4 [b.tdiv 100]) rfl (by simp only[go_sem,i64,ints]) (by simp only[go_sem,i64,ints]) ?_
 (try simp only[go_sem]);(try simp (disch:=omega) only[zI])
 have hw:=bedOk_within b
 refine⟨fun h1=>?_,fun h1=>?_⟩
 ·refine zh (within_ok 1 20 [b.tmod 100]) rfl (by simp only[go_sem,i64,ints]) (by simp only[go_sem,i64,ints]) ?_
  (try simp only[go_sem]);(try simp (disch:=omega) only[zI])
  repeat' first|intro _|refine And.intro ?_ ?_
  all_goals first|omega|skip
  all_goals (refine hK _ ?_;clear hK K)
  all_goals (apply ze;simp only[go_sem])
  all_goals (rw[← hw];clear hw;simp [*])
 ·repeat' first|intro _|refine And.intro ?_ ?_
  all_goals first|omega|skip
  all_goals (refine hK _ ?_;clear hK K)
  all_goals (apply ze;simp only[go_sem])
  all_goals (rw[← hw];clear hw;simp [*])
def scoreOf (b:Int):Int:=b / 100*(b % 100)
theorem score_le {b:Int}(h0:0≤b) (h1:b≤499):0≤scoreOf b∧scoreOf b≤396:=by
 unfold scoreOf
 have h2:0≤b / 100:=by omega
 have h3:b / 100≤4:=by omega
 refine⟨Int.mul_nonneg h2 (by omega),?_⟩
 have:=Int.mul_le_mul h3 (show b % 100≤99 by omega) (by omega) (by omega)
 omega
theorem score_mul {b:Int}(h0:0≤b) (h1:b≤499):IntKind.i64.wrap (b.tdiv 100*b.tmod 100)=scoreOf b:=by
 have:=score_le h0 h1
 rw[Int.tdiv_eq_ediv_of_nonneg h0,Int.tmod_eq_emod_of_nonneg h0]
 show IntKind.i64.wrap (scoreOf b)=_
 rw[zI]<;>omega
def loS (l:List Bd):Int:=(l.map (·.lo)).sum
def hiS (l:List Bd):Int:=(l.map (·.hi)).sum
theorem loS_snoc (l:List Bd) (x:Bd):loS (l++[x])=loS l+x.lo:=by simp [loS]
theorem hiS_snoc (l:List Bd) (x:Bd):hiS (l++[x])=hiS l+x.hi:=by simp [hiS]
def Small (l:List Bd):Prop:=∀ x∈l,(0≤x.lo∧x.lo≤6000)∧0≤x.hi∧x.hi≤6000
theorem sums_le:∀ {l:List Bd},Small l→(0≤loS l∧loS l≤6000*l.length)∧0≤hiS l∧hiS l≤6000*l.length
 | [],_=>by simp [loS,hiS]
 | x::l, h=>by
   have h1:=h x (by simp)
   have h2:=sums_le (l:=l) fun y hy=>h y (by simp [hy])
   simp only[loS,hiS,List.map_cons,List.sum_cons,List.length_cons] at h2 ⊢
   omega
theorem Small.take {l:List Bd}(h:Small l) (i:Nat):Small (l.take i):=fun x hx=>h x (List.mem_of_mem_take hx)
theorem sums_ok (a:Int) (l:List Bd) (d:Int) (hs:Small l) (hl:l.length≤1000):ACalls Tryz.prog 92 [.ag [i64 a,bedsR l,i64 d]] (.ag [i64 (loS l),i64 (hiS l)]):=by
 refine zas (rs:=[.ag [i64 (loS l),i64 (hiS l)]]) [.cell 2 37] Tryz.func92 rfl (by kernel_rfl) Tryz.ntmps92 rfl (by simp) rfl fun C vs=>?_
 apply zq
 refine zb fun K hK=>?_;simp only[go_sem];apply hK;apply zw (zk [1,2]);simp only[go_sem]
 repeat apply zq
 refine zb fun K hK=>?_;simp only[go_sem]
 intro _
 apply hK;apply zw (zk [2,7,8,9]);simp only[go_sem];apply zd
 refine zup (n:=29) l.length (fun i vs=>[(2,.pt 2 (vs 2) 0),(7,.r (bedsR l)),(8,.r (i64 l.length)),(9,.r (i64 i))])
  (fun i=>[(2,.box [.r (i64 (loS (l.take i))),.r (i64 (hiS (l.take i)))])]) (fun _=>True) 0 (zfo [1] ?_ ?_) (Nat.zero_le _) trivial ?_
 ·try simp only[go_sem]
 ·try simp only[go_sem]
  simp [loS,hiS]
 ·intro i vs hi _
  apply zq
  refine zb fun K hK=>?_;simp only[go_sem];apply hK
  apply zq
  apply zc rfl<;>intro hc<;>(try simp only[go_sem] at hc)
  ·obtain⟨x,hx⟩:=zol hc
   have hb:=sums_le (hs.take (i+1))
   have ht:=zto hx
   have hlt:(l.take (i+1)).length≤1000:=by rw[List.length_take];omega
   rw[ht,loS_snoc,hiS_snoc] at hb
   rw[ht] at hlt
   apply zx
   apply zq
   apply zd
   apply zq
   refine zb fun K hK=>?_;simp only[go_sem,hx,hc,bedR];apply hK;apply zw (zk [2,4,7,8,9]);simp only[go_sem]
   refine awp_dreg2 [(2,some 2),(4,some 4)] follows (by decide +kernel) (by kernel_rfl) (by simp only[keysOk,List.mem_cons,List.not_mem_nil,forall_eq_or_imp,Oc.keyOf,go_sem];simp) fun K hK=>?_
   simp only[go_sem];(try simp (disch:=omega) only[zI]);apply hK;apply zw (zk [2,7,8,9]);simp only[go_sem];refine zb fun K hK=>?_;simp only[go_sem];(try simp (disch:=omega) only[zI]);apply hK
   try simp only[go_sem]
   refine⟨hc,zfo [4] ?_ ?_⟩
   ·try simp only[go_sem]
   ·try simp only[go_sem]
    rw[ht,loS_snoc,hiS_snoc]
  ·apply zf;simp only[go_sem]
   apply zq
   refine zb fun K hK=>?_;simp only[go_sem];apply hK;apply zw (zk [2]);simp only[go_sem];apply ze;simp only[go_sem]
   have:l.take i=l:=List.take_of_length_le (by omega)
   simp [this]
def seqOk:Option Int→List Bd→Bool
 | _,[]=>true
 | p,x::l=>(decide (x.b=0) || bedOk x.b)&&(match p with|none=>true|some q=>decide (q<x.b))&&seqOk (some x.b) l
def prevB (l:List Bd):Nat→Option Int
 | 0=>none
 | i+1=>(l[i]?).map (·.b)
def Wf (l:List Bd):Prop:=∀ x∈l,I64 x.b∧I64 x.lo∧I64 x.hi
theorem areBeds_ok (a:Int) (l:List Bd) (d:Int) (ha:I64 a) (hw:Wf l):ACalls Tryz.prog 15 [.ag [i64 a,bedsR l,i64 d]] (.bo (bedOk a && !l.isEmpty&&seqOk none l)):=by
 refine zas (rs:=[.bo (bedOk a && !l.isEmpty&&seqOk none l)]) [.tmp 2] Tryz.func15 rfl (by kernel_rfl) Tryz.ntmps15 rfl (by simp) rfl fun C vs=>?_
 apply zq
 refine zb fun K hK=>?_;simp only[go_sem];apply hK;apply zw (zk [1]);simp only[go_sem]
 repeat apply zq
 refine zb fun K hK=>?_;simp only[go_sem]
 refine zh (isBed_ok a ha) rfl (by simp only[go_sem,i64,ints]) (by simp only[go_sem,i64,ints]) ?_
 (try simp only[go_sem])
 cases hA:bedOk a
 ·try simp only[go_sem]
  apply hK
  apply zc rfl<;>intro hc<;>(try simp only[go_sem] at hc)
  apply zq
  refine zb fun K hK=>?_;simp only[go_sem];apply hK;apply ze;simp only[go_sem]
  simp [hA]
 try simp only[go_sem]
 intro _
 cases hE:l.isEmpty
 case true =>
  have h0:l=[]:=List.isEmpty_iff.1 hE
  subst h0
  try simp only[go_sem]
  apply hK
  apply zc rfl<;>intro hc<;>(try simp only[go_sem] at hc)
  apply zq
  refine zb fun K hK=>?_;simp only[go_sem];apply hK;apply ze;simp only[go_sem]
  simp
 have hne:((l.length:Int) == 0)=false:=by
  cases l with
  | nil=>simp at hE
  | cons=>simp;omega
 rw[hne]
 apply hK;apply zw (zk [1,16]);simp only[go_sem]
 apply zc rfl<;>intro hc<;>(try simp only[go_sem] at hc)
 apply zx
 try simp only[go_sem]
 repeat apply zq
 refine zb fun K hK=>?_;simp only[go_sem]
 intro hl9
 apply hK;apply zw (zk [1,19,20,21]);simp only[go_sem];apply zd
 refine zup (n:=53) l.length (fun i vs=>[(1,.pt 1 (vs 1) 0),(19,.r (bedsR l)),(20,.r (i64 l.length)),(21,.r (i64 i))])
  (fun i=>[(1,.box [.r (i64 a),.r (bedsR l),.r (i64 d)])]) (fun i=>seqOk none l=seqOk (prevB l i) (l.drop i)) 0 (zfo [] ?_ ?_) (Nat.zero_le _) rfl ?_
 ·try simp only[go_sem]
 ·try simp only[go_sem]
 ·intro i vs hi hI
  apply zq
  refine zb fun K hK=>?_;simp only[go_sem];apply hK
  apply zq
  apply zc rfl<;>intro hc<;>(try simp only[go_sem] at hc)
  ·obtain⟨x,hx⟩:=zol hc
   rw[drop_of_opt hx] at hI
   obtain⟨hxb,_,_⟩:=hw x (zmo hx)
   have hB:ACalls Tryz.prog 33 [i64 x.b] (.bo (bedOk x.b)):=isBed_ok x.b hxb
   apply zx
   apply zq
   apply zd
   apply zq
   refine zb fun K hK=>?_;simp only[go_sem,hx,hc,bedR];apply hK;apply zw (zk [1,3,4,19,20,21]);simp only[go_sem]
   have hp:∀ q,prevB l i=some q→∃ y j,i=j+1∧l[j]? = some y∧q=y.b:=fun q hq=>by
    cases i with
    | zero=>cases hq
    | succ j =>
      obtain⟨y,hy⟩:=zol (l:=l) (i:=j) (by omega)
      simp only[prevB,hy,Option.map_some,Option.some.injEq] at hq
      exact⟨y,j,rfl,hy,hq.symm⟩
   cases hb0:decide (x.b=0) || bedOk x.b
   ·have h0:(x.b != 0)=true:=by simp_all
    have h1:bedOk x.b=false:=by simp_all
    rw[h1] at hB
    apply zq
    refine awp_dreg2 [(1,some 1),(3,none),(4,some 4)] follows (by decide +kernel) (by kernel_rfl) (by simp only[keysOk,List.mem_cons,List.not_mem_nil,forall_eq_or_imp,Oc.keyOf,go_sem];simp) fun K hK=>?_
    simp only[go_sem,h0]
    refine zh (hB) rfl (by simp only[go_sem,i64,ints]) (by simp only[go_sem,i64,ints]) ?_
    (try simp only[go_sem]);apply hK;apply zw (zk [1,19,20,21,51]);simp only[go_sem]
    apply zc rfl<;>intro hc<;>(try simp only[go_sem] at hc)
    apply zq
    refine zb fun K hK=>?_;simp only[go_sem];apply hK;apply ze;simp only[go_sem]
    simp [hI,seqOk,hb0]
   have hnx:prevB l (i+1)=some x.b:=by simp [prevB,hx]
   have hstep:seqOk none l=((match prevB l i with|none=>true|some q=>decide (q<x.b))&&seqOk (prevB l (i+1)) (l.drop (i+1))):=by
    rw[hI,hnx]
    simp only[seqOk,hb0,Bool.true_and]
   cases i with
   | zero =>
     have hp0:seqOk none l=seqOk (prevB l 1) (l.drop 1):=by simpa [prevB] using hstep
     by_cases h0:x.b=0
     ·have e0:(x.b != 0)=false:=by simp [h0]
      apply zq
      refine awp_dreg2 [(1,some 1),(3,none),(4,some 4)] follows (by decide +kernel) (by kernel_rfl) (by simp only[keysOk,List.mem_cons,List.not_mem_nil,forall_eq_or_imp,Oc.keyOf,go_sem];simp) fun K hK=>?_
      simp only[go_sem,e0];apply hK;apply zw (zk [1,19,20,21,51]);simp only[go_sem]
      apply zc rfl<;>intro hc<;>(try simp only[go_sem] at hc)
      apply zx
      try simp only[go_sem]
      refine zb fun K hK=>?_;simp only[go_sem];(try simp (disch:=omega) only[zI]);apply hK
      try simp only[go_sem]
      exact⟨by omega,hp0,zfo [4] (by try simp only[go_sem]) (by try simp only[go_sem])⟩
     ·have e0:(x.b != 0)=true:=by simp [h0]
      have e1:bedOk x.b=true:=by simpa [h0] using hb0
      rw[e1] at hB
      apply zq
      refine awp_dreg2 [(1,some 1),(3,none),(4,some 4)] follows (by decide +kernel) (by kernel_rfl) (by simp only[keysOk,List.mem_cons,List.not_mem_nil,forall_eq_or_imp,Oc.keyOf,go_sem];simp) fun K hK=>?_
      simp only[go_sem,e0]
      refine zh (hB) rfl (by simp only[go_sem,i64,ints]) (by simp only[go_sem,i64,ints]) ?_
      (try simp only[go_sem]);apply hK;apply zw (zk [1,19,20,21,51]);simp only[go_sem]
      apply zc rfl<;>intro hc<;>(try simp only[go_sem] at hc)
      apply zx
      try simp only[go_sem]
      refine zb fun K hK=>?_;simp only[go_sem];(try simp (disch:=omega) only[zI]);apply hK
      try simp only[go_sem]
      exact⟨by omega,hp0,zfo [4] (by try simp only[go_sem]) (by try simp only[go_sem])⟩
   | succ j =>
     obtain⟨y,hy⟩:=zol (l:=l) (i:=j) (by omega)
     have hpy:prevB l (j+1)=some y.b:=by simp [prevB,hy]
     rw[hpy] at hstep
     have hj1:IntKind.i64.wrap ((j:Int)+1-1)=(j:Int):=by rw[zI]<;>omega
     have hj2:j<l.length:=by omega
     have hj0:(0<(j:Int)+1)=True:=by simp
     have go:∀ (e:Bool),decide (x.b≤y.b)=e→(e=true→seqOk none l=false)∧(e=false→seqOk none l=seqOk (prevB l (j+1+1)) (l.drop (j+1+1))):=fun e he=>by
      refine⟨fun h=>?_,fun h=>?_⟩
      ·have:decide (y.b<x.b)=false:=by simp_all
       rw[hstep];simp [this]
      ·have:decide (y.b<x.b)=true:=by simp_all
       rw[hstep];simp [this]
     obtain⟨go1,go2⟩:=go _ rfl
     by_cases h0:x.b=0
     ·have e0:(x.b != 0)=false:=by simp [h0]
      apply zq
      refine awp_dreg2 [(1,some 1),(3,none),(4,some 4)] follows (by decide +kernel) (by kernel_rfl) (by simp only[keysOk,List.mem_cons,List.not_mem_nil,forall_eq_or_imp,Oc.keyOf,go_sem];simp) fun K hK=>?_
      simp only[go_sem,e0,hj1,hj0,hy,bedR]
      refine⟨by omega,?_⟩
      apply hK;apply zw (zk [1,19,20,21,51]);simp only[go_sem]
      cases hle:decide (x.b≤y.b)
      ·skip
       apply zc rfl<;>intro hc<;>(try simp only[go_sem] at hc)
       apply zx
       try simp only[go_sem]
       refine zb fun K hK=>?_;simp only[go_sem];(try simp (disch:=omega) only[zI]);apply hK
       try simp only[go_sem]
       exact⟨by omega,go2 hle,zfo [4] (by try simp only[go_sem]) (by try simp only[go_sem])⟩
      ·skip
       apply zc rfl<;>intro hc<;>(try simp only[go_sem] at hc)
       apply zq
       refine zb fun K hK=>?_;simp only[go_sem];apply hK;apply ze;simp only[go_sem]
       simp [go1 hle]
     ·have e0:(x.b != 0)=true:=by simp [h0]
      have e1:bedOk x.b=true:=by simpa [h0] using hb0
      rw[e1] at hB
      apply zq
      refine awp_dreg2 [(1,some 1),(3,none),(4,some 4)] follows (by decide +kernel) (by kernel_rfl) (by simp only[keysOk,List.mem_cons,List.not_mem_nil,forall_eq_or_imp,Oc.keyOf,go_sem];simp) fun K hK=>?_
      simp only[go_sem,e0,hj1,hj0,hy,bedR]
      refine zh (hB) rfl (by simp only[go_sem,i64,ints,hj1,hj0,hy,bedR]) (by simp only[go_sem,i64,ints,hj1,hj0,hy,bedR]) ?_
      (try simp only[go_sem,hj1,hj0,hy,bedR])
      refine⟨by omega,?_⟩
      apply hK;apply zw (zk [1,19,20,21,51]);simp only[go_sem]
      cases hle:decide (x.b≤y.b)
      ·skip
       apply zc rfl<;>intro hc<;>(try simp only[go_sem] at hc)
       apply zx
       try simp only[go_sem]
       refine zb fun K hK=>?_;simp only[go_sem];(try simp (disch:=omega) only[zI]);apply hK
       try simp only[go_sem]
       exact⟨by omega,go2 hle,zfo [4] (by try simp only[go_sem]) (by try simp only[go_sem])⟩
      ·skip
       apply zc rfl<;>intro hc<;>(try simp only[go_sem] at hc)
       apply zq
       refine zb fun K hK=>?_;simp only[go_sem];apply hK;apply ze;simp only[go_sem]
       simp [go1 hle]
  ·apply zf;simp only[go_sem]
   apply zq
   refine zb fun K hK=>?_;simp only[go_sem];apply hK;apply zw (zk [2]);simp only[go_sem];apply ze;simp only[go_sem]
   have:l.drop i=[]:=List.drop_eq_nil_of_le (by omega)
   have h0:l≠[]:=fun e=>by rw[e] at hE;simp at hE
   simp [hI,this,seqOk,hA,h0]
def badCh (d:Int) (x:Bd):Bool:=!withinL 0 d [x.lo,x.hi] || decide (x.hi<x.lo)
theorem valid1_ok (a:Int) (l:List Bd) (d:Int) (x:Bd):ACalls Tryz.prog 91 [bedV x,.rp [i64 a,bedsR l,i64 d]] (.bo (badCh d x)):=by
 refine zas (rs:=[.bo (badCh d x)]) [.tmp 3] Tryz.func91 rfl (by kernel_rfl) Tryz.ntmps91 rfl (by simp) rfl fun C vs=>?_
 apply zq
 refine zb fun K hK=>?_;simp only[go_sem];apply hK;clear hK K
 apply zq
 refine zb fun K hK=>?_;simp only[go_sem]
 refine zh (within_ok 0 d [x.lo,x.hi]) rfl (by simp only[go_sem,i64,ints]) (by simp only[go_sem,i64,ints]) ?_
 (try simp only[go_sem])
 refine⟨fun h=>?_,fun h=>?_⟩
 ·skip
  apply hK;clear hK K;apply ze;simp only[go_sem]
  simp [badCh,h]
 ·skip
  apply hK;clear hK K;apply ze;simp only[go_sem]
  simp [badCh,h]
def chOk (d:Int) (l:List Bd):Bool:=l.all fun x=>decide (0≤x.lo)&&decide (x.lo≤x.hi)&&decide (x.hi≤d)
theorem badCh_eq (d:Int) (l:List Bd):(!(l.any (badCh d)))=chOk d l:=by
 unfold chOk
 rw[List.not_any_eq_all_not]
 congr 1
 funext x
 unfold badCh withinL
 simp only[List.all_cons,List.all_nil,Bool.and_true]
 by_cases h1:0≤x.lo<;>by_cases h2:x.lo≤d<;>by_cases h3:0≤x.hi<;>by_cases h4:x.hi≤d<;>by_cases h5:x.hi<x.lo<;>by_cases h6:x.lo≤x.hi<;>simp [h1,h2,h3,h4,h5,h6]<;>omega
theorem chOk_small {d:Int}{l:List Bd}(h:chOk d l=true) (hd:d≤6000):Small l:=fun x hx=>by
 have:=List.all_eq_true.1 h x hx
 simp only[Bool.and_eq_true,decide_eq_true_eq] at this
 omega
def aimOk (d:Int) (a:Am):Bool:=bedOk a.at_ && !a.beds.isEmpty&&seqOk none a.beds&&chOk d a.beds&&decide (loS a.beds≤d)&&decide (d≤hiS a.beds)
def WfA (a:Am):Prop:=I64 a.at_∧Wf a.beds
theorem isValid_ok (a:Am) (d:Int) (hw:WfA a) (hd:d≤6000) (hl:a.beds.length≤1000):ACalls Tryz.prog 58 [chV a d] (.bo (aimOk d a)):=by
 refine zas (rs:=[.bo (aimOk d a)]) [.tmp 2] Tryz.func58 rfl (by kernel_rfl) Tryz.ntmps58 rfl (by simp) rfl fun C vs=>?_
 apply zq
 refine zb fun K hK=>?_;simp only[go_sem];apply hK;clear hK K;apply zw (zk [1]);simp only[go_sem]
 repeat apply zq
 refine zb fun K hK=>?_;simp only[go_sem]
 refine zh (areBeds_ok a.at_ a.beds d hw.1 hw.2) rfl (by simp only[go_sem,i64,ints]) (by simp only[go_sem,i64,ints]) ?_
 (try simp only[go_sem])
 cases h1:(bedOk a.at_ && !a.beds.isEmpty&&seqOk none a.beds)
 ·try simp only[go_sem]
  apply hK;clear hK K
  apply zc rfl<;>intro hc<;>(try simp only[go_sem] at hc)
  apply zq
  refine zb fun K hK=>?_;simp only[go_sem];apply hK;clear hK K;apply ze;simp only[go_sem]
  simp [aimOk,h1]
 try simp only[go_sem]
 refine zh (containsB_ok (badCh d) 91 [.rp [i64 a.at_,bedsR a.beds,i64 d]] a.beds fun x _=>valid1_ok a.at_ a.beds d x) rfl (by simp only[go_sem,i64,ints]) (by simp only[go_sem,i64,ints]) ?_
 (try simp only[go_sem]);apply hK;clear hK K;apply zw (zk [1,13]);simp only[go_sem]
 have h2:=badCh_eq d a.beds
 cases h3:a.beds.any (badCh d)
 ·rw[h3] at h2
  have h4:chOk d a.beds=true:=by simpa using h2.symm
  apply zc rfl<;>intro hc<;>(try simp only[go_sem] at hc)
  apply zx
  try simp only[go_sem]
  apply zq
  refine zb fun K hK=>?_;simp only[go_sem]
  refine zh (sums_ok a.at_ a.beds d (chOk_small h4 hd) hl) rfl (by simp only[go_sem,i64,ints]) (by simp only[go_sem,i64,ints]) ?_
  (try simp only[go_sem]);apply hK;clear hK K;apply zw (zk [1,3]);simp only[go_sem]
  apply zq
  refine zb fun K hK=>?_;simp only[go_sem]
  refine zh (within_ok (loS a.beds) (hiS a.beds) [d]) rfl (by simp only[go_sem,i64,ints]) (by simp only[go_sem,i64,ints]) ?_
  (try simp only[go_sem]);apply hK;clear hK K;apply ze;simp only[go_sem]
  simp [aimOk,h1,h4,withinL]
 ·rw[h3] at h2
  have h4:chOk d a.beds=false:=by simpa using h2.symm
  apply zc rfl<;>intro hc<;>(try simp only[go_sem] at hc)
  apply zq
  refine zb fun K hK=>?_;simp only[go_sem];apply hK;clear hK K;apply ze;simp only[go_sem]
  simp [aimOk,h4]
def enumA (d:Int) (l:List Am):List (List RV):=l.zipIdx.map fun x=>[i64 x.2,chV x.1 d]
theorem enumA_get {d:Int}{l:List Am}{i:Nat}{e:List RV}(h:(enumA d l)[i]? = some e):∃ x,l[i]? = some x∧e=[i64 i,chV x d]:=by
 simp only[enumA,List.getElem?_map,List.getElem?_zipIdx,Nat.zero_add] at h
 cases hx:l[i]? with
 | none=>rw[hx] at h;cases h
 | some x=>rw[hx] at h;simp only[Option.map_some,Option.some.injEq] at h;exact⟨x,rfl,h.symm⟩
theorem enumA_len {d:Int}{l:List Am}{e:List RV}(h:e∈enumA d l):e.length=2:=by
 obtain⟨i,hi⟩:=List.getElem?_of_mem h
 obtain⟨x,_,rfl⟩:=enumA_get hi
 rfl
theorem xcall_yield {n:Nat}{l:List (Nat × AV)}{vs:Nat→Nat}{cs:List (Nat × RowC)}{P:Program}{d:Option Nat}{ll:Nat}{z:Bool}{e:List RV}{rest:List (List RV)}{xs:List AV}{K:AS→Prop}(hrow:lookc cs 999 = .gh P ll z (some (e::rest)))
 (hp:AV.pureL xs=true) (he:snapVL (st n l vs cs).rows xs=e) (hfl:RV.flatL e=true∨z=false) (hK1:K ((st n l vs (insc cs 999 (.gh P ll z (some rest)))).put d (.r (.bo true)))) (hK2:K ((st n l vs (insc cs 999 (.gh P ll z none))).put d (.r (.bo false)))) :
 xcall P false (st n l vs cs) d (.r (.yl ll)) xs K:=by
 have hr:∀ c,(st n l vs cs).row 999 ⟨((st n l vs cs).rows 999).ver,c⟩=st n l vs (insc cs 999 c):=fun c=>by
  rw[row_st]
  congr 1
  exact upd_self vs 999
 exact .inr (.inl ⟨rfl,.inr (.inr (.inl ⟨ll,z,e,rest,rfl,hrow,hp,he▸leL_refl _,hfl,by rw[hr];exact hK1,by rw[hr];exact hK2⟩))⟩)
theorem all1_ok (d:Int) (l:List Am):ICalls Tryz.prog false 59 [.rp [i64 d,aimsR l]] (enumA d l):=by
 refine icalls_st Tryz.func59 rfl (by kernel_rfl) Tryz.ntmps59 rfl (by simp) fun C ll=>?_
 apply zq
 refine zb fun K hK=>?_;simp only[go_sem,argL]
 intro hl7
 apply hK;clear hK K;apply zw (zk [0,1,6,7,8]);simp only[go_sem];apply zd
 refine zup (n:=22) l.length (fun i vs=>[(0,.r (.yl ll)),(1,.r (.rp [i64 d,aimsR l])),(6,.r (aimsR l)),(7,.r (i64 l.length)),(8,.r (i64 i))])
  (fun i=>[(999,.gh Tryz.prog ll false (some ((enumA d l).drop i)))]) (fun _=>True) 0 (zfo [] ?_ ?_) (Nat.zero_le _) trivial ?_
 ·try simp only[go_sem]
 ·try simp only[go_sem]
 ·intro i vs hi _
  apply zq
  refine zb fun K hK=>?_;simp only[go_sem];apply hK;clear hK K
  apply zq
  apply zc rfl<;>intro hc<;>(try simp only[go_sem] at hc)
  ·obtain⟨x,hx⟩:=zol hc
   have hci:=hc
   have he:(enumA d l).drop i=[i64 i,chV x d]::(enumA d l).drop (i+1):=by
    refine drop_of_opt ?_
    simp [enumA,hx]
   apply zx
   apply zq
   apply zd
   apply zq
   refine zb fun K hK=>?_;simp only[go_sem,hx,hc,aimR];apply hK;clear hK K;apply zw (zk [0,1,3,4,6,7,8]);simp only[go_sem]
   apply zq
   refine zb fun K hK=>?_;simp only[go_sem]
   refine xcall_yield (e:=[i64 i,chV x d]) (rest:=(enumA d l).drop (i+1)) (by simp only[go_sem,he]) rfl (by simp only[go_sem]) (.inr rfl) ?_ ?_
   ·simp only[go_sem];apply hK;clear hK K;apply zw (zk [0,1,6,7,8,20]);simp only[go_sem]
    apply zc rfl<;>intro hc<;>(try simp only[go_sem] at hc)
    apply zx
    try simp only[go_sem]
    refine zb fun K hK=>?_;simp only[go_sem];(try simp (disch:=omega) only[zI]);apply hK;clear hK K
    try simp only[go_sem]
    exact⟨hci,zfo [4] (by try simp only[go_sem]) (by try simp only[go_sem])⟩
   ·simp only[go_sem];apply hK;clear hK K;apply zw (zk [20]);simp only[go_sem]
    apply zc rfl<;>intro hc<;>(try simp only[go_sem] at hc)
    apply ze;simp only[go_sem];exact⟨_,_,.inr rfl⟩
  ·apply zf;simp only[go_sem]
   have h0:(enumA d l).drop i=[]:=List.drop_eq_nil_of_le (by simp [enumA];omega)
   exact⟨ll,false,.inl (by simp only[go_sem,h0])⟩
theorem all_ok (d:Int) (l:List Am):ACalls Tryz.prog 30 [lawV d l] (.fn 59 [.rp [i64 d,aimsR l]]):=by
 refine zas (rs:=[.fn 59 [.rp [i64 d,aimsR l]]]) [.tmp 2] Tryz.func30 rfl (by kernel_rfl) Tryz.ntmps30 rfl (by simp) rfl fun C vs=>?_
 apply zq
 refine zb fun K hK=>?_;simp only[go_sem];apply hK;clear hK K
 apply zq
 refine zb fun K hK=>?_;simp only[go_sem];apply hK;clear hK K;apply ze;simp only[go_sem]
 simp [RV.le,leL_refl.le_refl,leL_refl]
theorem check1_ok (a:Am):ACalls Tryz.prog 57 [aimV a] (.bo (decide (10<a.beds.length))):=by
 refine zas (rs:=[.bo (decide (10<a.beds.length))]) [.tmp 2] Tryz.func57 rfl (by kernel_rfl) Tryz.ntmps57 rfl (by simp) rfl fun C vs=>?_
 apply zq
 refine zb fun K hK=>?_;simp only[go_sem];apply hK;clear hK K
 apply zq
 refine zb fun K hK=>?_;simp only[go_sem]
 intro _
 apply hK;clear hK K;apply ze;simp only[go_sem]
 simp
 omega
def checkV (d:Int) (l:List Am):Int :=
 if (decide (20<l.length) || l.any fun a=>decide (10<a.beds.length))=true then 5
 else if (l.isEmpty || !(decide (1≤d)&&decide (d≤3000)))=true then 2
 else if l.all (aimOk d)=true then 0 else 2
def WfL (d:Int) (l:List Am):Prop:=I64 d∧∀ a∈l,WfA a
theorem check_ok (d:Int) (l:List Am) (hw:WfL d l):ACalls Tryz.prog 29 [lawV d l] (i64 (checkV d l)):=by
 refine acalls_stR (rs:=[i64 (checkV d l)]) [.cell 2 45] Tryz.func29 rfl (by kernel_rfl) Tryz.ntmps29 rfl (by simp) rfl fun C hC vs=>?_
 apply zq
 refine zb fun K hK=>?_;simp only[go_sem];apply hK;clear hK K;apply zw (zk [1,2]);simp only[go_sem]
 repeat apply zq
 refine zb fun K hK=>?_;simp only[go_sem]
 intro hl8
 refine⟨fun h1=>?_,fun h1=>?_⟩
 rotate_left
 ·skip
  apply hK;clear hK K
  apply zc rfl<;>intro hc<;>(try simp only[go_sem] at hc)
  apply zq
  refine zb fun K hK=>?_;simp only[go_sem];apply hK;clear hK K;apply ze;simp only[go_sem]
  have h1':20<l.length:=by omega
  simp [checkV,h1']
 have h1':¬ 20<l.length:=by omega
 refine zh (containsA_ok (fun a=>decide (10<a.beds.length)) 57 [] l fun x _=>check1_ok x) rfl (by simp only[go_sem,i64,ints]) (by simp only[go_sem,i64,ints]) ?_
 (try simp only[go_sem]);apply hK;clear hK K;apply zw (zk [1,2,13]);simp only[go_sem]
 cases h2:l.any fun a=>decide (10<a.beds.length)
 case true =>
  apply zc rfl<;>intro hc<;>(try simp only[go_sem] at hc)
  apply zq
  refine zb fun K hK=>?_;simp only[go_sem];apply hK;clear hK K;apply ze;simp only[go_sem]
  simp [checkV,h2]
 have hlen:∀ a∈l,a.beds.length≤10:=fun a ha=>by
  have:=List.any_eq_false.1 h2 a ha
  simpa using this
 apply zc rfl<;>intro hc<;>(try simp only[go_sem] at hc)
 apply zx
 try simp only[go_sem]
 repeat apply zq
 refine zb fun K hK=>?_;simp only[go_sem]
 intro _
 have h12:(decide (20<l.length) || l.any fun a=>decide (10<a.beds.length))=false:=by simp only[h2,Bool.or_false];simpa using h1'
 have hV:checkV d l=if (l.isEmpty || !(decide (1≤d)&&decide (d≤3000)))=true then 2 else if l.all (aimOk d)=true then 0 else 2:=by
  unfold checkV
  rw[h12]
  rfl
 refine⟨fun h3=>?_,fun h3=>?_⟩
 rotate_left
 ·have h4:l=[]:=List.length_eq_zero_iff.1 (by omega)
  apply hK;clear hK K
  apply zc rfl<;>intro hc<;>(try simp only[go_sem] at hc)
  apply zq
  refine zb fun K hK=>?_;simp only[go_sem];apply hK;clear hK K;apply ze;simp only[go_sem];rw[hV,h4]
  rfl
 have h4:l.isEmpty=false:=by
  cases l with
  | nil=>simp at h3
  | cons=>rfl
 rw[h4,Bool.false_or] at hV
 refine zh (within_ok 1 3000 [d]) rfl (by simp only[go_sem,i64,ints]) (by simp only[go_sem,i64,ints]) ?_
 (try simp only[go_sem]);apply hK;clear hK K;apply zw (zk [1,2,24]);simp only[go_sem]
 have hwd:withinL 1 3000 [d]=(decide (1≤d)&&decide (d≤3000)):=by simp [withinL]
 rw[hwd]
 cases h5:(decide (1≤d)&&decide (d≤3000))
 ·skip
  apply zc rfl<;>intro hc<;>(try simp only[go_sem] at hc)
  apply zq
  refine zb fun K hK=>?_;simp only[go_sem];apply hK;clear hK K;apply ze;simp only[go_sem];rw[hV,h5]
  rfl
 rw[h5] at hV
 have hd:d≤6000:=by simp at h5;omega
 apply zc rfl<;>intro hc<;>(try simp only[go_sem] at hc)
 apply zx
 try simp only[go_sem]
 repeat apply zq
 refine zb fun K hK=>?_;simp only[go_sem]
 refine zh (all_ok d l) rfl (by simp only[go_sem,i64,ints]) (by simp only[go_sem,i64,ints]) ?_
 (try simp only[go_sem]);apply hK;clear hK K;apply zw (zk [2,26]);simp only[go_sem];apply zd
 refine awp_rangeF hC (enumA d l) (all1_ok d l) [2,26] (by decide) (fun vs=>[(2,.pt 2 (vs 2) 0),(26,.r (.fn 59 [.rp [i64 d,aimsR l]]))]) (fun i vs=>[(2,.box [.r (i64 0)])])
  (fun i=>(l.take i).all (aimOk d)=true) (zj [1] ?_ ?_) (by simp) (fun _=>rfl) (fun _=>rfl) (fun _ _=>rfl) (by simp) (fun e he=>enumA_len he) ?_ ?_
 ·try simp only[go_sem]
 ·try simp only[go_sem]
 ·intro i e vs us C he hI
  obtain⟨x,hx,rfl⟩:=enumA_get he
  refine zb fun K hK=>?_;simp only[go_sem];apply hK;clear hK K
  refine⟨rfl,fun C'=>?_⟩
  apply zw (zk [2,4,26]);simp only[go_sem];apply zd
  apply zq
  refine zb fun K hK=>?_;simp only[go_sem]
  refine zh (isValid_ok x d (hw.2 x (zmo hx)) hd (by have:=hlen x (zmo hx);omega)) rfl (by simp only[go_sem,i64,ints]) (by simp only[go_sem,i64,ints]) ?_
  (try simp only[go_sem]);apply hK;clear hK K;apply zw (zk [2,26,31]);simp only[go_sem]
  cases h6:aimOk d x
  ·skip
   apply zc rfl<;>intro hc<;>(try simp only[go_sem] at hc)
   apply zq
   refine zb fun K hK=>?_;simp only[go_sem];apply hK;clear hK K;apply ze;simp only[go_sem]
   refine rf_ret (by simp only[go_sem];rfl) ?_
   try simp only[go_sem]
   rw[hV]
   have:l.all (aimOk d)=false:=List.all_eq_false.2 ⟨x,zmo hx,by simp [h6]⟩
   rw[this]
   rfl
  ·skip
   apply zc rfl<;>intro hc<;>(try simp only[go_sem] at hc)
   apply zx
   try simp only[go_sem]
   refine⟨?_,zj (F:=fun _=>[]) [4] (by try simp only[go_sem]) (by try simp only[go_sem])⟩
   rw[zto hx];simp [hI,h6]
 ·intro vs us hI
  try simp only[go_sem]
  refine zw (sub_wake rfl) ?_
  apply zq
  refine zb fun K hK=>?_;simp only[go_sem];apply hK;clear hK K;apply ze;simp only[go_sem];rw[hV]
  have:(enumA d l).length=l.length:=by simp [enumA]
  rw[this,List.take_length] at hI
  rw[hI]
  rfl
end Go.Proofs.YtonpmcdkncbjoaaGreat.Du

namespace Go.Proofs.YtonpmcdkncbjoaaGreat.Du.Th
open Go Go.Oc
set_option maxRecDepth 8000
theorem score_ok (b:Int) (h0:0≤b) (h1:b≤499):ACalls Tryz.prog 31 [i64 b] (i64 (scoreOf b)):=by
 have hq:=tdiv100 (b:=b) ⟨by omega,by omega⟩
 have hm:=score_mul h0 h1
 refine zas (rs:=[i64 (scoreOf b)]) [.tmp 2] Tryz.func31 rfl (by kernel_rfl) Tryz.ntmps31 rfl (by simp) rfl fun C vs=>?_
 repeat apply zq
 refine zb fun K hK=>?_;simp only[go_sem];(try simp (disch:=omega) only[zI]);repeat first|intro _|refine⟨by omega,?_⟩
 apply hK
 repeat apply zq
 refine zb fun K hK=>?_;simp only[go_sem,hq,hm];(try simp (disch:=omega) only[zI]);repeat first|intro _|refine⟨by omega,?_⟩
 apply hK;apply ze;simp only[go_sem]
end Go.Proofs.YtonpmcdkncbjoaaGreat.Du.Th
