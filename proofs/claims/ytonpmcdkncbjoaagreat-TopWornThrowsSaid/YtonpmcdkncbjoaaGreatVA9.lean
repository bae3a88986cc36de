/- Part 9 of the texts of this claim. -/
import Derived.Test.YtonpmcdkncbjoaaGreatVA8
import Derived.Test.YtonpmcdkncbjoaaGreatVA5
import Derived.Test.YtonpmcdkncbjoaaGreatVA7
set_option linter.unusedSimpArgs false
set_option linter.unusedVariables false
namespace Go.Oc
open Go Go.RowKit
section
variable {P:Program}{C:Ctx}{p p1 p3:Plan}{s s1 s3:AS}{a a1 a3:Act}{w w1 w2 w3:World}{L:Nat}{R:Nat→Prop}
def ghAt (P:Program) (s:AS):Prop:=∃ l o,(s.rows 999).c = .gh P l false o
def ownY (C:Ctx) (p:Plan) (b:Nat):Prop:=∃ k,p.β k=some b∧¬ (1000≤k∧C.bor b)
def sinceY (C:Ctx) (p:Plan) (R:Nat→Prop) (n:Nat):XS:=C.X.since n (fun b=>p.R b∨R b∨ownY C p b) p.Ψ p.Θ
def CinY (C:Ctx) (p:Plan) (R:Nat→Prop) (w:World) (rd:Option Nat) (Hd:Nat→Prop):Ctx :=
 { w0:=w,R0:=fun b=>p.R b∨R b,bor:=fun b=>(C.bor b∧∃ k,1000≤k∧p.β k=some b)∨p.Θ b,pin:=C.pin,own:=ownY C p,X:=sinceY C p R w.heap.size,rd:=rd,hd:=Hd }
def planY (C:Ctx) (p:Plan) (R:Nat→Prop) (n:Nat):Plan:={ p with R:=fun b=>p.R b∨R b,X:=sinceY C p R n }
theorem SR.gh_of (h:SR C p s a w) {l:Nat}{o:Option (List (List RV))}(hg:(s.rows 999).c = .gh P l false o):C.X.l=l∧C.X.z=false∧YOk P C.X∧C.X.X o w p.Ψ p.Θ∧p.β 999=none∧p.γ 999=1:=by
 have hr:=h.rw 999
 rw[hg] at hr
 simp only[zrl] at hr
 rw[h.ex.px] at hr
 exact⟨hr.2.2.2.1,hr.2.2.2.2.1,hr.2.2.2.2.2.1,hr.2.2.2.2.2.2,hr.2.1,hr.2.2.1⟩
theorem SR.yr (h:SR C p s a w) (hz:C.X.z=false) {b:Nat}(hb:p.R b):C.X.R b∨C.X.n0≤b:=by
 rcases h.rn b hb with g|g|g
 ·exact .inl (h.ex.ψ0 hz b g)
 ·exact .inr (Nat.le_trans h.ex.n0 g)
 ·exact h.ex.ψo b g
theorem SR.yo (h:SR C p s a w) {b:Nat}(hb:ownY C p b):C.X.R b∨C.X.n0≤b:=by
 obtain⟨k,h1,h2⟩:=hb
 rcases (h.bl k b h1).2.2 with g|g|g
 ·exact .inr (Nat.le_trans h.ex.n0 g)
 ·exact (h2 g).elim
 ·exact h.ex.ψo b g
theorem SR.intoY (h:SR C p s a w) (hg:ghAt P s) (hos:w2.os=w.os) (htape:w2.tape=w.tape) (hout:w2.output=w.output) (hsize:w2.heap.size=w.heap.size) (hoth:∀ b,b≠L→w2.heap[b]? = w.heap[b]?)
 (hLR:¬ p.R L) (hLβ:∀ k,p.β k≠some L) (hLΨ:¬ p.Ψ L) (hR:∀ b,R b→b<w.heap.size∧(∀ k,p.β k≠some b)∧¬ p.Θ b∧(C.X.R b∨C.X.n0≤b)) {a':Act}{tm':Nat→AV}(htm:∀ t,(tm' t).rel w2 (planY C p R w2.heap.size) s.ver (a'.tmps.getD t undef))
 (hsz:a'.tmps.size=s.n) (hdf:a'.defers=[]) {rd:Option Nat}{Hd:Nat→Prop}(hHd:∀ b,Hd b→b<w.heap.size∧¬ C.bor b∧¬ p.R b∧¬ R b∧(∀ k,p.β k≠some b)∧¬ p.Ψ b∧¬ p.Θ b) :
 SR (CinY C p R w2 rd Hd) (planY C p R w2.heap.size) { s with tm:=tm' } a' w2:=by
 obtain⟨l,o,hg⟩:=hg
 obtain⟨g1,g2,g3,g4,g5,g6⟩:=h.gh_of hg
 have hk:Kept w w2 p (planY C p R w2.heap.size) s.ver s.ver :=
  ⟨fun _ h=>.inl h,fun ad hr=>World.cell?_of_block (hoth _ fun e=>hLR (e▸hr)),fun _=>Nat.le_refl _,fun _ _=>⟨rfl,rfl⟩⟩
 have hX2:C.X.X o w2 p.Ψ p.Θ:=C.X.st g4 hos htape hout (Nat.le_of_eq hsize.symm) (fun b hb=>hoth b fun e=>hLΨ (e▸hb))
 have hX3:(sinceY C p R w2.heap.size).X o w2 p.Ψ p.Θ:=⟨hX2,Nat.le_refl _,fun b h=>.inl h,fun b h=>.inl h⟩
 exact {
  base:=⟨rfl,rfl,rfl,Nat.le_refl _,fun _ _ _ _=>rfl⟩
  r0:=fun _ h=>h
  rn:=fun _ h=>.inl h
  rb:=fun b hb=>by rw[hsize];exact hb.elim (h.rb b) (fun hb=>(hR b hb).1)
  tm:=htm
  sz:=hsz
  ex:={
   px:=rfl
   n0:=Nat.le_refl _
   ψ0:=fun _ b hb=>hb.elim .inl fun hb=>.inr (.inl hb)
   ψl:=fun b hb=>by rw[hsize];exact h.ex.ψl b hb
   θl:=fun b hb=>by rw[hsize];exact h.ex.θl b hb
   ψb:=h.ex.ψb
   ψr:=fun b hb=>hb.elim (h.ex.ψr b) fun hb=>(hR b hb).2.2.1
   ψo:=fun b hb=>.inl (.inr (.inr hb))
   θo:=fun b hb _=>.inr hb
   bo:=fun b hb=>by
    show b<w2.heap.size
    rw[hsize]
    rcases hb with (⟨_,k,_,hk⟩|hb)|⟨k,hk,_⟩
    ·exact (h.bl k b hk).1
    ·exact h.ex.θl b hb
    ·exact (h.bl k b hk).1
   ψn:=fun hn=>(hn _ _ _ _ hX3).elim
   hd:=fun b hb=>by
    obtain⟨g1,g2,g3,g4,g5,g6,g7⟩:=hHd b hb
    exact⟨by show b<w2.heap.size;rw[hsize];exact g1,fun g=>g.elim (fun g=>g2 g.1) g7,fun ⟨k,g,_⟩=>g5 k g,by rw[hsize];exact g1,fun g=>g.elim g3 g4,g6,g7,g5⟩
   rm:=fun _=>hdf
   df:=⟨[],hdf,List.nodup_nil,fun D hD=>by cases hD⟩ }
  rw:=fun k=>by
   by_cases e:k=999
   ·subst e
    show zrl w2 _ s.ver 999 (s.rows 999).c
    rw[hg]
    simp only[zrl]
    refine⟨trivial,g5,g6,g1,g2,?_,hX3⟩
    refine g3.since (fun b hb=>?_) (Nat.le_trans h.ex.n0 (by rw[hsize];exact h.base.size))
    rcases hb with hb|hb|hb
    ·exact h.yr g2 hb
    ·exact (hR b hb).2.2.2
    ·exact h.yo hb
   ·exact rowRel_mono hk (.inl e) rfl rfl (fun b hb=>hoth b fun e=>hLβ k (e▸hb)) _ (fun km _ _ _ _ _ b hb=>hoth b fun e=>hLβ km (e▸hb)) (h.rw k)
  bl:=fun k b hb=>⟨by rw[hsize];exact (h.bl k b hb).1,fun hr=>hr.elim (h.bl k b hb).2.1 (fun hr=>(hR b hr).2.1 k hb),.inr (by
   by_cases e:1000≤k∧C.bor b
   ·exact .inl ⟨e.1,.inl ⟨e.2,k,e.1,hb⟩⟩
   ·exact .inr ⟨k,hb,e⟩)⟩
  ij:=h.ij
  cap:=h.cap
  pn:=h.pn
  lk:=h.lk }
structure HopY (C:Ctx) (p:Plan) (w:World) (L:Nat) (R:Nat→Prop) (p3:Plan) (w3:World):Prop where
 os:w3.os=w.os
 tape:w3.tape=w.tape
 output:w3.output=w.output
 size:w.heap.size≤w3.heap.size
 heap:∀ b,b<w.heap.size→(∀ k,p.β k≠some b)→¬ p.Θ b→b≠L→w3.heap[b]? = w.heap[b]?
 r:∀ b,p.R b→p3.R b
 rn:∀ b,p3.R b→p.R b∨R b∨w.heap.size≤b∨ownY C p b
 bl:∀ k b,p3.β k=some b→w.heap.size≤b∨(1000≤k∧C.bor b∧∃ k,1000≤k∧p.β k=some b)∨(1000≤k∧p.Θ b)∨ownY C p b
 psi:∀ b,p3.Ψ b→p.Ψ b∨p.R b∨R b∨ownY C p b∨w.heap.size≤b
 theta:∀ b,p3.Θ b→p.Θ b∨w.heap.size≤b
theorem HopY.of (hos:w2.os=w.os) (htape:w2.tape=w.tape) (hout:w2.output=w.output) (hsize:w2.heap.size=w.heap.size) (hoth:∀ b,b≠L→w2.heap[b]? = w.heap[b]?) {rd:Option Nat}{Hd:Nat→Prop}
 (h:SR (CinY C p R w2 rd Hd) p3 s3 a3 w3) (hg:ghAt P s3):HopY C p w L R p3 w3:=by
 obtain⟨l,o,hg⟩:=hg
 obtain⟨_,_,_,g4,_,_⟩:=h.gh_of hg
 obtain⟨_,g5,g6,g7⟩:=g4
 exact {
  os:=h.base.os.trans hos
  tape:=h.base.tape.trans htape
  output:=h.base.output.trans hout
  size:=hsize▸h.base.size
  heap:=fun b hb hn ht hl=>(h.base.block b (by show b<w2.heap.size;rw[hsize];exact hb) (fun g=>g.elim (fun ⟨_,k,_,hk⟩=>hn k hk) ht) (fun ⟨k,hk,_⟩=>hn k hk)).trans (hoth b hl)
  r:=fun b hb=>h.r0 b (.inl hb)
  rn:=fun b hb=>by
   rcases h.rn b hb with g|g|g
   ·exact g.elim .inl (fun g=>.inr (.inl g))
   ·exact .inr (.inr (.inl (by rw[← hsize];exact g)))
   ·exact .inr (.inr (.inr g))
  bl:=fun k b hb=>by
   rcases (h.bl k b hb).2.2 with g|⟨g1,⟨g2,k',g3,g4⟩|g2⟩|g
   ·exact .inl (by rw[← hsize];exact g)
   ·exact .inr (.inl ⟨g1,g2,k',g3,g4⟩)
   ·exact .inr (.inr (.inl ⟨g1,g2⟩))
   ·exact .inr (.inr (.inr g))
  psi:=fun b hb=>by
   rcases g6 b hb with g|g|g
   ·exact .inl g
   ·rcases g with g|g|g
    ·exact .inr (.inl g)
    ·exact .inr (.inr (.inl g))
    ·exact .inr (.inr (.inr (.inl g)))
   ·exact .inr (.inr (.inr (.inr (by rw[← hsize];exact g))))
  theta:=fun b hb=>by
   rcases g7 b hb with g|g
   ·exact .inl g
   ·exact .inr (by rw[← hsize];exact g) }
theorem HopY.trans (h:HopY C p w L R p1 w1) {C':Ctx}(hCb:∀ b,C'.bor b↔(C.bor b∧∃ k,1000≤k∧p.β k=some b)∨p.Θ b) (h':HopY C' p1 w1 L (fun _=>False) p3 w3):HopY C p w L R p3 w3:=by
 have hown:∀ b,ownY C' p1 b→w.heap.size≤b∨ownY C p b:=fun b ⟨k,g1,g2⟩=>by
  rcases h.bl k b g1 with g|⟨g3,g4,g5⟩|⟨g3,g4⟩|g
  ·exact .inl g
  ·exact (g2 ⟨g3,(hCb b).2 (.inl ⟨g4,g5⟩)⟩).elim
  ·exact (g2 ⟨g3,(hCb b).2 (.inr g4)⟩).elim
  ·exact .inr g
 exact {
  os:=h'.os.trans h.os
  tape:=h'.tape.trans h.tape
  output:=h'.output.trans h.output
  size:=Nat.le_trans h.size h'.size
  heap:=fun b hb hn ht hl=>by
   refine (h'.heap b (Nat.lt_of_lt_of_le hb h.size) (fun k hk=>?_) (fun g=>?_) hl).trans (h.heap b hb hn ht hl)
   ·rcases h.bl k b hk with g|⟨_,_,k',_,g⟩|⟨_,g⟩|⟨k',g,_⟩
    ·omega
    ·exact hn k' g
    ·exact ht g
    ·exact hn k' g
   ·rcases h.theta b g with g|g
    ·exact ht g
    ·omega
  r:=fun b hb=>h'.r b (h.r b hb)
  rn:=fun b hb=>by
   rcases h'.rn b hb with g|g|g|g
   ·exact h.rn b g
   ·exact g.elim
   ·exact .inr (.inr (.inl (Nat.le_trans h.size g)))
   ·rcases hown b g with q|q
    ·exact .inr (.inr (.inl q))
    ·exact .inr (.inr (.inr q))
  bl:=fun k b hb=>by
   rcases h'.bl k b hb with g|⟨g1,g2,_⟩|⟨g1,g2⟩|g
   ·exact .inl (Nat.le_trans h.size g)
   ·rcases (hCb b).1 g2 with q|q
    ·exact .inr (.inl ⟨g1,q⟩)
    ·exact .inr (.inr (.inl ⟨g1,q⟩))
   ·rcases h.theta b g2 with q|q
    ·exact .inr (.inr (.inl ⟨g1,q⟩))
    ·exact .inl q
   ·rcases hown b g with q|q
    ·exact .inl q
    ·exact .inr (.inr (.inr q))
  psi:=fun b hb=>by
   rcases h'.psi b hb with g|g|g|g|g
   ·exact h.psi b g
   ·rcases h.rn b g with q|q|q|q
    ·exact .inr (.inl q)
    ·exact .inr (.inr (.inl q))
    ·exact .inr (.inr (.inr (.inr q)))
    ·exact .inr (.inr (.inr (.inl q)))
   ·exact g.elim
   ·rcases hown b g with q|q
    ·exact .inr (.inr (.inr (.inr q)))
    ·exact .inr (.inr (.inr (.inl q)))
   ·exact .inr (.inr (.inr (.inr (Nat.le_trans h.size g))))
  theta:=fun b hb=>by
   rcases h'.theta b hb with g|g
   ·exact h.theta b g
   ·exact .inr (Nat.le_trans h.size g) }
theorem HopY.put (h:HopY C p w L R p3 w3) {o:Obj}:HopY C p w L R p3 (w3.putObj L o) where
 os:=h.os
 tape:=h.tape
 output:=h.output
 size:=by rw[World.putObj_size];exact h.size
 heap:=fun b hb hn ht hl=>(World.putObj_heap_other hl).trans (h.heap b hb hn ht hl)
 r:=h.r
 rn:=h.rn
 bl:=h.bl
 psi:=h.psi
 theta:=h.theta
theorem SR.landY (h0:SR C p s a w) (hg0:ghAt P s) (hL0:C.w0.heap.size≤L) (hLm:∀ d∈a.defers,d.target ≠ .collected L) (hop:HopY C p w L R p3 w3)
 (hR:∀ b,R b→b<w.heap.size∧(∀ d∈a.defers,d.target ≠ .collected b)∧¬ C.hd b∧(C.R0 b∨C.w0.heap.size≤b∨C.own b)) {C':Ctx}(hpin:C'.pin=C.pin) (hXX:∀ o w Ψ Θ,C'.X.X o w Ψ Θ→C.X.X o w Ψ Θ) (h3:SR C' p3 s3 a3 w2) (hg3:ghAt P s3)
 (hLR:¬ p3.R L) (hLβ:∀ k,p3.β k≠some L) (hLΨ:¬ p3.Ψ L) (hXl:C'.X.l=C.X.l)
 (hos:w3.os=w2.os) (htape:w3.tape=w2.tape) (hout:w3.output=w2.output) (hsize:w3.heap.size=w2.heap.size) (hoth:∀ b,b≠L→w3.heap[b]? = w2.heap[b]?) :
 SR C { p3 with X:=C.X } { n:=s.n,tm:=fun _=>.r .un,rows:=s3.rows } a w3:=by
 obtain⟨l0,o0,hg0⟩:=hg0
 obtain⟨f1,f2,f3,f4,f5,f6⟩:=h0.gh_of hg0
 obtain⟨l3,o3,hg3⟩:=hg3
 obtain⟨e1,e2,e3,e4,e5,e6⟩:=h3.gh_of hg3
 have hX3:C.X.X o3 w3 p3.Ψ p3.Θ:=C.X.st (hXX _ _ _ _ e4) hos htape hout (Nat.le_of_eq hsize.symm) (fun b hb=>hoth b fun e=>hLΨ (e▸hb))
 have hk:Kept w2 w3 p3 { p3 with X:=C.X } s3.ver s3.ver:=⟨fun _ h=>h,fun ad hr=>World.cell?_of_block (hoth _ fun e=>hLR (e▸hr)),fun _=>Nat.le_refl _,fun _ _=>⟨rfl,rfl⟩⟩
 have hβC:∀ k b,p3.β k=some b→C.w0.heap.size≤b∨(1000≤k∧C.bor b)∨C.own b:=fun k b hb=>by
  rcases hop.bl k b hb with g|⟨g1,g2,_⟩|⟨g1,g2⟩|⟨k',g1,g2⟩
  ·exact .inl (Nat.le_trans h0.base.size g)
  ·exact .inr (.inl ⟨g1,g2⟩)
  ·by_cases hlt:b<C.w0.heap.size
   ·exact .inr (.inl ⟨g1,h0.ex.θo b g2 hlt⟩)
   ·exact .inl (Nat.le_of_not_lt hlt)
  ·rcases (h0.bl k' b g1).2.2 with q|q|q
   ·exact .inl q
   ·exact (g2 q).elim
   ·exact .inr (.inr q)
 have hout':∀ b,b<w.heap.size→(∀ k,p.β k≠some b)→¬ p.Θ b→∀ k,p3.β k≠some b:=fun b hb hn ht k hk=>by
  rcases hop.bl k b hk with g|⟨_,_,k',_,g⟩|⟨_,g⟩|⟨k',g1,_⟩
  ·omega
  ·exact hn k' g
  ·exact ht g
  ·exact hn k' g1
 exact {
  base:=⟨hop.os.trans h0.base.os,hop.tape.trans h0.base.tape,hop.output.trans h0.base.output,Nat.le_trans h0.base.size hop.size,fun b hb hbor hown=>by
   refine (hop.heap b (Nat.lt_of_lt_of_le hb h0.base.size) (fun k hk=>?_) (fun g=>hbor (h0.ex.θo b g hb)) (fun e=>by omega)).trans (h0.base.block b hb hbor hown)
   rcases (h0.bl k b hk).2.2 with g|g|g
   ·omega
   ·exact hbor g.2
   ·exact hown g⟩
  r0:=fun b hb=>hop.r b (h0.r0 b hb)
  rn:=fun b hb=>by
   rcases hop.rn b hb with g|g|g|⟨k,g1,g2⟩
   ·exact h0.rn b g
   ·exact (hR b g).2.2.2
   ·exact .inr (.inl (Nat.le_trans h0.base.size g))
   ·rcases (h0.bl k b g1).2.2 with q|q|q
    ·exact .inr (.inl q)
    ·exact (g2 q).elim
    ·exact .inr (.inr q)
  rb:=fun b hb=>hsize▸h3.rb b hb
  tm:=fun t=>AV.rel_un _ _ _ _
  sz:=h0.sz
  ex:={
   px:=rfl
   n0:=h0.ex.n0
   ψ0:=h0.ex.ψ0
   ψl:=fun b hb=>hsize▸h3.ex.ψl b hb
   θl:=fun b hb=>hsize▸h3.ex.θl b hb
   ψb:=h3.ex.ψb
   ψr:=h3.ex.ψr
   ψo:=h0.ex.ψo
   θo:=fun b hb hlt=>by
    rcases hop.theta b hb with g|g
    ·exact h0.ex.θo b g hlt
    ·have:=h0.base.size;omega
   bo:=h0.ex.bo
   ψn:=fun hn=>(hn _ _ _ _ hX3).elim
   hd:=fun b hb=>by
    obtain⟨k1,k2,k3,k4,k5,k6,k7,k8⟩:=h0.ex.hd b hb
    refine⟨k1,k2,k3,Nat.lt_of_lt_of_le k4 hop.size,fun g=>?_,fun g=>?_,fun g=>?_,hout' b k4 k8 k7⟩
    ·rcases hop.rn b g with g|g|g|⟨k,g,_⟩
     ·exact k5 g
     ·exact (hR b g).2.2.1 hb
     ·omega
     ·exact k8 k g
    ·rcases hop.psi b g with g|g|g|⟨k,g,_⟩|g
     ·exact k6 g
     ·exact k5 g
     ·exact (hR b g).2.2.1 hb
     ·exact k8 k g
     ·omega
    ·rcases hop.theta b g with g|g
     ·exact k7 g
     ·omega
   rm:=h0.ex.rm
   df:=by
    obtain⟨Ds,g1,g2,g3⟩:=h0.ex.df
    refine⟨Ds,g1,g2,fun D hD=>?_⟩
    have hmem:({ target:=.collected D,args:=#[] }:Deferred)∈a.defers:=by rw[g1];exact List.mem_map.2 ⟨D,hD,rfl⟩
    obtain⟨k1,k2,k3,k4,k5,k6⟩:=g3 D hD
    have hlt:D<w.heap.size:=(Array.getElem?_eq_some_iff.1 k1).1
    refine⟨(hop.heap D hlt k4 k6 fun e=>hLm _ hmem (by rw[e])).trans k1,k2,fun g=>?_,hout' D hlt k4 k6,fun g=>?_,fun g=>?_⟩
    ·rcases hop.rn D g with g|g|g|⟨k,g,_⟩
     ·exact k3 g
     ·exact (hR D g).2.1 _ hmem rfl
     ·omega
     ·exact k4 k g
    ·rcases hop.psi D g with g|g|g|⟨k,g,_⟩|g
     ·exact k5 g
     ·exact k3 g
     ·exact (hR D g).2.1 _ hmem rfl
     ·exact k4 k g
     ·omega
    ·rcases hop.theta D g with g|g
     ·exact k6 g
     ·omega }
  rw:=fun k=>by
   by_cases e:k=999
   ·subst e
    show zrl w3 _ s3.ver 999 (s3.rows 999).c
    rw[hg3]
    simp only[zrl];exact⟨trivial,e5,e6,hXl.symm.trans e1,f2,f3,hX3⟩
   ·exact rowRel_mono hk (.inl e) rfl rfl (fun b hb=>hoth b fun e=>hLβ k (e▸hb)) _ (fun km _ _ _ _ _ b hb=>hoth b fun e=>hLβ km (e▸hb)) (h3.rw k)
  bl:=fun k b hb=>⟨by rw[hsize];exact (h3.bl k b hb).1,(h3.bl k b hb).2.1,hβC k b hb⟩
  ij:=h3.ij
  cap:=h3.cap
  pn:=fun k x hx=>h3.pn k x (by rw[hpin];exact hx)
  lk:=h3.lk }
def rpostY (P:Program) (n:Nat) (I:List (List RV)→List Value→AS→Prop) (J:Code→List Value→AS→Prop) (rest:List (List RV)) (us:List Value):Exit→AS→Prop
 | .normal,s=>∃ s4,Sub s s4∧ghAt P s4∧I rest us ⟨n,look [],s4.rows⟩
 | .ret,s=>∃ s4,Sub s s4∧ghAt P s4∧J .ret us ⟨n,look [],s4.rows⟩
 | .exit id,s=>∃ s4,Sub s s4∧ghAt P s4∧J (.exit id) us ⟨n,look [],s4.rows⟩
 | _,_=>False
def XJY (P:Program) (C:Ctx) (aL:Act) (L:Nat) (rec:LoopState→Option Code→Loop) (I:List (List RV)→AS→Prop) (J:Code→AS→Prop) (o:Option (List (List RV))) (w:World) (Ψ Θ:Nat→Prop):Prop :=
 ∃ p s, SR C p s aL w∧s.n=aL.tmps.size∧ghAt P s∧(match o with
   | some left=>I left s∧w.heap[L]? = some (.loop (rec .ready none))
   | none=>∃ c,J c s∧w.heap[L]? = some (.loop (rec .done (some c))))∧¬ p.R L∧(∀ k,p.β k≠some L)∧¬ p.Ψ L∧¬ p.Θ L ∧
   (∀ b,Ψ b↔p.R b∨(∃ k,p.β k=some b)∨(b<C.w0.heap.size∧¬ C.bor b∧¬ C.own b)∨b=L∨C.hd b∨(∃ d∈aL.defers,d.target = .collected b)∨p.Ψ b∨p.Θ b)∧(∀ b,Θ b↔(∃ k,p.β k=some b)∨b=L∨p.Θ b)
theorem XJY.st {aL:Act}{rec:LoopState→Option Code→Loop}{I:List (List RV)→AS→Prop}{J:Code→AS→Prop}{o:Option (List (List RV))}{w w':World}{Ψ Θ:Nat→Prop}(h:XJY P C aL L rec I J o w Ψ Θ)
 (hos:w'.os=w.os) (htape:w'.tape=w.tape) (hout:w'.output=w.output) (hsize:w.heap.size≤w'.heap.size) (hh:∀ b,Ψ b→w'.heap[b]? = w.heap[b]?):XJY P C aL L rec I J o w' Ψ Θ:=by
 obtain⟨p,s,hS,hsn,hg,ho,hLR,hLβ,hLΨ,hLΘ,hΨ,hΘ⟩:=h
 refine⟨p,s,hS.other rfl hos htape hout hsize (fun b hb hf=>hh b ((hΨ b).2 ?_)) ?_,hsn,hg,?_,hLR,hLβ,hLΨ,hLΘ,hΨ,hΘ⟩
 ·rcases hf with g|g|g|g
  ·exact .inl g
  ·exact .inr (.inl g)
  ·exact .inr (.inr (.inl g))
  ·exact .inr (.inr (.inr (.inr (.inr (.inr (.inl g))))))
 ·obtain⟨Ds,g1,g2,g3⟩:=hS.ex.df
  exact { hS.ex with
   ψl:=fun b hb=>Nat.lt_of_lt_of_le (hS.ex.ψl b hb) hsize
   θl:=fun b hb=>Nat.lt_of_lt_of_le (hS.ex.θl b hb) hsize
   hd:=fun b hb=>by
    obtain⟨k1,k2,k3,k4,k5⟩:=hS.ex.hd b hb
    exact⟨k1,k2,k3,Nat.lt_of_lt_of_le k4 hsize,k5⟩
   df:=⟨Ds,g1,g2,fun D hD=>by
    obtain⟨k1,k2⟩:=g3 D hD
    refine⟨(hh D ((hΨ D).2 (.inr (.inr (.inr (.inr (.inr (.inl ⟨{ target:=.collected D,args:=#[] },?_,rfl⟩)))))))).trans k1,k2⟩
    rw[g1];exact List.mem_map.2 ⟨D,hD,rfl⟩⟩ }
 ·have hL:=hh L ((hΨ L).2 (.inr (.inr (.inr (.inl rfl)))))
  cases o with
  | some left=>exact⟨ho.1,hL.trans ho.2⟩
  | none =>
    obtain⟨c,h1,h2⟩:=ho
    exact⟨c,h1,hL.trans h2⟩
theorem SR.turnY (h:SR C p s a w) {o:Obj}(hLR:¬ p.R L) (hLβ:∀ k,p.β k≠some L) (hL0:C.w0.heap.size≤L) (hLΨ:¬ p.Ψ L) (hLm:∀ d∈a.defers,d.target ≠ .collected L):SR C p s a (w.putObj L o):=by
 refine h.other rfl rfl rfl rfl (Nat.le_of_eq World.putObj_size.symm) (fun b _ hb=>putObj_other b fun e=>?_) ?_
 ·subst e
  rcases hb with g|⟨k,g⟩|g|g
  ·exact hLR g
  ·exact hLβ k g
  ·omega
  ·exact hLΨ g
 ·obtain⟨Ds,g1,g2,g3⟩:=h.ex.df
  exact { h.ex with
   ψl:=fun b hb=>by rw[World.putObj_size];exact h.ex.ψl b hb
   θl:=fun b hb=>by rw[World.putObj_size];exact h.ex.θl b hb
   hd:=fun b hb=>by rw[World.putObj_size];exact h.ex.hd b hb
   df:=⟨Ds,g1,g2,fun D hD=>by
    obtain⟨k1,k2⟩:=g3 D hD
    refine⟨(putObj_other D fun e=>hLm { target:=.collected D,args:=#[] } ?_ (by rw[e])).trans k1,k2⟩
    rw[g1];exact List.mem_map.2 ⟨D,hD,rfl⟩⟩ }
set_option maxHeartbeats 800000 in
theorem awp_rangeFuncY {g:Operand}{ps:Array Tmp}{assign body:Code}{Q:Exit→AS→Prop}(hrd:C.rd=none) (hgh:ghAt P s) {F:FuncId}{args:List RV}{xs:List (List RV)}{z:Bool}
 (hF:s.ev g = .r (.fn F args)) (hI:ICalls P z F args xs) (hdead:(s.rows 0).c = .dead) (ts:List Nat) (hps:∀ t∈ps.toList,t<s.n)
 (I:List (List RV)→List Value→AS→Prop) (J:Code→List Value→AS→Prop)
 (h0:∀ us,I xs us { n:=s.n,tm:=look [],rows:=upd s.rows 0 ⟨(s.rows 0).ver,.sus (ts.map s.tm) us⟩ })
 (round:∀ e rest us s',s'.n=s.n→I (e::rest) us s'→e.length=ps.size∧∃ avs,(s'.rows 0).c = .sus avs us∧∀ C,awp P C assign (fun x s2=>x = .normal∧ghAt P s2∧∀ C,awp P C body (rpostY P s.n I J rest us) s2) ⟨s.n,psA ps.toList e (look (ts.zip avs)),s'.rows⟩)
 (done:∀ us s',s'.n=s.n→I [] us s'→∃ avs,(s'.rows 0).c = .sus avs us∧Q .normal ⟨s.n,look (ts.zip avs),s'.rows⟩)
 (stop:∀ c us s',s'.n=s.n→J c us s'→∃ avs,(s'.rows 0).c = .sus avs us∧awp P C c Q ⟨s.n,look (ts.zip avs),s'.rows⟩):awp P C (.rangeFunc g ps assign body) Q s:=by
 rintro a w ⟨p,hS⟩
 have hF0:fnc C.rd=Fence.wide:=by rw[hrd];rfl
 rw[hF0]
 refine wpIn_rangeFunc fun fn _=>?_
 obtain⟨vsC,hgv,hcs0⟩:=callee_eval hS (f:=g) (F:=F) (cs:=args.map .r) (by rw[hF];rfl)
 obtain⟨rec,hrec⟩:∃ rec:LoopState→Option Code→Loop,rec=fun st pe=>{ state:=st,pending:=pe,fn,tmps:=a.tmps,params:=ps,assign,body,defers:=w.heap.size }:=⟨_,rfl⟩
 obtain⟨w1,hw1⟩:∃ w1,(w.alloc (.deferred (some []))).alloc (.loop (rec .ready none))=w1:=⟨_,rfl⟩
 obtain⟨L,hLdef⟩:∃ L,L=w.heap.size+1:=⟨_,rfl⟩
 obtain⟨aL,haL⟩:∃ aL:Act,aL={ tmps:=a.tmps,defers:={ target:=.collected w.heap.size,args:=#[] }::a.defers }:=⟨_,rfl⟩
 have hS1:SR C p s aL w1:=by rw[haL,← hw1];exact hS.enter hrd _
 have hsz1:w1.heap.size=w.heap.size+2:=by rw[← hw1];simp
 have hL1:w1.heap[L]? = some (.loop (rec .ready none)):=by
  rw[← hw1,hLdef];have:=World.alloc_heap_new (w.alloc (.deferred (some []))) (.loop (rec .ready none));rwa [World.size_alloc] at this
 have hLR:¬ p.R L:=fun h=>by have:=hS.rb L h;omega
 have hLβ:∀ k,p.β k≠some L:=fun k h=>by have:=(hS.bl k L h).1;omega
 have hLΨ:¬ p.Ψ L:=fun h=>by have:=hS.ex.ψl L h;omega
 have hLΘ:¬ p.Θ L:=fun h=>by have:=hS.ex.θl L h;omega
 have hL0:C.w0.heap.size≤L:=by have:=hS.base.size;omega
 have hLm:∀ d∈aL.defers,d.target ≠ .collected L:=fun d hd e=>by
  obtain⟨Ds,g1,_,g3⟩:=hS1.ex.df
  rw[g1] at hd
  obtain⟨D,hD,rfl⟩:=List.mem_map.1 hd
  injection e with e
  subst e
  have:=(g3 _ hD).1
  rw[hL1] at this;cases this
 obtain⟨us,hus⟩:∃ us,us=ts.map fun t=>aL.tmps.getD t undef:=⟨_,rfl⟩
 have hgh1:ghAt P ({ n:=s.n,tm:=fun _=>.r .un,rows:=upd s.rows 0 ⟨(s.rows 0).ver,.sus (ts.map s.tm) us⟩ }:AS):=by
  obtain⟨l,o,hg⟩:=hgh
  refine⟨l,o,?_⟩
  show (upd s.rows 0 ⟨(s.rows 0).ver,.sus (ts.map s.tm) us⟩ 999).c=_
  rw[zuo _ _ (by decide)];exact hg
 have hz0:C.X.z=false:=by obtain⟨l,o,hg⟩:=hgh;exact (hS.gh_of hg).2.1
 have hS2:=hS1.wait hdead ts
 rw[← hus,← look_nil'] at hS2
 rw[← look_nil'] at hgh1
 have htmps:aL.tmps=a.tmps:=by rw[haL]
 have hsn:s.n=aL.tmps.size:=by rw[htmps];exact hS.sz.symm
 let X:XS:={ l:=L,z:=z,n0:=w1.heap.size,R:=p.R,X:=XJY P C aL L rec (fun left s'=>I left us s') (fun c s'=>J c us s'),st:=XJY.st }
 have hcap:RV.relV w1 p.R args vsC.toList:=by
  have hk:Kept w w1 p p s.ver s.ver:=⟨fun _ h=>h,fun ad hr=>World.cell?_of_block (by rw[← hw1];exact (Below.heap_alloc _ _ _ (by have:=hS.rb _ hr;simp;omega)).trans (Below.heap_alloc _ _ _ (hS.rb _ hr))),fun _=>Nat.le_refl _,fun _ _=>⟨rfl,rfl⟩⟩
  have hV:=AV.relV_mono hk _ _ hcs0
  have hp:AV.pureL (args.map .r)=true:=by clear hI hF hV hcs0;induction args with|nil=>rfl|cons c cs ih=>simpa [AV.pureL,AV.pure] using ih
  have h1:=pure_relV (rows:=fun _=>⟨0,.dead⟩) _ _ hp hV
  rw[snapVL_ro] at h1
  exact h1
 have hY:YOk P X:=by
  intro e rest wv Ψ Θ R vs hX hR hV
  obtain⟨pv,sv,hSv,hsnv,hgv',⟨hIv,hLv⟩,hLRv,hLβv,hLΨv,hLΘv,hΨv,hΘv⟩:=hX
  obtain⟨hlen,avs,hrow,hround⟩:=round e rest us sv (hsnv.trans hsn.symm) hIv
  have hvs:vs.size=ps.size:=by have:=RV.relV_length hV;simp only[Array.length_toList] at this;omega
  have hltv:L<wv.heap.size:=(Array.getElem?_eq_some_iff.1 hLv).1
  have hy:=run_yield (P:=P) (args:=vs) hLv (by rw[hrec];exact hvs)
  rw[hrec] at hy
  refine⟨fn,_,assign,body,hy,?_⟩
  have hRY:∀ b,R b→b<wv.heap.size∧(∀ k,pv.β k≠some b)∧¬ pv.Θ b∧(C.X.R b∨C.X.n0≤b):=fun b hb=>by
   refine⟨(hR b hb).1,fun k hk=>(hR b hb).2.1 ((hΘv b).2 (.inl ⟨k,hk⟩)),fun h=>(hR b hb).2.1 ((hΘv b).2 (.inr (.inr h))),?_⟩
   rcases (hR b hb).2.2 with q|q
   ·exact hS.yr hz0 q
   ·have q':w1.heap.size≤b:=q
    have:=hS.ex.n0
    have:=hS.base.size
    exact .inr (by omega)
  have hRL:¬ R L:=fun hb=>(hR L hb).2.1 ((hΘv L).2 (.inr (.inl rfl)))
  have hkv:Kept wv wv pv (planY C pv R wv.heap.size) sv.ver sv.ver:=⟨fun _ h=>.inl h,fun _ _=>rfl,fun _=>Nat.le_refl _,fun _ _=>⟨rfl,rfl⟩⟩
  have haw:=hSv.awake (by rw[hrow,hus])
  have hzip:(ps.zip vs).foldl (fun tmps (x:Nat × Value)=>tmps.setIfInBounds x.1 x.2) a.tmps=(ps.toList.zip vs.toList).foldl (fun tmps (x:Nat × Value)=>tmps.setIfInBounds x.1 x.2) a.tmps:=by
   rw[← Array.foldl_toList,Array.toList_zip]
  obtain⟨hpsz,hprel⟩:=psA_rel (w:=wv) (p:=planY C pv R wv.heap.size) (ver:=sv.ver) ps.toList e vs.toList (look (ts.zip avs)) a.tmps (RV.relV_mono (fun _ h=>.inr h) (fun _ _=>rfl) _ _ hV)
   (fun t ht=>by rw[← htmps,← hsn];exact hps t ht) (fun t=>by rw[← htmps];exact AV.rel_mono hkv _ _ (haw.tm t))
  let Hd:Nat→Prop:=fun b=>b=L∨∃ d∈aL.defers,d.target = .collected b
  have hHd:∀ b,Hd b→b<wv.heap.size∧¬ C.bor b∧¬ pv.R b∧¬ R b∧(∀ k,pv.β k≠some b)∧¬ pv.Ψ b∧¬ pv.Θ b:=fun b hb=>by
   rcases hb with rfl|⟨d,hd,hdt⟩
   ·exact⟨hltv,fun hb=>by have:=hS.ex.bo b (.inl hb);omega,hLRv,hRL,hLβv,hLΨv,hLΘv⟩
   ·obtain⟨Ds,g1,_,g3⟩:=hSv.ex.df
    rw[g1] at hd
    obtain⟨D,hD,rfl⟩:=List.mem_map.1 hd
    injection hdt with hdt
    subst hdt
    obtain⟨k1,k2,k3,k4,k5,k6⟩:=g3 D hD
    refine⟨(Array.getElem?_eq_some_iff.1 k1).1,fun hb=>by have:=hS.ex.bo D (.inl hb);omega,k3,fun hr=>?_,k4,k5,k6⟩
    have hD1:D<w1.heap.size:=by
     obtain⟨Ds',q1,_,q3⟩:=hS1.ex.df
     have:Ds'=Ds:=marks_inj (q1.symm.trans g1)
     subst this
     exact (Array.getElem?_eq_some_iff.1 (q3 D hD).1).1
    rcases (hR D hr).2.2 with q|q
    ·obtain⟨Ds',q1,_,q3⟩:=hS1.ex.df
     have:Ds'=Ds:=marks_inj (q1.symm.trans g1)
     subst this
     exact (q3 D hD).2.2.1 q
    ·have q':w1.heap.size≤D:=q
     omega
  have hSa:=hSv.intoY (L:=L) (w2:=wv) (R:=R) (rd:=some L) (Hd:=Hd) (a':={ tmps:=(ps.zip vs).foldl (fun tmps (x:Nat × Value)=>tmps.setIfInBounds x.1 x.2) a.tmps,defers:=[] }) (tm':=psA ps.toList e (look (ts.zip avs)))
   hgv' rfl rfl rfl rfl (fun _ _=>rfl) hLRv hLβv hLΨv hRY (fun t=>by rw[hzip];exact hprel t) (by rw[hzip,hpsz,← htmps];exact hsnv.symm) rfl hHd
  have hna:=hsnv.trans hsn.symm
  refine roundIn_of_wpIn trivial ?_
  have hassign:=hround (CinY C pv R wv (some L) Hd) _ _ ⟨_,hna▸hSa⟩
  refine wpIn_mono hassign ?_
  rintro x a1 wa ⟨s1,⟨p1,hS1a⟩,rfl,hga,hbody⟩
  have hnotb:∀ b,Hd b→¬ (CinY C pv R wv (some L) Hd).bor b:=fun b hb g=>g.elim (fun g=>(hHd b hb).2.1 g.1) (hHd b hb).2.2.2.2.2.2
  have hLa:wa.heap[L]? = some (.loop (rec .ready none)):=(hS1a.base.block L hltv (hnotb L (.inl rfl)) (fun ⟨k,hk,_⟩=>hLβv k hk)).trans hLv
  have hlta:L<wa.heap.size:=(Array.getElem?_eq_some_iff.1 hLa).1
  refine⟨_,run_beginRound hLa (by rw[hrec]),?_⟩
  have hop1:=HopY.of (L:=L) (w:=wv) (w2:=wv) rfl rfl rfl rfl (fun _ _=>rfl) hS1a hga
  have hHd1:∀ b,Hd b→b<wa.heap.size∧¬ (CinY C pv R wv (some L) Hd).bor b∧¬ p1.R b∧¬ False∧(∀ k,p1.β k≠some b)∧¬ p1.Ψ b∧¬ p1.Θ b:=fun b hb=>by
   obtain⟨_,q2,_,q4,q5,q6,q7,q8⟩:=hS1a.ex.hd b hb
   exact⟨q4,q2,q5,fun h=>h,q8,q6,q7⟩
  have hL1h:=hHd1 L (.inl rfl)
  have hS1b:=hS1a.intoY (L:=L) (w2:=wa.putObj L (.loop { rec .ready none with state:=.busy })) (R:=fun _=>False) (rd:=some L) (Hd:=Hd) (a':=a1) (tm':=s1.tm) hga rfl rfl rfl World.putObj_size putObj_other
   hL1h.2.2.1 hL1h.2.2.2.2.1 hL1h.2.2.2.2.2.1 (fun _ h=>h.elim) (fun t=>by
    have hk1:Kept wa (wa.putObj L (.loop { rec .ready none with state:=.busy })) p1 (planY (CinY C pv R wv (some L) Hd) p1 (fun _=>False) (wa.putObj L (.loop { rec .ready none with state:=.busy })).heap.size) s1.ver s1.ver :=
     ⟨fun _ h=>.inl h,fun ad hr=>World.cell?_of_block (putObj_other _ fun e=>hL1h.2.2.1 (e▸hr)),fun _=>Nat.le_refl _,fun _ _=>⟨rfl,rfl⟩⟩
    exact AV.rel_mono hk1 _ _ (hS1a.tm t)) hS1a.sz (hS1a.ex.rm rfl) hHd1
  refine wpIn_mono (hbody _ _ _ ⟨_,hS1b⟩) ?_
  have hLb:(wa.putObj L (.loop { rec .ready none with state:=.busy })).heap[L]? = some (.loop { rec .ready none with state:=.busy }):=World.putObj_heap_same hlta
  have hRo:∀ b,R b→b<wv.heap.size∧(∀ d∈aL.defers,d.target ≠ .collected b)∧¬ C.hd b∧(C.R0 b∨C.w0.heap.size≤b∨C.own b):=fun b hb=>by
   have hsz0:=hS.base.size
   refine⟨(hR b hb).1,fun d hd hdt=>(hHd b (.inr ⟨d,hd,hdt⟩)).2.2.2.1 hb,fun hh=>?_,?_⟩
   ·obtain⟨q1,_,_,_,q5,_⟩:=hS.ex.hd b hh
    rcases (hR b hb).2.2 with q|q
    ·exact q5 q
    ·have q':w1.heap.size≤b:=q;omega
   ·rcases (hR b hb).2.2 with q|q
    ·exact hS.rn b q
    ·have q':w1.heap.size≤b:=q;exact .inr (.inl (by omega))
  have fin:∀ (jump:Option Code) (s3:AS) (p3:Plan) (a3:Act) (w3:World),SR (CinY (CinY C pv R wv (some L) Hd) p1 (fun _=>False) (wa.putObj L (.loop { rec .ready none with state:=.busy })) (some L) Hd) p3 s3 a3 w3 →
   (match jump with|none=>∃ s4,Sub s3 s4∧ghAt P s4∧I rest us ⟨s.n,look [],s4.rows⟩|some c=>∃ s4,Sub s3 s4∧ghAt P s4∧J c us ⟨s.n,look [],s4.rows⟩) →
   ∃ v w', (Instr.endRound L jump).run P w3 = .ok v w'∧(w'.os=wv.os∧w'.tape=wv.tape∧w'.output=wv.output∧wv.heap.size≤w'.heap.size∧(∀ b, b<wv.heap.size→¬ Θ b→w'.heap[b]? = wv.heap[b]?) ∧
     ∃ Ψ' Θ':Nat→Prop,(∀ b,Ψ' b→Ψ b∨R b∨wv.heap.size≤b)∧(∀ b,Θ' b→Θ b∨wv.heap.size≤b)∧(∀ b,Ψ' b→b<w'.heap.size)∧(∀ b,Θ' b→b<w'.heap.size) ∧
     ((Ending.returned v = .returned (.bool true)∧X.X (some rest) w' Ψ' Θ')∨(Ending.returned v = .returned (.bool false)∧X.X Option.none w' Ψ' Θ'))):=by
   intro jump s30 p30 a3 w3 h30 hj0
   obtain⟨s3,hsub,hg3,hj⟩:∃ s4,Sub s30 s4∧ghAt P s4∧(match jump with|none=>I rest us ⟨s.n,look [],s4.rows⟩|some c=>J c us ⟨s.n,look [],s4.rows⟩):=by
    cases jump with
    | none=>exact hj0
    | some c=>exact hj0
   obtain⟨p3,h3⟩:=hsub _ _ _ ⟨p30,h30⟩
   have hL3:w3.heap[L]? = some (.loop { rec .ready none with state:=.busy }):=by
    refine (h3.base.block L (by show L<(wa.putObj L _).heap.size;rw[World.putObj_size];exact hlta) (fun g=>g.elim (fun g=>hL1h.2.1 g.1) hL1h.2.2.2.2.2.2) (fun ⟨k,hk,_⟩=>hL1h.2.2.2.2.1 k hk)).trans hLb
   obtain⟨_,_,_,_,e5,e6,e7,e8⟩:=h3.ex.hd L (.inl rfl)
   have hend:=run_endRound (P:=P) jump hL3
   have hlt3:L<w3.heap.size:=(Array.getElem?_eq_some_iff.1 hL3).1
   have hop2:=HopY.of (C:=CinY C pv R wv (some L) Hd) (p:=p1) (L:=L) (w:=wa) (w2:=wa.putObj L (.loop { rec .ready none with state:=.busy })) (R:=fun _=>False) rfl rfl rfl World.putObj_size putObj_other h3 hg3
   obtain⟨o4,ho4⟩:∃ o4,o4=Obj.loop { { rec .ready none with state:=.busy } with state:=if jump.isNone then .ready else .done,pending:=jump }:=⟨_,rfl⟩
   rw[← ho4] at hend
   have hop:=(HopY.trans (C':=CinY C pv R wv (some L) Hd) hop1 (fun _=>Iff.rfl) hop2).put (o:=o4)
   have hL4:(w3.putObj L o4).heap[L]? = some (.loop (rec (if jump.isNone then .ready else .done) jump)):=by
    rw[World.putObj_heap_same hlt3,ho4,hrec]
   have hS4:SR C { p3 with X:=C.X } ⟨s.n,look [],s3.rows⟩ aL (w3.putObj L o4):=by
    have:=hSv.landY (C':=CinY (CinY C pv R wv (some L) Hd) p1 (fun _=>False) (wa.putObj L (.loop { rec .ready none with state:=.busy })) (some L) Hd) hgv' hL0 hLm hop hRo rfl (fun o w Ψ Θ h=>h.1.1) h3 hg3 e5 e8 e6 rfl rfl rfl rfl World.putObj_size putObj_other
    rw[hna,← look_nil'] at this
    exact this
   refine⟨_,_,hend,hop.os,hop.tape,hop.output,hop.size,fun b hb hθ=>hop.heap b hb (fun k hk=>hθ ((hΘv b).2 (.inl ⟨k,hk⟩))) (fun h=>hθ ((hΘv b).2 (.inr (.inr h)))) (fun e=>hθ ((hΘv b).2 (.inr (.inl e)))),
    fun b=>p3.R b∨(∃ k,p3.β k=some b)∨(b<C.w0.heap.size∧¬ C.bor b∧¬ C.own b)∨b=L∨C.hd b∨(∃ d∈aL.defers,d.target = .collected b)∨p3.Ψ b∨p3.Θ b,fun b=>(∃ k,p3.β k=some b)∨b=L∨p3.Θ b,fun b hb=>?_,fun b hb=>?_,fun b hb=>?_,fun b hb=>?_,?_⟩
   ·have hown:ownY C pv b→Ψ b:=fun ⟨k,q,_⟩=>(hΨv b).2 (.inr (.inl ⟨k,q⟩))
    have hrr:p3.R b→Ψ b∨R b∨wv.heap.size≤b:=fun g=>by
     rcases hop.rn b g with q|q|q|q
     ·exact .inl ((hΨv b).2 (.inl q))
     ·exact .inr (.inl q)
     ·exact .inr (.inr q)
     ·exact .inl (hown q)
    have hpsi:pv.Ψ b→Ψ b:=fun q=>(hΨv b).2 (.inr (.inr (.inr (.inr (.inr (.inr (.inl q)))))))
    have hthe:pv.Θ b→Ψ b:=fun q=>(hΨv b).2 (.inr (.inr (.inr (.inr (.inr (.inr (.inr q)))))))
    rcases hb with g|⟨k,g⟩|g|g|g|g|g|g
    ·exact hrr g
    ·rcases hop.bl k b g with q|⟨_,_,k',_,q⟩|⟨_,q⟩|q
     ·exact .inr (.inr q)
     ·exact .inl ((hΨv b).2 (.inr (.inl ⟨k',q⟩)))
     ·exact .inl (hthe q)
     ·exact .inl (hown q)
    ·exact .inl ((hΨv b).2 (.inr (.inr (.inl g))))
    ·exact .inl ((hΨv b).2 (.inr (.inr (.inr (.inl g)))))
    ·exact .inl ((hΨv b).2 (.inr (.inr (.inr (.inr (.inl g))))))
    ·exact .inl ((hΨv b).2 (.inr (.inr (.inr (.inr (.inr (.inl g)))))))
    ·rcases hop.psi b g with q|q|q|q|q
     ·exact .inl (hpsi q)
     ·exact .inl ((hΨv b).2 (.inl q))
     ·exact .inr (.inl q)
     ·exact .inl (hown q)
     ·exact .inr (.inr q)
    ·rcases hop.theta b g with q|q
     ·exact .inl (hthe q)
     ·exact .inr (.inr q)
   ·rcases hb with⟨k,g⟩|g|g
    ·rcases hop.bl k b g with q|⟨_,_,k',_,q⟩|⟨_,q⟩|⟨k',q,_⟩
     ·exact .inr q
     ·exact .inl ((hΘv b).2 (.inl ⟨k',q⟩))
     ·exact .inl ((hΘv b).2 (.inr (.inr q)))
     ·exact .inl ((hΘv b).2 (.inl ⟨k',q⟩))
    ·exact .inl ((hΘv b).2 (.inr (.inl g)))
    ·rcases hop.theta b g with q|q
     ·exact .inl ((hΘv b).2 (.inr (.inr q)))
     ·exact .inr q
   ·have hsz4:=hS4.base.size
    rcases hb with g|⟨k,g⟩|g|rfl|g|⟨d,hd,hdt⟩|g|g
    ·exact hS4.rb b g
    ·exact (hS4.bl k b g).1
    ·omega
    ·rw[World.putObj_size];exact hlt3
    ·exact (hS4.ex.hd b g).2.2.2.1
    ·exact Nat.lt_of_lt_of_le (hHd b (.inr ⟨d,hd,hdt⟩)).1 hop.size
    ·exact hS4.ex.ψl b g
    ·exact hS4.ex.θl b g
   ·rcases hb with⟨k,g⟩|rfl|g
    ·exact (hS4.bl k b g).1
    ·rw[World.putObj_size];exact hlt3
    ·exact hS4.ex.θl b g
   ·cases jump with
    | none=>exact .inl ⟨rfl,{ p3 with X:=C.X },_,hS4,hsn,hg3,⟨hj,hL4⟩,e5,e8,e6,e7,fun _=>Iff.rfl,fun _=>Iff.rfl⟩
    | some c=>exact .inr ⟨rfl,{ p3 with X:=C.X },_,hS4,hsn,hg3,⟨c,hj,hL4⟩,e5,e8,e6,e7,fun _=>Iff.rfl,fun _=>Iff.rfl⟩
  rintro en a3 w3 ⟨s3,⟨p3,h3⟩,hq⟩
  cases en with
  | normal=>exact fin none s3 p3 a3 w3 h3 hq
  | ret=>exact fin (some .ret) s3 p3 a3 w3 h3 hq
  | exit id=>exact fin (some (.exit id)) s3 p3 a3 w3 h3 hq
  | goto l=>exact hq.elim
  | panic ch=>exact hq.elim
  | outgrown=>exact hq.elim
 have hX0:X.X (some xs) w1 (fun b=>p.R b∨(∃ k,p.β k=some b)∨(b<C.w0.heap.size∧¬ C.bor b∧¬ C.own b)∨b=L∨C.hd b∨(∃ d∈aL.defers,d.target = .collected b)∨p.Ψ b∨p.Θ b) (fun b=>(∃ k,p.β k=some b)∨b=L∨p.Θ b) :=
  ⟨p,_,hS2,hsn,hgh1,⟨h0 us,hL1⟩,hLR,hLβ,hLΨ,hLΘ,fun _=>Iff.rfl,fun _=>Iff.rfl⟩
 have hlt1:L<w1.heap.size:=(Array.getElem?_eq_some_iff.1 hL1).1
 have hcall:=hI.2 w1 p.R vsC X _ _ hS1.rb hcap rfl (fun _ b hb=>hb) (Nat.le_refl _) hY (fun b hb=>by
  have hszw:=hS1.base.size
  rcases hb with g|⟨k,g⟩|g|rfl|g|⟨d,hd,hdt⟩|g|g
  ·exact hS1.rb b g
  ·exact (hS1.bl k b g).1
  ·omega
  ·exact hlt1
  ·exact (hS1.ex.hd b g).2.2.2.1
  ·obtain⟨Ds,g1,_,g3⟩:=hS1.ex.df
   rw[g1] at hd
   obtain⟨D,hD,rfl⟩:=List.mem_map.1 hd
   injection hdt with hdt
   subst hdt
   exact (Array.getElem?_eq_some_iff.1 (g3 D hD).1).1
  ·exact hS1.ex.ψl b g
  ·exact hS1.ex.θl b g) (fun b hb=>by
  rcases hb with⟨k,g⟩|rfl|g
  ·exact (hS1.bl k b g).1
  ·exact hlt1
  ·exact hS1.ex.θl b g) (fun b hb hθ=>by
  rcases hθ with⟨k,g⟩|rfl|g
  ·exact (hS1.bl k b g).2.1 hb
  ·exact hLR hb
  ·exact hS1.ex.ψr b hb g) hX0
 have e1:(Instr.enterLoop fn a.tmps ps assign body none).run P w = .ok (L,[{ target:=.collected w.heap.size,args:=#[] }]) w1:=by
  rw[run_enterLoop_outer,← hw1,hrec,hLdef]
 have e2:(resolve a.eval (rangeCall g L) 0).run P w1 = .ok { target:=.fn (.func F) vsC,args:=#[.func (.yield L) #[] #[]] } w1:=by
  simp only[resolve,hgv,Sem.run_bind,Deferred.ofValue,Sem.run_pure,Result.andThen_ok]
  simp [Act.eval]
 have e3:(invoke (.fn (.func F) vsC) #[.func (.yield L) #[] #[]]).run P w1 = .ok (.enter F (#[.func (.yield L) #[] #[]]++vsC)) w1:=by
  simp only[invoke];exact run_callFunc hI.1 _ _
 have e4:Fence.wide.depth.isSome=true→1≤0:=fun h=>by simp [Fence.wide] at h
 refine⟨L,_,w1,_,w1,F,_,w1,e1,e2,?_,e3,e4,?_⟩
 ·intro f' _;exact trivial
 ·refine callsIn_wide.2 (hcall.mono ?_)
  have haL':({ a with defers:=[{ target:=.collected w.heap.size,args:=#[] }]++a.defers }:Act)=aL:=by rw[haL];rfl
  rintro e w' ⟨⟨v,rfl⟩,Ψ',Θ',hX|hX⟩
  ·obtain⟨p',s',hS',hsn',hg',⟨hI',hL'⟩,hLR',hLβ',hLΨ',_⟩:=hX
   have hend:=run_endLoop (P:=P) hL' (by rw[hrec];simp)
   have hp:(rec .ready none).pending=none:=by rw[hrec]
   rw[hp] at hend
   refine⟨none,_,hend,?_⟩
   obtain⟨avs,hrow,hQ⟩:=done us s' (hsn'.trans hsn.symm) hI'
   have hS4:∀ o,SR C p' ⟨s.n,look (ts.zip avs),s'.rows⟩ aL (w'.putObj L o):=fun o=>by
    have:=(hS'.turnY (o:=o) hLR' hLβ' hL0 hLΨ' hLm).awake (by rw[hrow,hus])
    rw[hsn'.trans hsn.symm] at this
    exact this
   rw[haL']
   exact⟨_,⟨_,hS4 _⟩,hQ⟩
  ·obtain⟨p',s',hS',hsn',hg',⟨c,hJ',hL'⟩,hLR',hLβ',hLΨ',_⟩:=hX
   have hend:=run_endLoop (P:=P) hL' (by rw[hrec];simp)
   have hp:(rec .done (some c)).pending=some c:=by rw[hrec]
   rw[hp] at hend
   refine⟨some c,_,hend,?_⟩
   obtain⟨avs,hrow,hQ⟩:=stop c us s' (hsn'.trans hsn.symm) hJ'
   have hS4:∀ o,SR C p' ⟨s.n,look (ts.zip avs),s'.rows⟩ aL (w'.putObj L o):=fun o=>by
    have:=(hS'.turnY (o:=o) hLR' hLβ' hL0 hLΨ' hLm).awake (by rw[hrow,hus])
    rw[hsn'.trans hsn.symm] at this
    exact this
   have hQ':=fun o=>hQ _ _ ⟨_,hS4 o⟩
   rw[hF0] at hQ'
   rw[haL']
   exact hQ' _
end
def rfpostY (P:Program) (n:Nat) (ts:List Nat) (Q:Exit→AS→Prop) (N:AS→Prop) (us:List Value):Exit→AS→Prop
 | .normal,s=>N s
 | .ret,s=>ghAt P s∧∃ avs,(s.rows 0).c = .sus avs us∧Q .ret ⟨n,look (ts.zip avs),s.rows⟩
 | .exit id,s=>ghAt P s∧∃ avs,(s.rows 0).c = .sus avs us∧Q (.exit id) ⟨n,look (ts.zip avs),s.rows⟩
 | _,_=>False
theorem rfpostY_normal {P:Program}{n:Nat}{ts:List Nat}{Q:Exit→AS→Prop}{N:AS→Prop}{us:List Value}{s:AS}:rfpostY P n ts Q N us .normal s=N s:=rfl
theorem rfY_ret {P:Program}{n:Nat}{ts:List Nat}{Q:Exit→AS→Prop}{N:AS→Prop}{us:List Value}{l:List (Nat × AV)}{vs:Nat→Nat}{cs:List (Nat × RowC)}{ll:Nat}{o:Option (List (List RV))}{avs:List AV}(hg:lookc cs 999 = .gh P ll false o) (h:lookc cs 0 = .sus avs us) (hq:Q .ret (st n (ts.zip avs) vs cs)) :
 rfpostY P n ts Q N us .ret (st n l vs cs):=⟨⟨ll,o,hg⟩,avs,h,hq⟩
attribute [go_sem] rfpostY_normal
theorem awp_rangeFY {P:Program}{C:Ctx}{n:Nat}{s:AS}{t:Nat}{ps:Array Tmp}{assign body:Code}{Q:Exit→AS→Prop}(hC:C.rd=none) {f:FuncId}{caps:List RV}{z:Bool}(xs:List (List RV)) (hI:ICalls P z f caps xs)
 (ts:List Nat) (hnd:ts.Nodup) (F:(Nat→Nat)→List (Nat × AV)) (R:Nat→(Nat→Nat)→List (Nat × RowC)) (I:Nat→Prop) (h0:FitV n F (R 0) s) (hi0:I 0)
 (hts:∀ vs,(F vs).map (·.1)=ts) (hg:∀ vs,look (F vs) t = .r (.fn f caps)) (hd:∀ i vs,lookc (R i vs) 0 = .dead) (hgh:∀ i vs,∃ l o,lookc (R i vs) 999 = .gh P l false o) (hps:∀ t∈ps.toList,t<n) (hlen:∀ e∈xs,e.length=ps.size)
 (round:∀ i e vs us C,xs[i]? = some e→I i→awp P C assign (fun x s2=>x = .normal∧ghAt P s2∧∀ C,awp P C body (rfpostY P n ts Q (fun s3=>I (i+1)∧∃ vs',Sub s3 (st n [] vs' ((0,.sus ((F vs').map (·.2)) us)::R (i+1) vs'))) us) s2)
  (st n (psL ps.toList e (F vs)) vs ((0,.sus ((F vs).map (·.2)) us)::R i vs)))
 (done:∀ vs us,I xs.length→Q .normal (st n (F vs) vs ((0,.sus ((F vs).map (·.2)) us)::R xs.length vs))):awp P C (.rangeFunc (.tmp t) ps assign body) Q s:=by
 obtain⟨vs0,h0⟩:=h0
 refine zw h0 ?_
 have hdrop:∀ i e rest,xs.drop i=e::rest→xs[i]? = some e∧xs.drop (i+1)=rest:=fun i e rest h=>by
  refine⟨?_,by rw[← List.drop_drop,h];rfl⟩
  have:(xs.drop i)[0]? = some e:=by rw[h];rfl
  simpa using this
 have hz:∀ vs,ts.zip ((F vs).map (·.2))=F vs:=fun vs=>by rw[← hts vs];exact zip_keys _
 have hgs:∀ (i:Nat) (vs:Nat→Nat) (l:List (Nat × AV)) (x:RowC),ghAt P (st n l vs ((0,x)::R i vs)):=fun i vs l x=>by
  obtain⟨q,o,h⟩:=hgh i vs
  refine⟨q,o,?_⟩
  show lookc ((0,x)::R i vs) 999=_
  rw[zlc,if_neg (by decide)];exact h
 refine awp_rangeFuncY hC (hgh 0 vs0) (F:=f) (args:=caps) (xs:=xs) (z:=z) (by
  show look (F vs0) t=_
  rw[hg]) hI (hd 0 vs0) ts hps
  (fun left us s'=>∃ i vs,left=xs.drop i∧i≤xs.length∧I i∧s'=st n [] vs ((0,.sus ((F vs).map (·.2)) us)::R i vs))
  (fun c us s'=>∃ avs,(s'.rows 0).c = .sus avs us∧((c = .ret∧Q .ret ⟨n,look (ts.zip avs),s'.rows⟩)∨∃ id,c = .exit id∧Q (.exit id) ⟨n,look (ts.zip avs),s'.rows⟩))
  (fun us=>⟨0,vs0,rfl,Nat.zero_le _,hi0,?_⟩) ?_ ?_ ?_
 ·refine (upd_rows_st (c:=.sus (ts.map (st n (F vs0) vs0 (R 0 vs0)).tm) us)).trans ?_
  congr 3
  have hk:(F vs0).map (·.2)=ts.map (look (F vs0)):=by
   have:=look_keys (F vs0) (by rw[hts vs0];exact hnd)
   rw[hts vs0] at this
   exact this
  rw[hk];rfl
 ·rintro e rest us s' _ ⟨i,vs,hl,hle,hI',rfl⟩
  obtain⟨h1,h2⟩:=hdrop i e rest hl.symm
  refine⟨hlen e (List.mem_of_getElem? h1),(F vs).map (·.2),rfl,fun C'=>?_⟩
  have hr:=round i e vs us C' h1 hI'
  rw[hz,psA_look]
  refine awp_mono ?_ hr
  rintro x s2 ⟨hx,hg2,hbody⟩
  refine⟨hx,hg2,fun C''=>awp_mono ?_ (hbody C'')⟩
  intro x s3 hq
  cases x with
  | normal =>
    obtain⟨hI3,vs',hsub⟩:=hq
    refine⟨_,hsub,hgs _ _ _ _,i+1,vs',h2.symm,?_,hI3,rfl⟩
    have:=(List.getElem?_eq_some_iff.1 h1).1
    omega
  | ret =>
    obtain⟨hg3,avs,h3,h4⟩:=hq
    exact⟨s3,Sub.refl _,hg3,avs,h3,.inl ⟨rfl,h4⟩⟩
  | exit id =>
    obtain⟨hg3,avs,h3,h4⟩:=hq
    exact⟨s3,Sub.refl _,hg3,avs,h3,.inr ⟨id,rfl,h4⟩⟩
  | goto l=>exact hq.elim
  | panic c=>exact hq.elim
  | outgrown=>exact hq.elim
 ·rintro us s' _ ⟨i,vs,hl,hle,hI',rfl⟩
  have hi:i=xs.length:=by
   have:(xs.drop i).length=0:=by rw[← hl];rfl
   rw[List.length_drop] at this;omega
  subst hi
  refine⟨(F vs).map (·.2),rfl,?_⟩
  have:=done vs us hI'
  rw[hz]
  exact this
 ·rintro c us s' _ ⟨avs,h3,h4⟩
  refine⟨avs,h3,?_⟩
  rcases h4 with⟨rfl,h4⟩|⟨id,rfl,h4⟩
  ·exact ze h4
  ·exact zf h4
end Go.Oc

namespace Go.Oc
open Go Go.RowKit
def yop (P:Program) (o:Oper) (K:AS→Prop) (s:AS):Prop :=
 match o.op,o.dst with
 | .call ⟨.value f,args,ts⟩,some d=>∃ (F:FuncId) (cs:List AV) (ar:Nat→List RV) (xs rest:List (List RV)) (ll:Nat),callee? (s.ev f)=some (F,cs)∧(s.rows 999).c = .gh P ll false (some (xs++rest))∧AV.pureL (args.toList.map s.ev++cs)=true ∧
  RV.leL (snapVL s.rows (args.toList.map s.ev++cs)) (ar ll)∧YCalls P F ar xs∧K ((s.row 999 ⟨(s.rows 999).ver,.gh P ll false (some rest)⟩).put (some d) (.r (.bo true)))∧K ((s.row 999 ⟨(s.rows 999).ver,.gh P ll false none⟩).put (some d) (.r (.bo false)))
 | _,_=>False
def xopY (P:Program) (o:Oper) (K:AS→Prop) (s:AS):Prop:=xopL P o K s∨yop P o K s
def holdsG (ops:Array Oper) (s:AS) (o:Oper):Prop :=
 match o.guard with
 | none=>True
 | some (g,want)=>∃ t,((ops[g]?).bind (·.dst):Option Nat)=some t∧s.tm t = .r (.bo want)
theorem wantG {ops:Array Oper}{s:AS}{o:Oper}(h:holdsG ops s o):wantA ops s o=some true:=by
 unfold holdsG at h
 unfold wantA
 split at h
 ·rename_i e;rw[e]
 ·rename_i g want e
  obtain⟨t,h1,h2⟩:=h
  rw[e]
  simp only[h1,h2,BEq.rfl]
def failsG (ops:Array Oper) (s:AS) (o:Oper):Prop :=
 match o.guard with
 | none=>False
 | some (g,want)=>∃ t,((ops[g]?).bind (·.dst):Option Nat)=some t∧(s.tm t = .r (.bo (!want))∨s.tm t = .r .ud)
theorem wantF {ops:Array Oper}{s:AS}{o:Oper}(h:failsG ops s o):wantA ops s o=some false:=by
 unfold failsG at h
 unfold wantA
 split at h
 ·exact h.elim
 ·rename_i g want e
  obtain⟨t,h1,h2⟩:=h
  rw[e]
  rcases h2 with h2|h2
  ·simp only[h1,h2]
   cases want<;>rfl
  ·simp only[h1,h2]
def FitG (n:Nat) (F:(Nat→Nat)→Bool→List (Nat × AV)) (R:(Nat→Nat)→Bool→List (Nat × RowC)) (s:AS):Prop:=∃ vs z,Sub s (st n (F vs z) vs (R vs z))
theorem fitG_of {n:Nat}{F:(Nat→Nat)→Bool→List (Nat × AV)}{R:(Nat→Nat)→Bool→List (Nat × RowC)}{s:AS}(z:Bool) (h:FitV n (fun vs=>F vs z) (fun vs=>R vs z) s):FitG n F R s:=by
 obtain⟨vs,h⟩:=h
 exact⟨vs,z,h⟩
section
variable {P:Program}{C:Ctx}{s:AS}
theorem xopY_sound {p:Plan}{a:Act}{w:World}{o:Oper}{KA:AS→Prop}(hp:SR C p s a w) (h:xopY P o KA s) (hd0:∀ t,o.dst=some t→t<s.n) {K:Act→World→Prop}{Q:Exit→Act→World→Prop}
 (hK:∀ a' w' p' s',SR C p' s' a' w'→s'.n=s.n→KA s'→K a' w') (hnd:∀ c,o.op ≠ .defer c):o.wpIn (fnc C.rd) 0 P a w K Q:=by
 rcases h with h|h
 ·exact xopL_sound hp h hd0 hK hnd
 unfold yop at h
 split at h
 ·rename_i f args ts d ho hd
  obtain⟨F,cs,ar,xs,rest,ll,hF,hrow,hpu,hle,hY,h1,h2⟩:=h
  have hdn:=hd0 d hd
  obtain⟨dst,op,ty,pos,af,gd⟩:=o
  simp only at ho hd
  subst ho hd
  refine wpIn_of_wp (by intro c h;cases h) ?_
  obtain⟨vs,hfv,hcs⟩:=callee_eval hp hF
  have hargs:=relV_ev hp args.toList
  have hall:=AV.relV_append hargs hcs
  have hlist:(args.map a.eval++vs).toList=args.toList.map a.eval++vs.toList:=by simp
  rw[← hlist] at hall
  have hV:=le_relV _ _ _ hle (pure_relV (rows:=s.rows) _ _ hpu hall)
  have hr:=hp.rw 999
  rw[hrow] at hr
  simp only[zrl] at hr
  obtain⟨_,hβ,hγ,hl,hz,hYo,hX⟩:=hr
  have hrun:(execOp a.eval ⟨some d,.call ⟨.value f,args,ts⟩,ty,pos,af,gd⟩).run P w = .ok (.enter F (args.map a.eval++vs)) w:=by
   simp only[execOp,Sem.run_bind,resolve,hfv,Deferred.ofValue,Sem.run_pure,Result.andThen_ok,invoke]
   simpa using run_callFunc hY.1 (args.map a.eval++vs) w
  unfold Oper.wp
  rw[hrun,Oper.upon_enter]
  have hzX:p.X.z=false:=hz
  have hz':C.X.z=false:=by rw[← hp.ex.px];exact hz
  refine (hY.2 rest w p.R _ p.X p.Ψ p.Θ hp.rb (by rw[hl];exact hV) hzX (fun b hb=>?_) ?_ hYo hp.ex.ψl hp.ex.θl hp.ex.ψr hX).mono ?_
  ·rw[hp.ex.px];exact hp.yr hz' hb
  ·rw[hp.ex.px];exact Nat.le_trans hp.ex.n0 hp.base.size
  rintro e w' ⟨g1,g2,g3,g4,g5,Ψ',Θ',g6,g7,g8,g9,g10⟩
  rcases g10 with⟨rfl,hX'⟩|⟨rfl,hX'⟩
  ·have hS:=hp.yielded hrow g1 g2 g3 g4 g5 (fun _ h=>h) g6 g7 g8 g9 hp.ex.px hX'
   have hput:=hS.put' (d:=some d) (av:=.r (.bo true)) (v:=.bool true) (by simp only[AV.rel,RV.rel]) (fun t ht=>by injection ht with ht;subst ht;exact hdn)
   exact hK _ _ _ _ hput rfl h1
  ·have hS:=hp.yielded hrow g1 g2 g3 g4 g5 (fun _ h=>h) g6 g7 g8 g9 hp.ex.px hX'
   have hput:=hS.put' (d:=some d) (av:=.r (.bo false)) (v:=.bool false) (by simp only[AV.rel,RV.rel]) (fun t ht=>by injection ht with ht;subst ht;exact hdn)
   exact hK _ _ _ _ hput rfl h2
 ·exact h.elim
end
def stepAllY (P:Program) (ops:Array Oper) (n:Nat) (F:(Nat→Bool)→(Nat→Nat)→Bool→List (Nat × AV)) (R:(Nat→Bool)→(Nat→Nat)→Bool→List (Nat × RowC)):Nat→List Oper→Prop
 | _,[]=>True
 | k,o::rest=>(∀ b vs z,(∀ j e,j<ops.size→(deps ops j).contains e=true→b j=true→b e=true)→b k=false→(∀ e∈deps ops k,b e=true) →
  (holdsG ops (st n (F b vs z) vs (R b vs z)) o∧xopY P o (FitG n (F (upd b k true)) (R (upd b k true))) (st n (F b vs z) vs (R b vs z)))∨(failsG ops (st n (F b vs z) vs (R b vs z)) o∧FitG n (F (upd b k true)) (R (upd b k true)) ((st n (F b vs z) vs (R b vs z)).put o.dst (.r .ud))))∧stepAllY P ops n F R (k+1) rest
theorem stepAllY_get {P:Program}{ops:Array Oper}{n:Nat}{F:(Nat→Bool)→(Nat→Nat)→Bool→List (Nat × AV)}{R:(Nat→Bool)→(Nat→Nat)→Bool→List (Nat × RowC)}:∀ {l:List Oper}{k i:Nat}{o:Oper},stepAllY P ops n F R k l→l[i]? = some o →
 ∀ b vs z, (∀ j e, j<ops.size→(deps ops j).contains e=true→b j=true→b e=true)→b (k+i)=false→(∀ e∈deps ops (k+i), b e=true) →
   (holdsG ops (st n (F b vs z) vs (R b vs z)) o∧xopY P o (FitG n (F (upd b (k+i) true)) (R (upd b (k+i) true))) (st n (F b vs z) vs (R b vs z)))∨(failsG ops (st n (F b vs z) vs (R b vs z)) o∧FitG n (F (upd b (k+i) true)) (R (upd b (k+i) true)) ((st n (F b vs z) vs (R b vs z)).put o.dst (.r .ud)))
 | [],_,_,_,_,h=>by simp at h
 | x::l, k, 0, o, hs, h=>by
   simp only[List.getElem?_cons_zero,Option.some.injEq] at h
   subst h
   exact hs.1
 | x::l, k, i+1, o, hs, h=>by
   have:=stepAllY_get (k:=k+1) (i:=i) hs.2 (by simpa using h)
   rwa [show k+1+i=k+(i+1) by omega] at this
section
variable {P:Program}{C:Ctx}{s:AS}{a:Act}{w:World}{ops:Array Oper}
theorem inv_anyY {Q:AS→Prop}{Q':Exit→Act→World→Prop}(hQ:∀ s a w,Q s→SRel C s a w→Q' .normal a w) {n:Nat}{F:(Nat→Bool)→(Nat→Nat)→Bool→List (Nat × AV)}{R:(Nat→Bool)→(Nat→Nat)→Bool→List (Nat × RowC)}
 (hd:dstOk ops n=true) (hu:upOk ops=true) (hstep:stepAllY P ops n F R 0 ops.toList)
 (hend:∀ b vs z,(∀ j,b j=true)→Q (st n (F b vs z) vs (R b vs z))) :
 ∀ (fuel:Nat) (vs:Nat→Nat) (z:Bool) (listed:Array Bool) (a:Act) (w:World), listed.size=ops.size→down ops listed→unl listed ops.size≤fuel→SRel C (st n (F (fun j=>listed.getD j true) vs z) vs (R (fun j=>listed.getD j true) vs z)) a w →
   wpAnyIn (fnc C.rd) 0 P .any ops Q' fuel listed a w:=by
 have all:∀ {listed:Array Bool},listed.size=ops.size→(∀ j,j<ops.size→listed.getD j true=true)→∀ j,(fun j=>listed.getD j true) j=true:=fun {listed} hsz h j=>by
  by_cases hj:j<ops.size
  ·exact h j hj
  ·show listed.getD j true=true
   have:¬ j<listed.size:=by omega
   simp [this]
 intro fuel
 induction fuel with
 | zero =>
   intro vs z listed a w hsz hdn hf hs
   have h0:=unl_zero (listed:=listed) ops.size (by omega)
   refine⟨List.eq_nil_iff_forall_not_mem.2 fun j hj=>?_,hQ _ _ _ (hend _ _ _ (all hsz h0)) hs⟩
   obtain⟨h1,o,ho,_⟩:=mem_ready.1 hj
   have:=h0 j (Array.getElem?_eq_some_iff.1 ho).1
   rw[this] at h1
   cases h1
 | succ fuel ih =>
   intro vs z listed a w hsz hdn hf hs
   refine⟨fun h0=>hQ _ _ _ (hend _ _ _ (all hsz (ready_nil hu h0 hsz))) hs,fun i hi=>?_⟩
   obtain⟨hi1,o,ho,hall⟩:=mem_ready.1 hi
   unfold wpOpIn
   rw[ho]
   simp only
   have hil:i<ops.size:=(Array.getElem?_eq_some_iff.1 ho).1
   obtain⟨p,hp⟩:=hs
   have hx:=stepAllY_get (k:=0) (i:=i) hstep (by rw[Array.getElem?_toList];exact ho) (fun j=>listed.getD j true) vs z (fun j e hj he hb=>?_) (by rw[Nat.zero_add];exact hi1) (fun e he=>?_)
   ·rw[Nat.zero_add] at hx
    have e:upd (fun j=>listed.getD j true) i true=fun j=>(listed.setIfInBounds i true).getD j true:=by
     funext j
     rw[getD_setT]
     rfl
    rcases hx with⟨hw,hx⟩|⟨hw,hx⟩
    ·rw[if_pos (wantA_sound hp (wantG hw))]
     refine xopY_sound hp hx (dstOk_get hd ho) (fun a' w' p' s' hs' hn hK=>?_) (dstOk_nd hd ho)
     obtain⟨vs',z',hsub⟩:=hK
     rw[e] at hsub
     exact ih vs' z' _ a' w' (by simpa using hsz) (down_set hdn hi) (by have:=unl_set hi1 ops.size hil;omega) (hsub C a' w' ⟨p',hs'⟩)
    ·rw[wantA_sound hp (wantF hw)]
     simp only[Bool.false_eq_true,if_false]
     refine⟨fun _ _=>trivial,?_⟩
     obtain⟨vs',z',hsub⟩:=hx
     rw[e] at hsub
     have:=hp.put' (d:=o.dst) (av:=.r .ud) (v:=undef) (by simp only[AV.rel,RV.rel]) (dstOk_get hd ho)
     exact ih vs' z' _ _ _ (by simpa using hsz) (down_set hdn hi) (by have:=unl_set hi1 ops.size hil;omega) (hsub C _ _ ⟨p,this⟩)
   ·have hjs:j<listed.size:=by omega
    have hb':listed.getD j true=true:=hb
    have h2:=hdn j (by simpa [hjs] using hb') e (by simpa using he)
    show listed.getD e true=true
    by_cases hes:e<listed.size
    ·simpa [hes] using h2
    ·simp [hes]
   ·have h2:=ready_deps hi e (by simpa using he)
    show listed.getD e true=true
    by_cases hes:e<listed.size
    ·simpa [hes] using h2
    ·simp [hes]
end
theorem awp_invY {P:Program}{C:Ctx}{id:Nat}{l:List Oper}{n:Nat}{Q:Exit→AS→Prop}{s:AS}(F:(Nat→Bool)→(Nat→Nat)→Bool→List (Nat × AV)) (R:(Nat→Bool)→(Nat→Nat)→Bool→List (Nat × RowC)) (hm:P.follows .mixedOrders=true)
 (hd:dstOk l.toArray n=true) (hu:upOk l.toArray=true) (h0:FitG n (F fun j=>decide (l.length≤j)) (R fun j=>decide (l.length≤j)) s)
 (hstep:stepAllY P l.toArray n F R 0 l) (hend:∀ b vs z,(∀ j,b j=true)→Q .normal (st n (F b vs z) vs (R b vs z))):awp P C (.region id l.toArray true) Q s:=fun a w hs=>by
 obtain⟨vs,z,hsub⟩:=h0
 obtain⟨p,hp⟩:=hsub C a w hs
 have hs':SR C p _ a { w with drawn:=w.drawn+1 }:=hp.below (w':=w.drew) ((Below.refl _ _).drew) (fun _ h=>h) (fun _ h=>.inl h) hp.rb
 refine wpIn_region_any hm ?_
 have e:(fun j=>(Array.replicate l.toArray.size false).getD j true)=fun j=>decide (l.length≤j):=by
  funext j
  by_cases h:j<l.length
  ·have:¬ l.length≤j:=by omega
   simp [h,this]
  ·have:l.length≤j:=by omega
   simp [h,this]
 refine inv_anyY (Q:=fun s=>Q .normal s) (n:=n) (F:=F) (R:=R) (fun s a w hq hs=>⟨s,hs,hq⟩) hd hu (by simpa using hstep) hend _ vs z _ _ _ (by simp) (fun j hj=>?_) ?_ ?_
 ·exfalso
  simp only[Array.getD_eq_getD_getElem?,Array.getElem?_replicate] at hj
  split at hj<;>simp at hj
 ·have:∀ m,unl (Array.replicate l.toArray.size false) m≤m:=by
   intro m
   induction m with
   | zero=>exact Nat.le_refl _
   | succ m ih=>simp only[unl];split<;>omega
  exact this _
 ·rw[e]
  exact⟨p,hs'⟩
def ypostR (P:Program) (rv:ResultVar) (rest:List (List RV)):Exit→AS→Prop
 | .normal,s=>∃ b l,resC (resA P s rv) (fun v=>v = .r (.bo b))∧(s.rows 999).c = .gh P l false (if b then some rest else none)
 | .ret,s=>∃ b l,resC (resA P s rv) (fun v=>v = .r (.bo b))∧(s.rows 999).c = .gh P l false (if b then some rest else none)
 | _,_=>False
theorem ycalls_stR {P:Program}{f:FuncId}{fn:Func}{c:Code}{n:Nat}{rv:ResultVar}{args:Nat→List RV}{xs:List (List RV)}(hf:P.funcs[f]? = some fn) (hb:fn.body=some c) (hc:callable P f=true) (hn:fn.ntmps=n) (hres:fn.results.toList=[rv])
 (hargs:∀ l,(args l).length≤n) (h:∀ C l rest,C.rd=none→awp P C c (ypostR P rv rest) (st n (argL 0 (args l)) (fun _=>0) [(999,.gh P l false (some (xs++rest)))])):YCalls P f args xs:=by
 refine⟨hc,fun rest w R vs X Ψ Θ hR hV hz hRX hn0 hY hΨ hΘ hRΘ hX=>?_⟩
 have hlen:=RV.relV_length hV
 simp only[Array.length_toList] at hlen
 have hal:=hargs X.l
 obtain⟨X',hX'⟩:∃ X':XS,X'=X.since w.heap.size R Ψ Θ:=⟨_,rfl⟩
 have hl':X'.l=X.l:=by rw[hX'];rfl
 have hz':X'.z=false:=by rw[hX'];exact hz
 have hn':X'.n0=w.heap.size:=by rw[hX'];rfl
 have hR':X'.R=R:=by rw[hX'];rfl
 have hY':YOk P X':=by rw[hX'];exact hY.since hRX hn0
 have hXX:X'.X (some (xs++rest)) w Ψ Θ:=by rw[hX'];exact⟨hX,Nat.le_refl _,fun b h=>.inl h,fun b h=>.inl h⟩
 let C:Ctx:={ w0:=w,R0:=R,bor:=Θ,pin:=fun _=>none,X:=X' }
 let p:Plan:={ R:=R,β:=fun _=>none,γ:=fun _=>1,X:=X',Ψ:=Ψ,Θ:=Θ }
 have hs:SR C p (st n (argL 0 (args X.l)) (fun _=>0) [(999,.gh P X.l false (some (xs++rest)))]) { tmps:=vs++Array.replicate (fn.ntmps-vs.size) undef,defers:=[] } w:={
  base:=⟨rfl,rfl,rfl,Nat.le_refl _,fun _ _ _ _=>rfl⟩
  r0:=fun _ h=>h
  rn:=fun _ h=>.inl h
  rb:=hR
  tm:=fun t=>by
   show (look (argL 0 (args X.l)) t).rel _ _ _ _
   by_cases hmem:∃ x,(t,x)∈argL 0 (args X.l)
   ·cases e:(args X.l)[t]? with
    | none =>
      obtain⟨x,hx⟩:=hmem
      obtain⟨i,y,h1,h2⟩:=argL_mem _ hx
      simp only[Nat.zero_add,Prod.mk.injEq] at h1
      rw[← h1.1,e] at h2;cases h2
    | some x =>
      obtain⟨u,hu,hx⟩:=RV.relV_get hV e
      have:(vs++Array.replicate (fn.ntmps-vs.size) undef).getD t undef=u:=by
       have ht:t<vs.size:=by have:=(List.getElem?_eq_some_iff.1 hu).1;simpa using this
       rw[Array.getD_eq_getD_getElem?,Array.getElem?_append_left ht]
       simp only[Array.getElem?_toList] at hu
       rw[hu];rfl
      have e2:=argL_look (k:=0) e
      rw[Nat.zero_add] at e2
      rw[this,e2]
      simpa only[AV.rel] using hx
   ·rw[look_none hmem]
    exact AV.rel_un _ _ _ _
  sz:=by simp only[Array.size_append,Array.size_replicate,st];omega
  ex:={
   px:=rfl
   n0:=by show X'.n0≤w.heap.size;rw[hn'];exact Nat.le_refl _
   ψ0:=fun _ b hb=>by show X'.R b;rw[hR'];exact hb
   ψl:=hΨ
   θl:=hΘ
   ψb:=fun k b h=>by cases h
   ψr:=hRΘ
   ψo:=fun b h=>h.elim
   θo:=fun b h _=>h
   bo:=fun b h=>h.elim (hΘ b) (fun h=>h.elim)
   ψn:=fun hn=>(hn _ _ _ _ hXX).elim
   hd:=fun b h=>h.elim
   rm:=fun _=>rfl
   df:=⟨[],rfl,List.nodup_nil,fun D hD=>by cases hD⟩ }
  rw:=fun k=>by
   show zrl w p _ k (lookc [(999,RowC.gh P X.l false (some (xs++rest)))] k)
   rw[zlc,lookc_nil]
   split
   ·rename_i e
    simp only[zrl];exact⟨e,rfl,rfl,hl',hz',hY',hXX⟩
   ·simp only[zrl];exact⟨rfl,rfl⟩
  bl:=fun k b h=>by simp [p] at h
  ij:=fun k k' b h=>by simp [p] at h
  cap:=fun k=>by simp [p,maxLen]
  pn:=fun k x h=>by cases h
  lk:=fun j km n l cur h _=>by
   have h':lookc [(999,RowC.gh P X.l false (some (xs++rest)))] j = .mi km n l cur:=h
   rw[zlc,lookc_nil] at h'
   split at h'<;>cases h' }
 refine callsIn_wide.1 (callsIn_of_wp_marks (n:=0) hf hb trivial (wpIn_mono (h C X.l rest rfl _ w ⟨p,hs⟩) ?_))
 rintro e a' w' ⟨s',⟨p',hs'⟩,hq⟩
 have fin:∀ (a':Act) (w':World),SR C p' s' a' w'→(∃ b l,resC (resA P s' rv) (fun v=>v = .r (.bo b))∧(s'.rows 999).c = .gh P l false (if b then some rest else none)) →
  ∃ v, (results fn a'.tmps).run P w' = .ok v w'∧(w'.os=w.os∧w'.tape=w.tape∧w'.output=w.output∧w.heap.size≤w'.heap.size∧(∀ b, b<w.heap.size→¬ Θ b→w'.heap[b]? = w.heap[b]?) ∧
    ∃ Ψ' Θ':Nat→Prop,(∀ b,Ψ' b→Ψ b∨R b∨w.heap.size≤b)∧(∀ b,Θ' b→Θ b∨w.heap.size≤b)∧(∀ b,Ψ' b→b<w'.heap.size)∧(∀ b,Θ' b→b<w'.heap.size) ∧
    ((Ending.returned v = .returned (.bool true)∧X.X (some rest) w' Ψ' Θ')∨(Ending.returned v = .returned (.bool false)∧X.X none w' Ψ' Θ'))):=fun a' w' hs' ⟨b,l,hb1,hb2⟩=>by
  obtain⟨v,hu0,hv0⟩:=run_result hs' rv hb1.1
  have hv:v = .bool b:=by
   rw[hb1.2] at hv0
   simpa only[AV.rel,RV.rel] using hv0
  have hu:(resOp a'.tmps rv).run P w' = .ok (.bool b) w':=by rw[← hv];exact hu0
  have hm:(fn.results.mapM (resOp a'.tmps)).run P w' = .ok #[.bool b] w':=by
   rw[Array.mapM_eq_mapM_toList,hres]
   simp only[Sem.run_map,List.mapM_cons,List.mapM_nil,Sem.run_bind,hu,Result.andThen_ok,Sem.run_pure]
  have hpx:p'.X=X':=hs'.ex.px
  have hr:=hs'.rw 999
  rw[hb2] at hr
  simp only[zrl] at hr
  rw[hpx] at hr
  have hXe:=hr.2.2.2.2.2.2
  refine⟨.bool b,by rw[results_eq,Sem.run_bind,hm];simp,hs'.base.os,hs'.base.tape,hs'.base.output,hs'.base.size,fun k hk ht=>hs'.base.block k hk ht (fun h=>h),p'.Ψ,p'.Θ,?_,?_,hs'.ex.ψl,hs'.ex.θl,?_⟩
  ·rw[hX'] at hXe;exact hXe.2.2.1
  ·rw[hX'] at hXe;exact hXe.2.2.2
  ·rw[hX'] at hXe
   cases b
   ·exact .inr ⟨rfl,hXe.1⟩
   ·exact .inl ⟨rfl,hXe.1⟩
 cases e with
 | normal=>exact hs'.leave fun a'' w'' _ hs''=>fin a'' w'' hs'' hq
 | ret=>exact hs'.leave fun a'' w'' _ hs''=>fin a'' w'' hs'' hq
 | _=>exact hq.elim
end Go.Oc

namespace Go.Proofs.YtonpmcdkncbjoaaGreat.Du
open Go Go.Oc
set_option maxRecDepth 8000
set_option maxHeartbeats 4000000
theorem fitG_sub {n:Nat}{F:(Nat→Nat)→Bool→List (Nat × AV)}{R:(Nat→Nat)→Bool→List (Nat × RowC)}{s s':AS}(h:Sub s s') (hf:FitG n F R s'):FitG n F R s:=by
 obtain⟨vs,z,hs⟩:=hf
 exact⟨vs,z,fun C a w hw=>hs C a w (h C a w hw)⟩
theorem clipB_ok (l:List Int) (hl:l.length≤1000):ACalls Tryz.prog 88 [ints l] (if l=[] then .ns else .sx 1 (l.map fun x=>[i64 x])):=by
 refine zas (rs:=[if l=[] then .ns else .sx 1 (l.map fun x=>[i64 x])]) [.tmp 2] Tryz.func88 rfl (by kernel_rfl) Tryz.ntmps88 rfl (by simp) rfl fun C vs=>?_
 repeat apply zq
 refine zb fun K hK=>?_;simp only[go_sem];(try simp (disch:=omega) only[zI]);repeat first|intro _|refine⟨by omega,?_⟩
 apply hK;clear hK K;apply zw (zk [0]);simp only[go_sem]
 repeat apply zq
 refine awp_long ?_
 refine sops_take 5 (by kernel_rfl) fun K hK=>?_
 simp only[go_sem,List.take_succ_cons,List.take_zero,List.drop_succ_cons,List.drop_zero,List.append_eq,List.cons_append,List.nil_append];(try simp (disch:=omega) only[zI]);repeat first|intro _|refine⟨by omega,?_⟩
 refine hK _ rfl ?_
 clear hK K
 refine sops_sub (zk [3,5,7]) ?_
 simp only[go_sem]
 refine sops_gop rfl (by intro t h;injection h with h;subst h;show 8<9;decide) (by intro c h;cases h) (gop_clip rfl (s:=_) ty35 (sz:=1) (es:=l.map fun x=>[i64 x]) rfl (k1:=.i64) (k2:=.i64) (by simp only[go_sem,List.length_map]) (by simp only[go_sem,List.length_map]) ?_)
 try simp only[go_sem]
 refine sops_end (by kernel_rfl) fun K hK=>?_
 simp only[go_sem,List.drop_succ_cons,List.drop_zero,List.append_eq,List.cons_append,List.nil_append];(try simp (disch:=omega) only[zI]);repeat first|intro _|refine⟨by omega,?_⟩
 apply hK;clear hK K;apply zw (zk [2]);simp only[go_sem];apply ze;simp only[go_sem]
 by_cases h:l=[]
 ·subst h;simp
  exact leL_refl.le_refl _
 ·have:¬ (l.map fun x=>[i64 x])=[]:=by simpa using h
  simp only[if_neg h,if_neg this];exact leL_refl.le_refl _
def vI (b:Nat→Bool) (j:Nat) (v:AV):AV:=if b j then v else .r .un
def ygF (bs:List Int) (g:Int) (cs:List (List Int)) (k1 k y q x:Int) (B fi:List Int) (cl:RV) (ll:Nat) (gd:Bool) (b:Nat→Bool) (vs:Nat→Nat) (z:Bool):List (Nat × AV) :=
 [(5,.r (.rp [brdP bs g cs])),(7,.r (.rp [i64 k1])),(8,.r (.rp [ints fi])),(9,.r (.rp [.yl ll])),(10,.pt 10 (vs 10) 0),(11,.r (.rp [i64 x])),(12,.r (i64 y)),
  (23,vI b 0 (.r (brdP bs g cs))),
  (24,vI b 1 (.r (brdP bs g cs))),
  (25,vI b 2 (.r (.rp [tabR cs]))),
  (26,vI b 3 (.r (tabR cs))),
  (27,vI b 4 (.r (i64 k1))),
  (28,vI b 5 (.r (i64 k))),
  (29,vI b 6 (.r (.rp [ints B]))),
  (30,vI b 7 (.r (ints B))),
  (31,vI b 8 (.r (i64 y))),
  (32,vI b 9 (.r (.rp [i64 q]))),
  (33,vI b 10 (.r (i64 q))),
  (34,vI b 11 (.r (.bo gd))),
  (35,vI b 12 (.r (.bo gd))),
  (36,vI b 13 (.r (brdP bs g cs))),
  (37,vI b 14 (.r (i64 y))),
  (38,vI b 15 (.r (i64 k1))),
  (39,vI b 16 (.r (i64 k))),
  (40,vI b 17 (.r (ints fi))),
  (41,vI b 18 (.r cl)),
  (42,vI b 19 (.r (.rp [i64 x]))),
  (43,vI b 20 (.r (i64 x))),
  (44,vI b 21 (.r (.sl 1 [[i64 x]]))),
  (45,vI b 22 (.r (ints (fi++[x])))),
  (46,vI b 23 (.r (.yl ll))),
  (47,vI b 24 (.r (.bo z))),
  (48,vI b 25 (.r (.bo (!z)))),
  (49,vI b 26 (.r (.bo (!z))))]
def ygR (SA:(Nat→Nat)→List AV) (us:List Value) (G:Bool→Bool→RowC) (b:Nat→Bool) (vs:Nat→Nat) (z:Bool):List (Nat × RowC) :=
 [(0,.sus (SA vs) us),(10,.box [.r (.bo false)]),(999,G (b 24) z)]
def ygF2 (bs:List Int) (g:Int) (cs:List (List Int)) (k1 k y q x:Int) (B fi:List Int) (cl:RV) (ll:Nat) (gd:Bool) (b:Nat→Bool) (vs:Nat→Nat) (z:Bool):List (Nat × AV) :=
 [(5,.r (.rp [brdP bs g cs])),(7,.r (.rp [i64 k1])),(8,.r (.rp [ints fi])),(9,.r (.rp [.yl ll])),(10,.pt 10 (vs 10) 0),(11,.r (.rp [i64 x])),(12,.r (i64 y)),
  (23,vI b 0 (.r (brdP bs g cs))),
  (24,vI b 1 (.r (brdP bs g cs))),
  (25,vI b 2 (.r (.rp [tabR cs]))),
  (26,vI b 3 (.r (tabR cs))),
  (27,vI b 4 (.r (i64 k1))),
  (28,vI b 5 (.r (i64 k))),
  (29,vI b 6 (.r (.rp [ints B]))),
  (30,vI b 7 (.r (ints B))),
  (31,vI b 8 (.r (i64 y))),
  (32,vI b 9 (.r (.rp [i64 q]))),
  (33,vI b 10 (.r (i64 q))),
  (34,vI b 11 (.r (.bo gd))),
  (35,vI b 12 (.r (.bo gd))),
  (36,vI b 13 (.r .ud)),
  (37,vI b 14 (.r .ud)),
  (38,vI b 15 (.r .ud)),
  (39,vI b 16 (.r .ud)),
  (40,vI b 17 (.r .ud)),
  (41,vI b 18 (.r .ud)),
  (42,vI b 19 (.r .ud)),
  (43,vI b 20 (.r .ud)),
  (44,vI b 21 (.r .ud)),
  (45,vI b 22 (.r .ud)),
  (46,vI b 23 (.r .ud)),
  (47,vI b 24 (.r .ud)),
  (48,vI b 25 (.r .ud)),
  (49,vI b 26 (.r (.bo false)))]
def ygR2 (SA:(Nat→Nat)→List AV) (us:List Value) (G:RowC) (b:Nat→Bool) (vs:Nat→Nat) (z:Bool):List (Nat × RowC) :=
 [(0,.sus (SA vs) us),(10,.box [.r (.bo false)]),(999,G)]
attribute [go_sem] ygF ygR ygF2 ygR2 vI
theorem ways_zero (bs:List Int) (g:Int) (m dn s:Nat) (fi:List Int):YCalls Tryz.prog 55 (fun ll=>[brdP bs g (cntO g bs m dn),i64 (s:Int),i64 ((0:Nat):Int),ints fi,.yl ll]) ((waysO g bs m 0 s fi).map fun w=>[ints w]):=by
 generalize cntO g bs m dn=cs
 have z0:(((0:Nat):Int) == 0)=true:=rfl
 refine ycalls_stR (n:=50) (rv:=.cell 10 4) Tryz.func55 rfl (by kernel_rfl) Tryz.ntmps55 rfl (by simp) fun C ll rest hC=>?_
 repeat apply zq
 refine zb fun K hK=>?_;simp only[go_sem];(try simp (disch:=omega) only[zI]);repeat first|intro _|refine⟨by omega,?_⟩
 apply hK;clear hK K;refine zw (zfP 5 5 [brdP bs g cs] (by omega) rfl rfl) ?_;refine zw (zfP 7 7 [i64 ((0:Nat):Int)] (by omega) rfl rfl) ?_;refine zw (zfP 8 8 [ints fi] (by omega) rfl rfl) ?_;refine zw (zfP 9 9 [.yl ll] (by omega) rfl rfl) ?_;apply zw (zk [1,5,7,8,9,10]);simp only[go_sem]
 repeat apply zq
 refine zb fun K hK=>?_;simp only[go_sem,z0];(try simp (disch:=omega) only[zI]);repeat first|intro _|refine⟨by omega,?_⟩
 apply hK;clear hK K;apply zw (zk [8,9,10,14]);simp only[go_sem]
 repeat apply zq
 apply zc rfl<;>intro hc<;>(try simp only[go_sem] at hc)
 repeat apply zq
 refine zb fun K hK=>?_;simp only[go_sem];(try simp (disch:=omega) only[zI])
 refine xcall_yield (e:=[ints fi]) (rest:=rest) (by simp only[go_sem,waysO,List.map_cons,List.map_nil,List.cons_append,List.nil_append]) rfl (by simp only[go_sem]) (.inr rfl) ?_ ?_
 ·simp only[go_sem];repeat first|intro _|refine⟨by omega,?_⟩
  apply hK;clear hK K;apply zw (zk [10]);simp only[go_sem];apply ze;exact⟨true,ll,by simp only[go_sem],rfl⟩
 ·simp only[go_sem];repeat first|intro _|refine⟨by omega,?_⟩
  apply hK;clear hK K;apply zw (zk [10]);simp only[go_sem];apply ze;exact⟨false,ll,by simp only[go_sem],rfl⟩
theorem ways_succ (bs:List Int) (g:Int) (hB:∀ b∈bs,bedOk b=true∧0≤b∧b≤499) (m dn:Nat) (hm:m≤1000) (k s:Nat) (fi:List Int) (hs:s≤m) (hk:k+1≤dn) (hf:fi.length+(k+1)≤9)
 (ih:∀ (y:Nat) (x:Int),y≤m→YCalls Tryz.prog 55 (fun ll=>[brdP bs g (cntO g bs m dn),i64 (y:Int),i64 (k:Int),ints (fi++[x]),.yl ll]) ((waysO g bs m k y (fi++[x])).map fun w=>[ints w])) :
 YCalls Tryz.prog 55 (fun ll=>[brdP bs g (cntO g bs m dn),i64 (s:Int),i64 ((k+1:Nat):Int),ints fi,.yl ll]) ((waysO g bs m (k+1) s fi).map fun w=>[ints w]):=by
 have hBl0:=rowN_len g bs m k
 have hck0:(cntO g bs m dn)[k]? = some (rowN g bs m k):=by
  unfold cntO
  rw[List.getElem?_map,List.getElem?_range (by omega)]
  rfl
 have hcl0:=cnt_len g bs m dn
 have hb1:∀ b∈bs,bedOk b=true:=fun b h=>(hB b h).1
 have hmem:=fun x (hx:x∈throwsO g (s:Int) bs)=>throws_mem hb1 hx
 have hwd:(waysO g bs m (k+1) (s:Int) fi)=(throwsO g (s:Int) bs).flatMap fun x=>if 0<(rowN g bs m k).getD x.2.toNat 0 then waysO g bs m k x.2 (fi++[x.1]) else []:=rfl
 rw[hwd]
 have hcl:=clipB_ok fi (by omega)
 obtain⟨cl,hcl2⟩:∃ cl,cl=(if fi=[] then .ns else .sx 1 (fi.map fun x=>[i64 x]):RV):=⟨_,rfl⟩
 have hclv:(fi=[]∧cl = .ns)∨cl = .sx 1 (fi.map fun x=>[i64 x]):=by
  rw[hcl2]
  by_cases e:fi=[]
  ·exact .inl ⟨e,if_pos e⟩
  ·exact .inr (if_neg e)
 rw[← hcl2] at hcl
 generalize cntO g bs m dn=cs at *
 generalize rowN g bs m k=B at *
 have hth:=throws_ok bs g cs (s:Int)
 have hit:=throws1_ok bs g cs (s:Int) (by omega) (fun b h=>(hB b h).2)
 generalize hT:throwsO g (s:Int) bs=T at *
 obtain⟨H,hH⟩:∃ H:Int × Int→List (List Int),H=fun x=>if 0<B.getD x.2.toNat 0 then waysO g bs m k x.2 (fi++[x.1]) else []:=⟨_,rfl⟩
 rw[← hH]
 have z0:(((k+1:Nat):Int) == 0)=false:=by rw[beq_eq_false_iff_ne];omega
 have z1:((k:Int)+1 == 0)=false:=by rw[beq_eq_false_iff_ne];omega
 refine ycalls_stR (n:=50) (rv:=.cell 10 4) Tryz.func55 rfl (by kernel_rfl) Tryz.ntmps55 rfl (by simp) fun C ll rest hC=>?_
 repeat apply zq
 refine zb fun K hK=>?_;simp only[go_sem];(try simp (disch:=omega) only[zI]);repeat first|intro _|refine⟨by omega,?_⟩
 apply hK;clear hK K;refine zw (zfP 5 5 [brdP bs g cs] (by omega) rfl rfl) ?_;refine zw (zfP 7 7 [i64 ((k+1:Nat):Int)] (by omega) rfl rfl) ?_;refine zw (zfP 8 8 [ints fi] (by omega) rfl rfl) ?_;refine zw (zfP 9 9 [.yl ll] (by omega) rfl rfl) ?_;apply zw (zk [1,5,7,8,9,10]);simp only[go_sem]
 repeat apply zq
 refine zb fun K hK=>?_;simp only[go_sem,z0,z1];(try simp (disch:=omega) only[zI]);repeat first|intro _|refine⟨by omega,?_⟩
 apply hK;clear hK K;apply zw (zk [1,5,7,8,9,10,14]);simp only[go_sem]
 repeat apply zq
 apply zc rfl<;>intro hc<;>(try simp only[go_sem] at hc)
 apply zx
 try simp only[go_sem]
 repeat apply zq
 refine zb fun K hK=>?_;simp only[go_sem];(try simp (disch:=omega) only[zI])
 refine zh (hth) rfl (by simp only[go_sem,i64,ints]) (by simp only[go_sem,i64,ints]) ?_
 (try simp only[go_sem]);(try simp (disch:=omega) only[zI]);repeat first|intro _|refine⟨by omega,?_⟩
 apply hK;clear hK K;apply zw (zk [5,7,8,9,10,20]);simp only[go_sem]
 obtain⟨rem,hrem⟩:∃ rem:Nat→List (List RV),rem=fun i=>((T.drop i).flatMap H).map fun w=>[ints w]:=⟨_,rfl⟩
 have hr0:(T.flatMap H).map (fun w=>[ints w])=rem 0:=by rw[hrem];rfl
 have hrE:rem T.length=[]:=by rw[hrem];simp
 have hrS:∀ (i:Nat) (x:Int × Int),T[i]? = some x→rem i=((H x).map fun w=>[ints w])++rem (i+1):=fun i x hx=>by
  rw[hrem]
  have hd:T.drop i=x::T.drop (i+1):=by
   obtain⟨h1,h2⟩:=List.getElem?_eq_some_iff.1 hx
   rw[List.drop_eq_getElem_cons h1,h2]
  simp only[hd,List.flatMap_cons,List.map_append]
 rw[hr0]
 repeat apply zq
 apply zd
 refine awp_rangeFY hC (T.map thrR) hit [5,7,8,9,10,20] (by decide) (fun vs=>[(5,.r (.rp [brdP bs g cs])),(7,.r (.rp [i64 ((k+1:Nat):Int)])),(8,.r (.rp [ints fi])),(9,.r (.rp [.yl ll])),(10,.pt 10 (vs 10) 0),(20,.r (.fn 105 [.rp [brdP bs g cs],.rp [i64 (s:Int)]]))])
  (fun i vs=>[(10,.box [.r (.bo false)]),(999,.gh Tryz.prog ll false (some (rem i++rest)))]) (fun _=>True) (zj [] ?_ ?_) trivial (fun _=>rfl) (fun _=>rfl) (fun _ _=>rfl) (fun i vs=>⟨ll,_,rfl⟩) (by simp) (fun e he=>by obtain⟨x,_,rfl⟩:=List.mem_map.1 he;rfl) ?_ ?_
 ·try simp only[go_sem]
 ·try simp only[go_sem]
 ·intro i e vs us C' he _
  rw[List.getElem?_map] at he
  obtain⟨x,hx,rfl⟩:=Option.map_eq_some_iff.1 he
  obtain⟨m1,m2,m3,m4⟩:=hmem x (zmo hx)
  have hst:=hrS i x hx
  obtain⟨y,hy⟩:∃ y:Nat,x.2=y:=⟨x.2.toNat,by omega⟩
  have hHx:H x=if 0<B.getD x.2.toNat 0 then waysO g bs m k x.2 (fi++[x.1]) else []:=by rw[hH]
  have hY:=ih y x.1 (by omega)
  rw[hy,Int.toNat_natCast] at hHx
  obtain⟨bd,lf⟩:=x
  simp only at hy hHx hY m1 m2 m3 m4
  subst hy
  have hyB:y<B.length:=by omega
  obtain⟨q,hq⟩:=zol hyB
  have hqg:B.getD y 0=q:=by simp [List.getD,hq]
  rw[hqg] at hHx
  have hBk:k<cs.length:=by omega
  have w1:IntKind.i64.wrap (((k+1:Nat):Int)-1)=(k:Int):=by rw[zI]<;>omega
  have w2:IntKind.i64.wrap ((k:Int)+1-1)=(k:Int):=by rw[zI]<;>omega
  generalize rem (i+1)=rem1 at *
  rw[hst]
  clear hst
  simp only[thrR]
  repeat apply zq
  refine zb fun K hK=>?_;simp only[go_sem];(try simp (disch:=omega) only[zI]);repeat first|intro _|refine⟨by omega,?_⟩
  apply hK;clear hK K;refine zw (zfP 11 11 [i64 bd] (by omega) rfl rfl) ?_;apply zw (zk [5,7,8,9,10,11,20,22]);simp only[go_sem]
  repeat apply zq
  refine zb fun K hK=>?_;simp only[go_sem];(try simp (disch:=omega) only[zI]);repeat first|intro _|refine⟨by omega,?_⟩
  apply hK;clear hK K
  refine⟨rfl,⟨ll,_,rfl⟩,fun C'=>?_⟩
  apply zw (zk [5,7,8,9,10,11,12]);simp only[go_sem]
  repeat apply zq
  apply zd
  by_cases hp:0<q
  ·rw[if_pos hp] at hHx
   have hq1:decide (0<q)=true:=decide_eq_true hp
   rw[hHx]
   generalize hXX:(waysO g bs m k (y:Int) (fi++[bd])).map (fun w=>[ints w])=X at *
   rw[List.append_assoc]
   generalize rem1++rest=rest1 at *
   repeat apply zq
   obtain⟨SA,hSA⟩:∃ SA:(Nat→Nat)→List AV,SA=fun vs=>[.r (.rp [brdP bs g cs]),.r (.rp [i64 ((k+1:Nat):Int)]),.r (.rp [ints fi]),.r (.rp [.yl ll]),.pt 10 (vs 10) 0,.r (.fn 105 [.rp [brdP bs g cs],.rp [i64 (s:Int)]])]:=⟨_,rfl⟩
   obtain⟨GG,hG0,hG1,hG2⟩:∃ GG:Bool→Bool→RowC,(∀ z,GG false z = .gh Tryz.prog ll false (some (X++rest1)))∧GG true true = .gh Tryz.prog ll false (some rest1)∧GG true false = .gh Tryz.prog ll false none :=
    ⟨fun x z=>bif x then (bif z then .gh Tryz.prog ll false (some rest1) else .gh Tryz.prog ll false none) else .gh Tryz.prog ll false (some (X++rest1)),fun _=>rfl,rfl,rfl⟩
   have E:=And.intro hck0 (And.intro hBk (And.intro hyB (And.intro hq (And.intro hq1 (And.intro w1 (And.intro w2 (And.intro hSA (And.intro hG0 (And.intro hG1 hG2)))))))))
   refine awp_invY (n:=50) (ygF bs g cs ((k+1:Nat):Int) (k:Int) (y:Int) q bd B fi cl ll true) (ygR SA us GG) follows (by kernel_rfl) (by decide +kernel) (fitG_of true (zj [] ?_ ?_)) ?_ ?_
   ·simp only[go_sem,ygF,vI,if_true,if_false,Bool.false_eq_true,cond_false]
   ·simp only[go_sem,ygR,cond_false,hSA,hG0,List.cons_append,List.nil_append]
    try exact congrArg _ (hG0 _).symm
   refine⟨fun b vs z hdn hbk hde=>?_,fun b vs z hdn hbk hde=>?_,fun b vs z hdn hbk hde=>?_,fun b vs z hdn hbk hde=>?_,fun b vs z hdn hbk hde=>?_,fun b vs z hdn hbk hde=>?_,fun b vs z hdn hbk hde=>?_,fun b vs z hdn hbk hde=>?_,fun b vs z hdn hbk hde=>?_,fun b vs z hdn hbk hde=>?_,fun b vs z hdn hbk hde=>?_,fun b vs z hdn hbk hde=>?_,fun b vs z hdn hbk hde=>?_,fun b vs z hdn hbk hde=>?_,fun b vs z hdn hbk hde=>?_,fun b vs z hdn hbk hde=>?_,fun b vs z hdn hbk hde=>?_,fun b vs z hdn hbk hde=>?_,fun b vs z hdn hbk hde=>?_,fun b vs z hdn hbk hde=>?_,fun b vs z hdn hbk hde=>?_,fun b vs z hdn hbk hde=>?_,fun b vs z hdn hbk hde=>?_,fun b vs z hdn hbk hde=>?_,fun b vs z hdn hbk hde=>?_,fun b vs z hdn hbk hde=>?_,fun b vs z hdn hbk hde=>?_,trivial⟩
   ·skip
    have G:=dnT hdn hbk [1,2,3,6,7,9,10,11,12,13,14,15,16,17,18,19,20,21,22,23,24,25,26] (by decide +kernel)
    simp only[allB,and_true] at G
    refine .inl ⟨trivial,.inl (.inl ?_)⟩
    simp only[go_sem,upd,if_true,Bool.false_eq_true,if_false,hbk,G,E]
    refine fitG_of z (zj [] ?_ ?_)<;>simp only[go_sem,upd,if_true,Bool.false_eq_true,if_false,hbk,G,E]
   ·skip
    have H:=upT hdn hde [0] (by decide +kernel)
    have G:=dnT hdn hbk [2,3,6,7,9,10,11,12,13,14,15,16,17,18,19,20,21,22,23,24,25,26] (by decide +kernel)
    simp only[allB,and_true] at H G
    refine .inl ⟨trivial,.inl (.inl ?_)⟩
    simp only[go_sem,upd,if_true,Bool.false_eq_true,if_false,hbk,H,G,E]
    refine fitG_of z (zj [] ?_ ?_)<;>simp only[go_sem,upd,if_true,Bool.false_eq_true,if_false,hbk,H,G,E]
   ·skip
    have H:=upT hdn hde [1,0] (by decide +kernel)
    have G:=dnT hdn hbk [3,6,7,9,10,11,12,13,14,15,16,17,18,19,20,21,22,23,24,25,26] (by decide +kernel)
    simp only[allB,and_true] at H G
    refine .inl ⟨trivial,.inl (.inl ?_)⟩
    simp only[go_sem,upd,if_true,Bool.false_eq_true,if_false,hbk,H,G,E]
    refine fitG_of z (zj [] ?_ ?_)<;>simp only[go_sem,upd,if_true,Bool.false_eq_true,if_false,hbk,H,G,E]
   ·skip
    have H:=upT hdn hde [2,1,0] (by decide +kernel)
    have G:=dnT hdn hbk [6,7,9,10,11,12,13,14,15,16,17,18,19,20,21,22,23,24,25,26] (by decide +kernel)
    simp only[allB,and_true] at H G
    refine .inl ⟨trivial,.inl (.inl ?_)⟩
    simp only[go_sem,upd,if_true,Bool.false_eq_true,if_false,hbk,H,G,E]
    refine fitG_of z (zj [] ?_ ?_)<;>simp only[go_sem,upd,if_true,Bool.false_eq_true,if_false,hbk,H,G,E]
   ·skip
    have G:=dnT hdn hbk [5,6,7,9,10,11,12,13,14,15,16,17,18,19,20,21,22,23,24,25,26] (by decide +kernel)
    simp only[allB,and_true] at G
    refine .inl ⟨trivial,.inl (.inl ?_)⟩
    simp only[go_sem,upd,if_true,Bool.false_eq_true,if_false,hbk,G,E]
    refine fitG_of z (zj [] ?_ ?_)<;>simp only[go_sem,upd,if_true,Bool.false_eq_true,if_false,hbk,G,E]
   ·skip
    have H:=upT hdn hde [4] (by decide +kernel)
    have G:=dnT hdn hbk [6,7,9,10,11,12,13,14,15,16,17,18,19,20,21,22,23,24,25,26] (by decide +kernel)
    simp only[allB,and_true] at H G
    refine .inl ⟨trivial,.inl (.inl ?_)⟩
    simp only[go_sem,upd,if_true,Bool.false_eq_true,if_false,hbk,H,G,E]
    refine fitG_of z (zj [] ?_ ?_)<;>simp only[go_sem,upd,if_true,Bool.false_eq_true,if_false,hbk,H,G,E]
   ·skip
    have H:=upT hdn hde [3,5,2,4,1,0] (by decide +kernel)
    have G:=dnT hdn hbk [7,9,10,11,12,13,14,15,16,17,18,19,20,21,22,23,24,25,26] (by decide +kernel)
    simp only[allB,and_true] at H G
    refine .inl ⟨trivial,.inl (.inl ?_)⟩
    simp only[go_sem,upd,if_true,Bool.false_eq_true,if_false,hbk,H,G,E]
    all_goals (try (refine⟨⟨by omega,by omega⟩,?_⟩))
    refine fitG_of z (zj [] ?_ ?_)<;>simp only[go_sem,upd,if_true,Bool.false_eq_true,if_false,hbk,H,G,E]
   ·skip
    have H:=upT hdn hde [6,3,5,2,4,1,0] (by decide +kernel)
    have G:=dnT hdn hbk [9,10,11,12,13,14,15,16,17,18,19,20,21,22,23,24,25,26] (by decide +kernel)
    simp only[allB,and_true] at H G
    refine .inl ⟨trivial,.inl (.inl ?_)⟩
    simp only[go_sem,upd,if_true,Bool.false_eq_true,if_false,hbk,H,G,E]
    refine fitG_of z (zj [] ?_ ?_)<;>simp only[go_sem,upd,if_true,Bool.false_eq_true,if_false,hbk,H,G,E]
   ·skip
    have G:=dnT hdn hbk [9,10,11,12,13,14,15,16,17,18,19,20,21,22,23,24,25,26] (by decide +kernel)
    simp only[allB,and_true] at G
    refine .inl ⟨trivial,.inl (.inl ?_)⟩
    simp only[go_sem,upd,if_true,Bool.false_eq_true,if_false,hbk,G,E]
    refine fitG_of z (zj [] ?_ ?_)<;>simp only[go_sem,upd,if_true,Bool.false_eq_true,if_false,hbk,G,E]
   ·skip
    have H:=upT hdn hde [7,8,6,3,5,2,4,1,0] (by decide +kernel)
    have G:=dnT hdn hbk [10,11,12,13,14,15,16,17,18,19,20,21,22,23,24,25,26] (by decide +kernel)
    simp only[allB,and_true] at H G
    refine .inl ⟨trivial,.inl (.inl ?_)⟩
    simp only[go_sem,upd,if_true,Bool.false_eq_true,if_false,hbk,H,G,E]
    all_goals (try (refine⟨⟨by omega,by omega⟩,?_⟩))
    refine fitG_of z (zj [] ?_ ?_)<;>simp only[go_sem,upd,if_true,Bool.false_eq_true,if_false,hbk,H,G,E]
   ·skip
    have H:=upT hdn hde [9,7,8,6,3,5,2,4,1,0] (by decide +kernel)
    have G:=dnT hdn hbk [11,12,13,14,15,16,17,18,19,20,21,22,23,24,25,26] (by decide +kernel)
    simp only[allB,and_true] at H G
    refine .inl ⟨trivial,.inl (.inl ?_)⟩
    simp only[go_sem,upd,if_true,Bool.false_eq_true,if_false,hbk,H,G,E]
    refine fitG_of z (zj [] ?_ ?_)<;>simp only[go_sem,upd,if_true,Bool.false_eq_true,if_false,hbk,H,G,E]
   ·skip
    have H:=upT hdn hde [10,9,7,8,6,3,5,2,4,1,0] (by decide +kernel)
    have G:=dnT hdn hbk [12,13,14,15,16,17,18,19,20,21,22,23,24,25,26] (by decide +kernel)
    simp only[allB,and_true] at H G
    refine .inl ⟨trivial,.inl (.inl ?_)⟩
    simp only[go_sem,upd,if_true,Bool.false_eq_true,if_false,hbk,H,G,E]
    refine fitG_of z (zj [] ?_ ?_)<;>simp only[go_sem,upd,if_true,Bool.false_eq_true,if_false,hbk,H,G,E]
   ·skip
    have H:=upT hdn hde [11,10,9,7,8,6,3,5,2,4,1,0] (by decide +kernel)
    have G:=dnT hdn hbk [13,14,15,16,17,18,19,20,21,22,23,24,25,26] (by decide +kernel)
    simp only[allB,and_true] at H G
    refine .inl ⟨trivial,.inl (.inl ?_)⟩
    simp only[go_sem,upd,if_true,Bool.false_eq_true,if_false,hbk,H,G,E]
    refine fitG_of z (zj [] ?_ ?_)<;>simp only[go_sem,upd,if_true,Bool.false_eq_true,if_false,hbk,H,G,E]
   ·skip
    have H:=upT hdn hde [12,11,10,9,7,8,6,3,5,2,4,1,0] (by decide +kernel)
    have G:=dnT hdn hbk [24,25,26] (by decide +kernel)
    simp only[allB,and_true] at H G
    refine .inl ⟨⟨35,by kernel_rfl,by simp only[go_sem,if_true,H]⟩,.inl (.inl ?_)⟩
    simp only[go_sem,upd,if_true,Bool.false_eq_true,if_false,hbk,H,G,E]
    refine fitG_of z (zj [] ?_ ?_)<;>simp only[go_sem,upd,if_true,Bool.false_eq_true,if_false,hbk,H,G,E]
   ·skip
    have H:=upT hdn hde [12,11,10,9,7,8,6,3,5,2,4,1,0] (by decide +kernel)
    have G:=dnT hdn hbk [24,25,26] (by decide +kernel)
    simp only[allB,and_true] at H G
    refine .inl ⟨⟨35,by kernel_rfl,by simp only[go_sem,if_true,H]⟩,.inl (.inl ?_)⟩
    simp only[go_sem,upd,if_true,Bool.false_eq_true,if_false,hbk,H,G,E]
    refine fitG_of z (zj [] ?_ ?_)<;>simp only[go_sem,upd,if_true,Bool.false_eq_true,if_false,hbk,H,G,E]
   ·skip
    have H:=upT hdn hde [12,11,10,9,7,8,6,3,5,2,4,1,0] (by decide +kernel)
    have G:=dnT hdn hbk [16,24,25,26] (by decide +kernel)
    simp only[allB,and_true] at H G
    refine .inl ⟨⟨35,by kernel_rfl,by simp only[go_sem,if_true,H]⟩,.inl (.inl ?_)⟩
    simp only[go_sem,upd,if_true,Bool.false_eq_true,if_false,hbk,H,G,E]
    refine fitG_of z (zj [] ?_ ?_)<;>simp only[go_sem,upd,if_true,Bool.false_eq_true,if_false,hbk,H,G,E]
   ·skip
    have H:=upT hdn hde [12,15,11,10,9,7,8,6,3,5,2,4,1,0] (by decide +kernel)
    have G:=dnT hdn hbk [24,25,26] (by decide +kernel)
    simp only[allB,and_true] at H G
    refine .inl ⟨⟨35,by kernel_rfl,by simp only[go_sem,if_true,H]⟩,.inl (.inl ?_)⟩
    simp only[go_sem,upd,if_true,Bool.false_eq_true,if_false,hbk,H,G,E]
    refine fitG_of z (zj [] ?_ ?_)<;>simp only[go_sem,upd,if_true,Bool.false_eq_true,if_false,hbk,H,G,E]
   ·skip
    have H:=upT hdn hde [12,11,10,9,7,8,6,3,5,2,4,1,0] (by decide +kernel)
    have G:=dnT hdn hbk [18,22,24,25,26] (by decide +kernel)
    simp only[allB,and_true] at H G
    refine .inl ⟨⟨35,by kernel_rfl,by simp only[go_sem,if_true,H]⟩,.inl (.inl ?_)⟩
    simp only[go_sem,upd,if_true,Bool.false_eq_true,if_false,hbk,H,G,E]
    refine fitG_of z (zj [] ?_ ?_)<;>simp only[go_sem,upd,if_true,Bool.false_eq_true,if_false,hbk,H,G,E]
   ·skip
    have H:=upT hdn hde [12,12,17,11,10,9,7,8,6,3,5,2,4,1,0] (by decide +kernel)
    have G:=dnT hdn hbk [22,24,25,26] (by decide +kernel)
    simp only[allB,and_true] at H G
    refine .inl ⟨⟨35,by kernel_rfl,by simp only[go_sem,if_true,H]⟩,.inl (.inl ?_)⟩
    (simp only[go_sem,upd,if_true,Bool.false_eq_true,if_false,hbk,H,G,E])
    refine zh hcl rfl (by simp only[go_sem,i64,ints]) (by simp only[go_sem,i64,ints]) ?_
    (simp only[go_sem,upd,if_true,Bool.false_eq_true,if_false,hbk,H,G,E])
    refine fitG_of z (zj [] ?_ ?_)<;>(simp only[go_sem,upd,if_true,Bool.false_eq_true,if_false,hbk,H,G,E])
   ·skip
    have H:=upT hdn hde [12,11,10,9,7,8,6,3,5,2,4,1,0] (by decide +kernel)
    have G:=dnT hdn hbk [20,21,22,24,25,26] (by decide +kernel)
    simp only[allB,and_true] at H G
    refine .inl ⟨⟨35,by kernel_rfl,by simp only[go_sem,if_true,H]⟩,.inl (.inl ?_)⟩
    simp only[go_sem,upd,if_true,Bool.false_eq_true,if_false,hbk,H,G,E]
    refine fitG_of z (zj [] ?_ ?_)<;>simp only[go_sem,upd,if_true,Bool.false_eq_true,if_false,hbk,H,G,E]
   ·skip
    have H:=upT hdn hde [12,19,11,10,9,7,8,6,3,5,2,4,1,0] (by decide +kernel)
    have G:=dnT hdn hbk [21,22,24,25,26] (by decide +kernel)
    simp only[allB,and_true] at H G
    refine .inl ⟨⟨35,by kernel_rfl,by simp only[go_sem,if_true,H]⟩,.inl (.inl ?_)⟩
    simp only[go_sem,upd,if_true,Bool.false_eq_true,if_false,hbk,H,G,E]
    refine fitG_of z (zj [] ?_ ?_)<;>simp only[go_sem,upd,if_true,Bool.false_eq_true,if_false,hbk,H,G,E]
   ·skip
    have H:=upT hdn hde [12,20,11,19,10,9,7,8,6,3,5,2,4,1,0] (by decide +kernel)
    have G:=dnT hdn hbk [22,24,25,26] (by decide +kernel)
    simp only[allB,and_true] at H G
    refine .inl ⟨⟨35,by kernel_rfl,by simp only[go_sem,if_true,H]⟩,.inl (.inl ?_)⟩
    simp only[go_sem,upd,if_true,Bool.false_eq_true,if_false,hbk,H,G,E]
    refine fitG_of z (zj [] ?_ ?_)<;>simp only[go_sem,upd,if_true,Bool.false_eq_true,if_false,hbk,H,G,E]
   ·skip
    have H:=upT hdn hde [12,18,18,21,11,17,20,10,19,9,7,8,6,3,5,2,4,1,0] (by decide +kernel)
    have G:=dnT hdn hbk [24,25,26] (by decide +kernel)
    simp only[allB,and_true] at H G
    refine .inl ⟨⟨35,by kernel_rfl,by simp only[go_sem,if_true,H]⟩,.inl (.inl ?_)⟩
    rcases hclv with⟨e0,e1⟩|e1
    ·rw[e1]
     (simp only[go_sem,upd,if_true,Bool.false_eq_true,if_false,hbk,H,G,E])
     (try refine⟨⟨by omega,by omega⟩,?_⟩)
     refine fitG_sub (sub_frz (ty:=31) (sz:=1) (off:=0) (m:=1) (es:=[[i64 bd]]) 45 45 (by omega) rfl (by rfl) (by simp)) ?_
     (simp only[go_sem,upd,if_true,Bool.false_eq_true,if_false,hbk,H,G,E,List.drop_zero,e0,List.nil_append])
     refine fitG_of z (zj [] ?_ ?_)<;>(simp only[go_sem,upd,if_true,Bool.false_eq_true,if_false,hbk,H,G,E])
    ·rw[e1]
     (simp only[go_sem,upd,if_true,Bool.false_eq_true,if_false,hbk,H,G,E])
     (try refine⟨⟨by omega,by omega⟩,?_⟩)
     refine fitG_sub (sub_frz (ty:=31) (sz:=1) (off:=0) (m:=fi.length+1) (es:=(fi.map fun x=>[i64 x])++[[i64 bd]]) 45 45 (by omega) rfl (by rfl) (by simp)) ?_
     (simp only[go_sem,upd,if_true,Bool.false_eq_true,if_false,hbk,H,G,E,List.drop_zero])
     refine fitG_of z (zj [] ?_ ?_)<;>(simp only[go_sem,upd,if_true,Bool.false_eq_true,if_false,hbk,H,G,E])
     rw[List.take_of_length_le (by simp)]
     simp
   ·skip
    have H:=upT hdn hde [12,11,10,9,7,8,6,3,5,2,4,1,0] (by decide +kernel)
    have G:=dnT hdn hbk [24,25,26] (by decide +kernel)
    simp only[allB,and_true] at H G
    refine .inl ⟨⟨35,by kernel_rfl,by simp only[go_sem,if_true,H]⟩,.inl (.inl ?_)⟩
    simp only[go_sem,upd,if_true,Bool.false_eq_true,if_false,hbk,H,G,E]
    refine fitG_of z (zj [] ?_ ?_)<;>simp only[go_sem,upd,if_true,Bool.false_eq_true,if_false,hbk,H,G,E]
   ·skip
    have H:=upT hdn hde [12,13,14,16,22,22,23,11,15,18,21,10,17,20,9,19,7,8,6,3,5,2,4,1,0] (by decide +kernel)
    have G:=dnT hdn hbk [25,26] (by decide +kernel)
    simp only[allB,and_true] at H G
    refine .inl ⟨⟨35,by kernel_rfl,by simp only[go_sem,if_true,H]⟩,?_⟩
    refine .inr ⟨55,[],_,_,rest1,ll,rfl,?_,?_,?_,hY,?_,?_⟩
    ·(simp only[go_sem,upd,if_true,Bool.false_eq_true,if_false,hbk,H,G,E])
    ·(simp only[go_sem,upd,if_true,Bool.false_eq_true,if_false,hbk,H,G,E,evs,List.map_cons,List.map_nil])
     try rfl
    ·(simp only[go_sem,upd,if_true,Bool.false_eq_true,if_false,hbk,H,G,E,evs,List.map_cons,List.map_nil])
     first|exact leL_refl _|exact⟨rv_le _,rv_le _⟩|exact⟨rv_le _,rv_le _,rv_le _⟩|skip
    ·rw[row999_st]
     (simp only[go_sem,upd,if_true,Bool.false_eq_true,if_false,hbk,H,G,E])
     refine fitG_of true (zj [] ?_ ?_)<;>(simp only[go_sem,upd,if_true,Bool.false_eq_true,if_false,hbk,H,G,E])
    ·rw[row999_st]
     (simp only[go_sem,upd,if_true,Bool.false_eq_true,if_false,hbk,H,G,E])
     refine fitG_of false (zj [] ?_ ?_)<;>(simp only[go_sem,upd,if_true,Bool.false_eq_true,if_false,hbk,H,G,E])
   ·skip
    have H:=upT hdn hde [12,24,11,13,14,16,22,23,10,15,18,21,9,17,20,7,8,19,6,3,5,2,4,1,0] (by decide +kernel)
    have G:=dnT hdn hbk [26] (by decide +kernel)
    simp only[allB,and_true] at H G
    refine .inl ⟨⟨35,by kernel_rfl,by simp only[go_sem,if_true,H]⟩,.inl (.inl ?_)⟩
    simp only[go_sem,upd,if_true,Bool.false_eq_true,if_false,hbk,H,G,E]
    refine fitG_of z (zj [] ?_ ?_)<;>simp only[go_sem,upd,if_true,Bool.false_eq_true,if_false,hbk,H,G,E]
   ·skip
    have H:=upT hdn hde [12,25,11,24,10,13,14,16,22,23,9,15,18,21,7,8,17,20,6,19,3,5,2,4,1,0] (by decide +kernel)
    simp only[allB,and_true] at H
    refine .inl ⟨trivial,.inl (.inl ?_)⟩
    simp only[go_sem,upd,if_true,Bool.false_eq_true,if_false,hbk,H,E]
    refine fitG_of z (zj [] ?_ ?_)<;>simp only[go_sem,upd,if_true,Bool.false_eq_true,if_false,hbk,H,E]
   intro b vs z hb
   simp only[go_sem,ygF,ygR,vI,hb,if_true,cond_true,List.cons_append,List.nil_append];rw[hSA]
   cases z
   ·rw[hG2]
    apply zw (zk [10,49]);simp only[go_sem]
    repeat apply zq
    apply zc rfl<;>intro hc<;>(try simp only[go_sem] at hc)
    repeat apply zq
    refine zb fun K hK=>?_;simp only[go_sem];(try simp (disch:=omega) only[zI]);repeat first|intro _|refine⟨by omega,?_⟩
    apply hK;clear hK K;apply zw (zk [10]);simp only[go_sem];apply ze
    try simp only[go_sem]
    refine rfY_ret (ll:=ll) (o:=none) rfl (by simp only[go_sem];rfl) ?_
    try simp only[go_sem]
    exact⟨false,ll,by simp only[go_sem],rfl⟩
   ·rw[hG1]
    apply zw (zk [10,49]);simp only[go_sem]
    repeat apply zq
    apply zc rfl<;>intro hc<;>(try simp only[go_sem] at hc)
    apply zx
    try simp only[go_sem]
    refine zj (F:=fun _=>[]) [] ?_ ?_
    ·try simp only[go_sem]
    ·try simp only[go_sem]
  ·rw[if_neg hp] at hHx
   rw[hHx]
   simp only[List.map_nil,List.nil_append]
   have hq1:decide (0<q)=false:=decide_eq_false hp
   repeat apply zq
   obtain⟨SA,hSA⟩:∃ SA:(Nat→Nat)→List AV,SA=fun vs=>[.r (.rp [brdP bs g cs]),.r (.rp [i64 ((k+1:Nat):Int)]),.r (.rp [ints fi]),.r (.rp [.yl ll]),.pt 10 (vs 10) 0,.r (.fn 105 [.rp [brdP bs g cs],.rp [i64 (s:Int)]])]:=⟨_,rfl⟩
   obtain⟨G2,hG2⟩:∃ G2:RowC,G2 = .gh Tryz.prog ll false (some (rem1++rest)):=⟨_,rfl⟩
   rw[← hG2]
   have E:=And.intro hck0 (And.intro hBk (And.intro hyB (And.intro hq (And.intro hq1 (And.intro w1 (And.intro w2 hSA))))))
   refine awp_invY (n:=50) (ygF2 bs g cs ((k+1:Nat):Int) (k:Int) (y:Int) q bd B fi cl ll false) (ygR2 SA us G2) follows (by kernel_rfl) (by decide +kernel) (fitG_of true (zj [] ?_ ?_)) ?_ ?_
   ·simp only[go_sem,ygF2,vI,if_true,if_false,Bool.false_eq_true,cond_false]
   ·simp only[go_sem,ygR2,hSA,List.cons_append,List.nil_append]
   refine⟨fun b vs z hdn hbk hde=>?_,fun b vs z hdn hbk hde=>?_,fun b vs z hdn hbk hde=>?_,fun b vs z hdn hbk hde=>?_,fun b vs z hdn hbk hde=>?_,fun b vs z hdn hbk hde=>?_,fun b vs z hdn hbk hde=>?_,fun b vs z hdn hbk hde=>?_,fun b vs z hdn hbk hde=>?_,fun b vs z hdn hbk hde=>?_,fun b vs z hdn hbk hde=>?_,fun b vs z hdn hbk hde=>?_,fun b vs z hdn hbk hde=>?_,fun b vs z hdn hbk hde=>?_,fun b vs z hdn hbk hde=>?_,fun b vs z hdn hbk hde=>?_,fun b vs z hdn hbk hde=>?_,fun b vs z hdn hbk hde=>?_,fun b vs z hdn hbk hde=>?_,fun b vs z hdn hbk hde=>?_,fun b vs z hdn hbk hde=>?_,fun b vs z hdn hbk hde=>?_,fun b vs z hdn hbk hde=>?_,fun b vs z hdn hbk hde=>?_,fun b vs z hdn hbk hde=>?_,fun b vs z hdn hbk hde=>?_,fun b vs z hdn hbk hde=>?_,trivial⟩
   ·skip
    have G:=dnT hdn hbk [1,2,3,6,7,9,10,11,12,13,14,15,16,17,18,19,20,21,22,23,24,25,26] (by decide +kernel)
    simp only[allB,and_true] at G
    refine .inl ⟨trivial,.inl (.inl ?_)⟩
    simp only[go_sem,upd,if_true,Bool.false_eq_true,if_false,hbk,G,E]
    refine fitG_of z (zj [] ?_ ?_)<;>simp only[go_sem,upd,if_true,Bool.false_eq_true,if_false,hbk,G,E]
   ·skip
    have H:=upT hdn hde [0] (by decide +kernel)
    have G:=dnT hdn hbk [2,3,6,7,9,10,11,12,13,14,15,16,17,18,19,20,21,22,23,24,25,26] (by decide +kernel)
    simp only[allB,and_true] at H G
    refine .inl ⟨trivial,.inl (.inl ?_)⟩
    simp only[go_sem,upd,if_true,Bool.false_eq_true,if_false,hbk,H,G,E]
    refine fitG_of z (zj [] ?_ ?_)<;>simp only[go_sem,upd,if_true,Bool.false_eq_true,if_false,hbk,H,G,E]
   ·skip
    have H:=upT hdn hde [1,0] (by decide +kernel)
    have G:=dnT hdn hbk [3,6,7,9,10,11,12,13,14,15,16,17,18,19,20,21,22,23,24,25,26] (by decide +kernel)
    simp only[allB,and_true] at H G
    refine .inl ⟨trivial,.inl (.inl ?_)⟩
    simp only[go_sem,upd,if_true,Bool.false_eq_true,if_false,hbk,H,G,E]
    refine fitG_of z (zj [] ?_ ?_)<;>simp only[go_sem,upd,if_true,Bool.false_eq_true,if_false,hbk,H,G,E]
   ·skip
    have H:=upT hdn hde [2,1,0] (by decide +kernel)
    have G:=dnT hdn hbk [6,7,9,10,11,12,13,14,15,16,17,18,19,20,21,22,23,24,25,26] (by decide +kernel)
    simp only[allB,and_true] at H G
    refine .inl ⟨trivial,.inl (.inl ?_)⟩
    simp only[go_sem,upd,if_true,Bool.false_eq_true,if_false,hbk,H,G,E]
    refine fitG_of z (zj [] ?_ ?_)<;>simp only[go_sem,upd,if_true,Bool.false_eq_true,if_false,hbk,H,G,E]
   ·skip
    have G:=dnT hdn hbk [5,6,7,9,10,11,12,13,14,15,16,17,18,19,20,21,22,23,24,25,26] (by decide +kernel)
    simp only[allB,and_true] at G
    refine .inl ⟨trivial,.inl (.inl ?_)⟩
    simp only[go_sem,upd,if_true,Bool.false_eq_true,if_false,hbk,G,E]
    refine fitG_of z (zj [] ?_ ?_)<;>simp only[go_sem,upd,if_true,Bool.false_eq_true,if_false,hbk,G,E]
   ·skip
    have H:=upT hdn hde [4] (by decide +kernel)
    have G:=dnT hdn hbk [6,7,9,10,11,12,13,14,15,16,17,18,19,20,21,22,23,24,25,26] (by decide +kernel)
    simp only[allB,and_true] at H G
    refine .inl ⟨trivial,.inl (.inl ?_)⟩
    simp only[go_sem,upd,if_true,Bool.false_eq_true,if_false,hbk,H,G,E]
    refine fitG_of z (zj [] ?_ ?_)<;>simp only[go_sem,upd,if_true,Bool.false_eq_true,if_false,hbk,H,G,E]
   ·skip
    have H:=upT hdn hde [3,5,2,4,1,0] (by decide +kernel)
    have G:=dnT hdn hbk [7,9,10,11,12,13,14,15,16,17,18,19,20,21,22,23,24,25,26] (by decide +kernel)
    simp only[allB,and_true] at H G
    refine .inl ⟨trivial,.inl (.inl ?_)⟩
    simp only[go_sem,upd,if_true,Bool.false_eq_true,if_false,hbk,H,G,E]
    all_goals (try (refine⟨⟨by omega,by omega⟩,?_⟩))
    refine fitG_of z (zj [] ?_ ?_)<;>simp only[go_sem,upd,if_true,Bool.false_eq_true,if_false,hbk,H,G,E]
   ·skip
    have H:=upT hdn hde [6,3,5,2,4,1,0] (by decide +kernel)
    have G:=dnT hdn hbk [9,10,11,12,13,14,15,16,17,18,19,20,21,22,23,24,25,26] (by decide +kernel)
    simp only[allB,and_true] at H G
    refine .inl ⟨trivial,.inl (.inl ?_)⟩
    simp only[go_sem,upd,if_true,Bool.false_eq_true,if_false,hbk,H,G,E]
    refine fitG_of z (zj [] ?_ ?_)<;>simp only[go_sem,upd,if_true,Bool.false_eq_true,if_false,hbk,H,G,E]
   ·skip
    have G:=dnT hdn hbk [9,10,11,12,13,14,15,16,17,18,19,20,21,22,23,24,25,26] (by decide +kernel)
    simp only[allB,and_true] at G
    refine .inl ⟨trivial,.inl (.inl ?_)⟩
    simp only[go_sem,upd,if_true,Bool.false_eq_true,if_false,hbk,G,E]
    refine fitG_of z (zj [] ?_ ?_)<;>simp only[go_sem,upd,if_true,Bool.false_eq_true,if_false,hbk,G,E]
   ·skip
    have H:=upT hdn hde [7,8,6,3,5,2,4,1,0] (by decide +kernel)
    have G:=dnT hdn hbk [10,11,12,13,14,15,16,17,18,19,20,21,22,23,24,25,26] (by decide +kernel)
    simp only[allB,and_true] at H G
    refine .inl ⟨trivial,.inl (.inl ?_)⟩
    simp only[go_sem,upd,if_true,Bool.false_eq_true,if_false,hbk,H,G,E]
    all_goals (try (refine⟨⟨by omega,by omega⟩,?_⟩))
    refine fitG_of z (zj [] ?_ ?_)<;>simp only[go_sem,upd,if_true,Bool.false_eq_true,if_false,hbk,H,G,E]
   ·skip
    have H:=upT hdn hde [9,7,8,6,3,5,2,4,1,0] (by decide +kernel)
    have G:=dnT hdn hbk [11,12,13,14,15,16,17,18,19,20,21,22,23,24,25,26] (by decide +kernel)
    simp only[allB,and_true] at H G
    refine .inl ⟨trivial,.inl (.inl ?_)⟩
    simp only[go_sem,upd,if_true,Bool.false_eq_true,if_false,hbk,H,G,E]
    refine fitG_of z (zj [] ?_ ?_)<;>simp only[go_sem,upd,if_true,Bool.false_eq_true,if_false,hbk,H,G,E]
   ·skip
    have H:=upT hdn hde [10,9,7,8,6,3,5,2,4,1,0] (by decide +kernel)
    have G:=dnT hdn hbk [12,13,14,15,16,17,18,19,20,21,22,23,24,25,26] (by decide +kernel)
    simp only[allB,and_true] at H G
    refine .inl ⟨trivial,.inl (.inl ?_)⟩
    simp only[go_sem,upd,if_true,Bool.false_eq_true,if_false,hbk,H,G,E]
    refine fitG_of z (zj [] ?_ ?_)<;>simp only[go_sem,upd,if_true,Bool.false_eq_true,if_false,hbk,H,G,E]
   ·skip
    have H:=upT hdn hde [11,10,9,7,8,6,3,5,2,4,1,0] (by decide +kernel)
    have G:=dnT hdn hbk [13,14,15,16,17,18,19,20,21,22,23,24,25,26] (by decide +kernel)
    simp only[allB,and_true] at H G
    refine .inl ⟨trivial,.inl (.inl ?_)⟩
    simp only[go_sem,upd,if_true,Bool.false_eq_true,if_false,hbk,H,G,E]
    refine fitG_of z (zj [] ?_ ?_)<;>simp only[go_sem,upd,if_true,Bool.false_eq_true,if_false,hbk,H,G,E]
   ·skip
    have H:=upT hdn hde [12,11,10,9,7,8,6,3,5,2,4,1,0] (by decide +kernel)
    have G:=dnT hdn hbk [24,25,26] (by decide +kernel)
    simp only[allB,and_true] at H G
    refine .inr ⟨⟨35,by kernel_rfl,.inl (by simp only[go_sem,if_true,H])⟩,?_⟩
    simp only[go_sem,upd,if_true,Bool.false_eq_true,if_false,hbk,H,G,E]
    refine fitG_of z (zj [] ?_ ?_)<;>simp only[go_sem,upd,if_true,Bool.false_eq_true,if_false,hbk,H,G,E]
   ·skip
    have H:=upT hdn hde [12,11,10,9,7,8,6,3,5,2,4,1,0] (by decide +kernel)
    have G:=dnT hdn hbk [24,25,26] (by decide +kernel)
    simp only[allB,and_true] at H G
    refine .inr ⟨⟨35,by kernel_rfl,.inl (by simp only[go_sem,if_true,H])⟩,?_⟩
    simp only[go_sem,upd,if_true,Bool.false_eq_true,if_false,hbk,H,G,E]
    refine fitG_of z (zj [] ?_ ?_)<;>simp only[go_sem,upd,if_true,Bool.false_eq_true,if_false,hbk,H,G,E]
   ·skip
    have H:=upT hdn hde [12,11,10,9,7,8,6,3,5,2,4,1,0] (by decide +kernel)
    have G:=dnT hdn hbk [16,24,25,26] (by decide +kernel)
    simp only[allB,and_true] at H G
    refine .inr ⟨⟨35,by kernel_rfl,.inl (by simp only[go_sem,if_true,H])⟩,?_⟩
    simp only[go_sem,upd,if_true,Bool.false_eq_true,if_false,hbk,H,G,E]
    refine fitG_of z (zj [] ?_ ?_)<;>simp only[go_sem,upd,if_true,Bool.false_eq_true,if_false,hbk,H,G,E]
   ·skip
    have H:=upT hdn hde [12,15,11,10,9,7,8,6,3,5,2,4,1,0] (by decide +kernel)
    have G:=dnT hdn hbk [24,25,26] (by decide +kernel)
    simp only[allB,and_true] at H G
    refine .inr ⟨⟨35,by kernel_rfl,.inl (by simp only[go_sem,if_true,H])⟩,?_⟩
    simp only[go_sem,upd,if_true,Bool.false_eq_true,if_false,hbk,H,G,E]
    refine fitG_of z (zj [] ?_ ?_)<;>simp only[go_sem,upd,if_true,Bool.false_eq_true,if_false,hbk,H,G,E]
   ·skip
    have H:=upT hdn hde [12,11,10,9,7,8,6,3,5,2,4,1,0] (by decide +kernel)
    have G:=dnT hdn hbk [18,22,24,25,26] (by decide +kernel)
    simp only[allB,and_true] at H G
    refine .inr ⟨⟨35,by kernel_rfl,.inl (by simp only[go_sem,if_true,H])⟩,?_⟩
    simp only[go_sem,upd,if_true,Bool.false_eq_true,if_false,hbk,H,G,E]
    refine fitG_of z (zj [] ?_ ?_)<;>simp only[go_sem,upd,if_true,Bool.false_eq_true,if_false,hbk,H,G,E]
   ·skip
    have H:=upT hdn hde [12,12,17,11,10,9,7,8,6,3,5,2,4,1,0] (by decide +kernel)
    have G:=dnT hdn hbk [22,24,25,26] (by decide +kernel)
    simp only[allB,and_true] at H G
    refine .inr ⟨⟨35,by kernel_rfl,.inl (by simp only[go_sem,if_true,H])⟩,?_⟩
    simp only[go_sem,upd,if_true,Bool.false_eq_true,if_false,hbk,H,G,E]
    refine fitG_of z (zj [] ?_ ?_)<;>simp only[go_sem,upd,if_true,Bool.false_eq_true,if_false,hbk,H,G,E]
   ·skip
    have H:=upT hdn hde [12,11,10,9,7,8,6,3,5,2,4,1,0] (by decide +kernel)
    have G:=dnT hdn hbk [20,21,22,24,25,26] (by decide +kernel)
    simp only[allB,and_true] at H G
    refine .inr ⟨⟨35,by kernel_rfl,.inl (by simp only[go_sem,if_true,H])⟩,?_⟩
    simp only[go_sem,upd,if_true,Bool.false_eq_true,if_false,hbk,H,G,E]
    refine fitG_of z (zj [] ?_ ?_)<;>simp only[go_sem,upd,if_true,Bool.false_eq_true,if_false,hbk,H,G,E]
   ·skip
    have H:=upT hdn hde [12,19,11,10,9,7,8,6,3,5,2,4,1,0] (by decide +kernel)
    have G:=dnT hdn hbk [21,22,24,25,26] (by decide +kernel)
    simp only[allB,and_true] at H G
    refine .inr ⟨⟨35,by kernel_rfl,.inl (by simp only[go_sem,if_true,H])⟩,?_⟩
    simp only[go_sem,upd,if_true,Bool.false_eq_true,if_false,hbk,H,G,E]
    refine fitG_of z (zj [] ?_ ?_)<;>simp only[go_sem,upd,if_true,Bool.false_eq_true,if_false,hbk,H,G,E]
   ·skip
    have H:=upT hdn hde [12,20,11,19,10,9,7,8,6,3,5,2,4,1,0] (by decide +kernel)
    have G:=dnT hdn hbk [22,24,25,26] (by decide +kernel)
    simp only[allB,and_true] at H G
    refine .inr ⟨⟨35,by kernel_rfl,.inl (by simp only[go_sem,if_true,H])⟩,?_⟩
    simp only[go_sem,upd,if_true,Bool.false_eq_true,if_false,hbk,H,G,E]
    refine fitG_of z (zj [] ?_ ?_)<;>simp only[go_sem,upd,if_true,Bool.false_eq_true,if_false,hbk,H,G,E]
   ·skip
    have H:=upT hdn hde [12,18,18,21,11,17,20,10,19,9,7,8,6,3,5,2,4,1,0] (by decide +kernel)
    have G:=dnT hdn hbk [24,25,26] (by decide +kernel)
    simp only[allB,and_true] at H G
    refine .inr ⟨⟨35,by kernel_rfl,.inl (by simp only[go_sem,if_true,H])⟩,?_⟩
    simp only[go_sem,upd,if_true,Bool.false_eq_true,if_false,hbk,H,G,E]
    refine fitG_of z (zj [] ?_ ?_)<;>simp only[go_sem,upd,if_true,Bool.false_eq_true,if_false,hbk,H,G,E]
   ·skip
    have H:=upT hdn hde [12,11,10,9,7,8,6,3,5,2,4,1,0] (by decide +kernel)
    have G:=dnT hdn hbk [24,25,26] (by decide +kernel)
    simp only[allB,and_true] at H G
    refine .inr ⟨⟨35,by kernel_rfl,.inl (by simp only[go_sem,if_true,H])⟩,?_⟩
    simp only[go_sem,upd,if_true,Bool.false_eq_true,if_false,hbk,H,G,E]
    refine fitG_of z (zj [] ?_ ?_)<;>simp only[go_sem,upd,if_true,Bool.false_eq_true,if_false,hbk,H,G,E]
   ·skip
    have H:=upT hdn hde [12,13,14,16,22,22,23,11,15,18,21,10,17,20,9,19,7,8,6,3,5,2,4,1,0] (by decide +kernel)
    have G:=dnT hdn hbk [25,26] (by decide +kernel)
    simp only[allB,and_true] at H G
    refine .inr ⟨⟨35,by kernel_rfl,.inl (by simp only[go_sem,if_true,H])⟩,?_⟩
    simp only[go_sem,upd,if_true,Bool.false_eq_true,if_false,hbk,H,G,E]
    refine fitG_of z (zj [] ?_ ?_)<;>simp only[go_sem,upd,if_true,Bool.false_eq_true,if_false,hbk,H,G,E]
   ·skip
    have H:=upT hdn hde [12,24,11,13,14,16,22,23,10,15,18,21,9,17,20,7,8,19,6,3,5,2,4,1,0] (by decide +kernel)
    have G:=dnT hdn hbk [26] (by decide +kernel)
    simp only[allB,and_true] at H G
    refine .inr ⟨⟨35,by kernel_rfl,.inl (by simp only[go_sem,if_true,H])⟩,?_⟩
    simp only[go_sem,upd,if_true,Bool.false_eq_true,if_false,hbk,H,G,E]
    refine fitG_of z (zj [] ?_ ?_)<;>simp only[go_sem,upd,if_true,Bool.false_eq_true,if_false,hbk,H,G,E]
   ·skip
    have H:=upT hdn hde [12,25,11,24,10,13,14,16,22,23,9,15,18,21,7,8,17,20,6,19,3,5,2,4,1,0] (by decide +kernel)
    simp only[allB,and_true] at H
    refine .inl ⟨trivial,.inl (.inl ?_)⟩
    simp only[go_sem,upd,if_true,Bool.false_eq_true,if_false,hbk,H,E]
    refine fitG_of z (zj [] ?_ ?_)<;>simp only[go_sem,upd,if_true,Bool.false_eq_true,if_false,hbk,H,E]
   intro b vs z hb
   simp only[go_sem,ygF2,ygR2,vI,hb,if_true,cond_true,List.cons_append,List.nil_append];rw[hSA]
   apply zw (zk [10,49]);simp only[go_sem]
   repeat apply zq
   apply zc rfl<;>intro hc<;>(try simp only[go_sem] at hc)
   apply zx
   try simp only[go_sem]
   refine zj (F:=fun _=>[]) [] ?_ ?_
   ·try simp only[go_sem]
   ·try simp only[go_sem]
 ·intro vs us _
  have hTl:(T.map thrR).length=T.length:=List.length_map _
  rw[hTl,hrE]
  try simp only[go_sem]
  refine zw (sub_wake rfl) ?_
  repeat apply zq
  refine zb fun K hK=>?_;simp only[go_sem];(try simp (disch:=omega) only[zI]);repeat first|intro _|refine⟨by omega,?_⟩
  apply hK;clear hK K;apply zw (zk [10]);simp only[go_sem];apply ze;exact⟨true,ll,by simp only[go_sem],rfl⟩
theorem ways_ok (bs:List Int) (g:Int) (hB:∀ b∈bs,bedOk b=true∧0≤b∧b≤499) (m dn:Nat) (hm:m≤1000) (hdn:dn≤6):∀ (k s:Nat) (fi:List Int),s≤m→k≤dn→fi.length+k≤9 →
 YCalls Tryz.prog 55 (fun ll=>[brdP bs g (cntO g bs m dn),i64 (s:Int),i64 (k:Int),ints fi,.yl ll]) ((waysO g bs m k s fi).map fun w=>[ints w])
 | 0,s,fi,_,_,_=>ways_zero bs g m dn s fi
 | k+1,s,fi,hs,hk,hf=>ways_succ bs g hB m dn hm k s fi hs hk hf fun y x hy=>ways_ok bs g hB m dn hm hdn k y (fi++[x]) hy (by omega) (by simp;omega)
end Go.Proofs.YtonpmcdkncbjoaaGreat.Du

namespace Go.Proofs.YtonpmcdkncbjoaaGreat.Bo
open Go Go.Oc Go.Proofs.YtonpmcdkncbjoaaGreat.Du
set_option maxRecDepth 8000
set_option maxHeartbeats 4000000
theorem clipI_ok (l:List Int) (hl:l.length≤1000):ACalls Tryz.prog 72 [ints l] (if l=[] then .ns else .sx 1 (l.map fun x=>[i64 x])):=by
 refine zas (rs:=[if l=[] then .ns else .sx 1 (l.map fun x=>[i64 x])]) [.tmp 2] Tryz.func72 rfl (by kernel_rfl) Tryz.ntmps72 rfl (by simp) rfl fun C vs=>?_
 repeat apply zq
 refine zb fun K hK=>?_;simp only[go_sem];(try simp (disch:=omega) only[zI]);repeat first|intro _|refine⟨by omega,?_⟩
 apply hK;clear hK K;apply zw (zk [0]);simp only[go_sem]
 repeat apply zq
 refine awp_long ?_
 refine sops_take 5 (by kernel_rfl) fun K hK=>?_
 simp only[go_sem,List.take_succ_cons,List.take_zero,List.drop_succ_cons,List.drop_zero,List.append_eq,List.cons_append,List.nil_append];(try simp (disch:=omega) only[zI]);repeat first|intro _|refine⟨by omega,?_⟩
 refine hK _ rfl ?_
 clear hK K
 refine sops_sub (zk [3,5,7]) ?_
 simp only[go_sem]
 refine sops_gop rfl (by intro t h;injection h with h;subst h;show 8<9;decide) (by intro c h;cases h) (gop_clip rfl (s:=_) ty26 (sz:=1) (es:=l.map fun x=>[i64 x]) rfl (k1:=.i64) (k2:=.i64) (by simp only[go_sem,List.length_map]) (by simp only[go_sem,List.length_map]) ?_)
 try simp only[go_sem]
 refine sops_end (by kernel_rfl) fun K hK=>?_
 simp only[go_sem,List.drop_succ_cons,List.drop_zero,List.append_eq,List.cons_append,List.nil_append];(try simp (disch:=omega) only[zI]);repeat first|intro _|refine⟨by omega,?_⟩
 apply hK;clear hK K;apply zw (zk [2]);simp only[go_sem];apply ze;simp only[go_sem]
 by_cases h:l=[]
 ·subst h;simp
  exact leL_refl.le_refl _
 ·have:¬ (l.map fun x=>[i64 x])=[]:=by simpa using h
  simp only[if_neg h,if_neg this];exact leL_refl.le_refl _
theorem clip_ns:ACalls Tryz.prog 72 [.ns] .ns:=by
 have h:=clipI_ok [] (by simp)
 exact⟨h.1,fun w R vs hb hv=>h.2 w R vs hb (le_relV [.ns] [ints []] vs.toList (by simp [RV.leL,RV.le]) hv)⟩
def vP (b:Nat→Bool) (j:Nat) (v:AV):AV:=if b j then v else .r .un
def plF (w l A:List Int) (i:Int) (ll:Nat) (b:Nat→Bool) (vs:Nat→Nat) (z:Bool):List (Nat × AV) :=
 [(1,.r (.sl 1 [[ints l]])),(2,.r (.yl ll)),(3,.r (.rp [.ns,ints w])),(6,.r (.bo false)),(7,.r (i64 i)),(16,.r (i64 20)),(17,.r (i64 i)),
  (20,vI b 0 (.r (.rp [.ns,ints w]))),
  (21,vI b 1 (.r .ns)),
  (22,vI b 2 (.r .ns)),
  (23,vI b 3 (.r (i64 i))),
  (24,vI b 4 (.r (.sl 1 [[i64 i]]))),
  (25,vI b 5 (.r (.sl 1 [[i64 i]]))),
  (26,vI b 6 (.r (.rp [ints w]))),
  (27,vI b 7 (.r (ints w))),
  (28,vI b 8 (.r (.sl 1 [[ints l]]))),
  (29,vI b 9 (.r (.rp [ints l]))),
  (30,vI b 10 (.r (ints l))),
  (31,vI b 11 (.r (i64 i))),
  (32,vI b 12 (.r (ints A))),
  (33,vI b 13 (.ag [.r (.sl 1 [[i64 i]]),.r (ints A)])),
  (34,vI b 14 (.r (.sl 1 [[ints l]]))),
  (35,vI b 15 (.r (.sl 1 []))),
  (36,vI b 16 (.r (.yl ll))),
  (37,vI b 17 (.r (.bo z))),
  (38,vI b 18 (.r (.bo (!z))))]
def plR (G:Bool→Bool→RowC) (b:Nat→Bool) (vs:Nat→Nat) (z:Bool):List (Nat × RowC):=[(999,G (b 17) z)]
attribute [go_sem] plF plR vP
theorem plans_zero (t:RV) (w:List Int):YCalls Tryz.prog 45 (fun ll=>[.ag [t,ints w],.sl 1 [],.yl ll]) [[.ag [t,ints w]]]:=by
 have z0:((0:Int) == 0)=true:=rfl
 refine ycalls_stR (n:=40) (rv:=.tmp 6) Tryz.func45 rfl (by kernel_rfl) Tryz.ntmps45 rfl (by simp) fun C ll rest hC=>?_
 repeat apply zq
 refine zb fun K hK=>?_;simp only[go_sem];(try simp (disch:=omega) only[zI]);repeat first|intro _|refine⟨by omega,?_⟩
 apply hK;clear hK K;refine zw (zfP 3 3 [t,ints w] (by omega) rfl rfl) ?_;apply zw (zk [1,2,3,6]);simp only[go_sem]
 repeat apply zq
 refine zb fun K hK=>?_;simp only[go_sem,z0];(try simp (disch:=omega) only[zI]);repeat first|intro _|refine⟨by omega,?_⟩
 apply hK;clear hK K;apply zw (zk [1,2,3,6,10]);simp only[go_sem]
 repeat apply zq
 apply zc rfl<;>intro hc<;>(try simp only[go_sem] at hc)
 repeat apply zq
 refine zb fun K hK=>?_;simp only[go_sem];(try simp (disch:=omega) only[zI])
 refine xcall_yield (e:=[.ag [t,ints w]]) (rest:=rest) (by simp only[go_sem,List.cons_append,List.nil_append]) rfl (by simp only[go_sem]) (.inr rfl) ?_ ?_
 ·simp only[go_sem];repeat first|intro _|refine⟨by omega,?_⟩
  apply hK;clear hK K;apply zw (zk [6]);simp only[go_sem];apply ze;exact⟨true,ll,by simp only[go_sem],rfl⟩
 ·simp only[go_sem];repeat first|intro _|refine⟨by omega,?_⟩
  apply hK;clear hK K;apply zw (zk [6]);simp only[go_sem];apply ze;exact⟨false,ll,by simp only[go_sem],rfl⟩
def planY (w l:List Int) (k:Nat):List RV:=[.ag [.sl 1 [[i64 (k:Int)]],ints (aftL w l k)]]
def plansL (w l:List Int) (i:Nat):List (List RV):=((List.range 20).drop i).map (planY w l)
theorem plans_step (w l:List Int) {i:Nat}(hi:i<20):plansL w l i=planY w l i::plansL w l (i+1):=by
 unfold plansL
 rw[List.drop_eq_getElem_cons (by simpa using hi),List.getElem_range,List.map_cons]
theorem plans_end (w l:List Int):plansL w l 20=[]:=by
 unfold plansL
 rw[List.drop_eq_nil_of_le (by simp)];rfl
theorem plans_one {w l:List Int}(h:WkOk w l):YCalls Tryz.prog 45 (fun ll=>[.ag [.ns,ints w],.sl 1 [[ints l]],.yl ll]) (plansL w l 0):=by
 have hwl:=h.wl
 have hll:=h.ll
 have hcl:=clip_ns
 have z1:((1:Int) == 0)=false:=rfl
 have haft:=fun (k:Nat) (hk:k<20)=>after_ok w l k (by omega) (by omega) (by omega) (fun x hx=>by have:=h.wb x hx;omega) (fun x hx=>by have:=h.lb x hx;omega)
 have hstep:=fun (i:Nat) (hi:i<20)=>plans_step w l hi
 have hend:=plans_end w l
 have hz:=fun (t:RV) (k:Nat)=>plans_zero t (aftL w l k)
 refine ycalls_stR (n:=40) (rv:=.tmp 6) Tryz.func45 rfl (by kernel_rfl) Tryz.ntmps45 rfl (by simp) fun C ll rest hC=>?_
 repeat apply zq
 refine zb fun K hK=>?_;simp only[go_sem];(try simp (disch:=omega) only[zI]);repeat first|intro _|refine⟨by omega,?_⟩
 apply hK;clear hK K;refine zw (zfP 3 3 [.ns,ints w] (by omega) rfl rfl) ?_;apply zw (zk [1,2,3,6]);simp only[go_sem]
 repeat apply zq
 refine zb fun K hK=>?_;simp only[go_sem,z1];(try simp (disch:=omega) only[zI]);repeat first|intro _|refine⟨by omega,?_⟩
 apply hK;clear hK K;apply zw (zk [1,2,3,6,10]);simp only[go_sem]
 repeat apply zq
 apply zc rfl<;>intro hc<;>(try simp only[go_sem] at hc)
 apply zx
 try simp only[go_sem]
 repeat apply zq
 refine zb fun K hK=>?_;simp only[go_sem,hwl,List.length_map];(try simp (disch:=omega) only[zI]);repeat first|intro _|refine⟨by omega,?_⟩
 apply hK;clear hK K;apply zw (zk [1,2,3,6,16,17]);simp only[go_sem]
 repeat apply zq
 apply zd
 refine zuv (n:=40) 20 (fun i vs=>[(1,.r (.sl 1 [[ints l]])),(2,.r (.yl ll)),(3,.r (.rp [.ns,ints w])),(6,.r (.bo false)),(16,.r (i64 20)),(17,.r (i64 (i:Int)))])
  (fun i vs=>[(999,.gh Tryz.prog ll false (some (plansL w l i++rest)))]) (fun _=>True) 0 (zj [] ?_ ?_) (Nat.zero_le _) trivial ?_
 ·try simp only[go_sem]
  try rfl
 ·try simp only[go_sem]
  try rfl
 intro i vs hi _
 by_cases hin:i<20
 ·have hst:=hstep i hin
  have haf:=haft i hin
  have hY:=hz (.sl 1 [[i64 (i:Int)]]) i
  have c1:decide ((i:Int)<20)=true:=decide_eq_true (by omega)
  have w1:IntKind.i64.wrap ((i:Int)+1)=(i:Int)+1:=by rw[zI]<;>omega
  rw[hst]
  unfold planY
  generalize plansL w l (i+1)=RM at *
  generalize aftL w l i=A at *
  repeat apply zq
  refine zb fun K hK=>?_;simp only[go_sem,c1,hin];(try simp (disch:=omega) only[zI]);repeat first|intro _|refine⟨by omega,?_⟩
  apply hK;clear hK K;apply zw (zk [1,2,3,6,16,17,18]);simp only[go_sem]
  repeat apply zq
  apply zc rfl<;>intro hc<;>(try simp only[go_sem] at hc)
  apply zx
  try simp only[go_sem]
  repeat apply zq
  apply zd
  repeat apply zq
  refine zb fun K hK=>?_;simp only[go_sem];(try simp (disch:=omega) only[zI]);repeat first|intro _|refine⟨by omega,?_⟩
  apply hK;clear hK K;apply zw (zk [1,2,3,6,7,16,17]);simp only[go_sem]
  generalize hXX:([[.ag [.sl 1 [[i64 (i:Int)]],ints A]]]:List (List RV))=X at *
  have hcat:[.ag [.sl 1 [[i64 (i:Int)]],ints A]]::(RM++rest)=X++(RM++rest):=by rw[← hXX];rfl
  rw[hcat]
  generalize hrest1:RM++rest=rest1 at *
  repeat apply zq
  obtain⟨GG,hG0,hG1,hG2⟩:∃ GG:Bool→Bool→RowC,(∀ z,GG false z = .gh Tryz.prog ll false (some (X++rest1)))∧GG true true = .gh Tryz.prog ll false (some rest1)∧GG true false = .gh Tryz.prog ll false none :=
   ⟨fun x z=>bif x then (bif z then .gh Tryz.prog ll false (some rest1) else .gh Tryz.prog ll false none) else .gh Tryz.prog ll false (some (X++rest1)),fun _=>rfl,rfl,rfl⟩
  have E:=And.intro hG0 (And.intro hG1 hG2)
  refine awp_invY (n:=40) (plF w l A (i:Int) ll) (plR GG) follows (by kernel_rfl) (by decide +kernel) (fitG_of true (zj [] ?_ ?_)) ?_ ?_
  ·simp only[go_sem,plF,vP,if_true,if_false,Bool.false_eq_true,cond_false]
  ·simp only[go_sem,plR,cond_false,hG0,List.cons_append,List.nil_append]
   try exact congrArg _ (hG0 _).symm
  refine⟨fun b vs z hdn hbk hde=>?_,fun b vs z hdn hbk hde=>?_,fun b vs z hdn hbk hde=>?_,fun b vs z hdn hbk hde=>?_,fun b vs z hdn hbk hde=>?_,fun b vs z hdn hbk hde=>?_,fun b vs z hdn hbk hde=>?_,fun b vs z hdn hbk hde=>?_,fun b vs z hdn hbk hde=>?_,fun b vs z hdn hbk hde=>?_,fun b vs z hdn hbk hde=>?_,fun b vs z hdn hbk hde=>?_,fun b vs z hdn hbk hde=>?_,fun b vs z hdn hbk hde=>?_,fun b vs z hdn hbk hde=>?_,fun b vs z hdn hbk hde=>?_,fun b vs z hdn hbk hde=>?_,fun b vs z hdn hbk hde=>?_,fun b vs z hdn hbk hde=>?_,trivial⟩
  ·skip
   have G:=dnT hdn hbk [1,2,5,12,13,17,18] (by decide +kernel)
   simp only[allB,and_true] at G
   refine .inl ⟨trivial,.inl (.inl ?_)⟩
   simp only[go_sem,upd,if_true,Bool.false_eq_true,if_false,hbk,G,E]
   refine fitG_of z (zj [] ?_ ?_)<;>simp only[go_sem,upd,if_true,Bool.false_eq_true,if_false,hbk,G,E]
  ·skip
   have H:=upT hdn hde [0] (by decide +kernel)
   have G:=dnT hdn hbk [2,5,12,13,17,18] (by decide +kernel)
   simp only[allB,and_true] at H G
   refine .inl ⟨trivial,.inl (.inl ?_)⟩
   simp only[go_sem,upd,if_true,Bool.false_eq_true,if_false,hbk,H,G,E]
   refine fitG_of z (zj [] ?_ ?_)<;>simp only[go_sem,upd,if_true,Bool.false_eq_true,if_false,hbk,H,G,E]
  ·skip
   have H:=upT hdn hde [1,0] (by decide +kernel)
   have G:=dnT hdn hbk [5,12,13,17,18] (by decide +kernel)
   simp only[allB,and_true] at H G
   refine .inl ⟨trivial,.inl (.inl ?_)⟩
   (simp only[go_sem,upd,if_true,Bool.false_eq_true,if_false,hbk,H,G,E])
   refine zh hcl rfl (by simp only[go_sem,i64,ints]) (by simp only[go_sem,i64,ints]) ?_
   (simp only[go_sem,upd,if_true,Bool.false_eq_true,if_false,hbk,H,G,E])
   refine fitG_of z (zj [] ?_ ?_)<;>(simp only[go_sem,upd,if_true,Bool.false_eq_true,if_false,hbk,H,G,E])
  ·skip
   have G:=dnT hdn hbk [4,5,12,13,17,18] (by decide +kernel)
   simp only[allB,and_true] at G
   refine .inl ⟨trivial,.inl (.inl ?_)⟩
   simp only[go_sem,upd,if_true,Bool.false_eq_true,if_false,hbk,G,E]
   refine fitG_of z (zj [] ?_ ?_)<;>simp only[go_sem,upd,if_true,Bool.false_eq_true,if_false,hbk,G,E]
  ·skip
   have H:=upT hdn hde [3] (by decide +kernel)
   have G:=dnT hdn hbk [5,12,13,17,18] (by decide +kernel)
   simp only[allB,and_true] at H G
   refine .inl ⟨trivial,.inl (.inl ?_)⟩
   simp only[go_sem,upd,if_true,Bool.false_eq_true,if_false,hbk,H,G,E]
   refine fitG_of z (zj [] ?_ ?_)<;>simp only[go_sem,upd,if_true,Bool.false_eq_true,if_false,hbk,H,G,E]
  ·skip
   have H:=upT hdn hde [2,2,4,1,3,0] (by decide +kernel)
   have G:=dnT hdn hbk [12,13,17,18] (by decide +kernel)
   simp only[allB,and_true] at H G
   refine .inl ⟨trivial,.inl (.inl ?_)⟩
   (simp only[go_sem,upd,if_true,Bool.false_eq_true,if_false,hbk,H,G,E])
   (try refine⟨⟨by omega,by omega⟩,?_⟩)
   refine Du.fitG_sub (sub_frz (ty:=3) (sz:=1) (off:=0) (m:=1) (es:=[[i64 i]]) 25 25 (by omega) rfl (by rfl) (by simp)) ?_
   (simp only[go_sem,upd,if_true,Bool.false_eq_true,if_false,hbk,H,G,E,List.drop_zero])
   refine fitG_of z (zj [] ?_ ?_)<;>(simp only[go_sem,upd,if_true,Bool.false_eq_true,if_false,hbk,H,G,E])
   all_goals (try rfl)
  ·skip
   have G:=dnT hdn hbk [7,12,13,17,18] (by decide +kernel)
   simp only[allB,and_true] at G
   refine .inl ⟨trivial,.inl (.inl ?_)⟩
   simp only[go_sem,upd,if_true,Bool.false_eq_true,if_false,hbk,G,E]
   refine fitG_of z (zj [] ?_ ?_)<;>simp only[go_sem,upd,if_true,Bool.false_eq_true,if_false,hbk,G,E]
  ·skip
   have H:=upT hdn hde [6] (by decide +kernel)
   have G:=dnT hdn hbk [12,13,17,18] (by decide +kernel)
   simp only[allB,and_true] at H G
   refine .inl ⟨trivial,.inl (.inl ?_)⟩
   simp only[go_sem,upd,if_true,Bool.false_eq_true,if_false,hbk,H,G,E]
   refine fitG_of z (zj [] ?_ ?_)<;>simp only[go_sem,upd,if_true,Bool.false_eq_true,if_false,hbk,H,G,E]
  ·skip
   have G:=dnT hdn hbk [9,10,12,13,17,18] (by decide +kernel)
   simp only[allB,and_true] at G
   refine .inl ⟨trivial,.inl (.inl ?_)⟩
   simp only[go_sem,upd,if_true,Bool.false_eq_true,if_false,hbk,G,E]
   refine fitG_of z (zj [] ?_ ?_)<;>simp only[go_sem,upd,if_true,Bool.false_eq_true,if_false,hbk,G,E]
  ·skip
   have H:=upT hdn hde [8] (by decide +kernel)
   have G:=dnT hdn hbk [10,12,13,17,18] (by decide +kernel)
   simp only[allB,and_true] at H G
   refine .inl ⟨trivial,.inl (.inl ?_)⟩
   simp only[go_sem,upd,if_true,Bool.false_eq_true,if_false,hbk,H,G,E]
   all_goals (try (refine⟨⟨by omega,by omega⟩,?_⟩))
   refine fitG_of z (zj [] ?_ ?_)<;>simp only[go_sem,upd,if_true,Bool.false_eq_true,if_false,hbk,H,G,E]
  ·skip
   have H:=upT hdn hde [9,8] (by decide +kernel)
   have G:=dnT hdn hbk [12,13,17,18] (by decide +kernel)
   simp only[allB,and_true] at H G
   refine .inl ⟨trivial,.inl (.inl ?_)⟩
   simp only[go_sem,upd,if_true,Bool.false_eq_true,if_false,hbk,H,G,E]
   refine fitG_of z (zj [] ?_ ?_)<;>simp only[go_sem,upd,if_true,Bool.false_eq_true,if_false,hbk,H,G,E]
  ·skip
   have G:=dnT hdn hbk [12,13,17,18] (by decide +kernel)
   simp only[allB,and_true] at G
   refine .inl ⟨trivial,.inl (.inl ?_)⟩
   simp only[go_sem,upd,if_true,Bool.false_eq_true,if_false,hbk,G,E]
   refine fitG_of z (zj [] ?_ ?_)<;>simp only[go_sem,upd,if_true,Bool.false_eq_true,if_false,hbk,G,E]
  ·skip
   have H:=upT hdn hde [5,7,10,11,2,4,6,9,1,3,8,0] (by decide +kernel)
   have G:=dnT hdn hbk [13,17,18] (by decide +kernel)
   simp only[allB,and_true] at H G
   refine .inl ⟨trivial,.inl (.inl ?_)⟩
   (simp only[go_sem,upd,if_true,Bool.false_eq_true,if_false,hbk,H,G,E])
   refine zh haf rfl (by simp only[go_sem,i64,ints]) (by simp only[go_sem,i64,ints]) ?_
   (simp only[go_sem,upd,if_true,Bool.false_eq_true,if_false,hbk,H,G,E])
   refine fitG_of z (zj [] ?_ ?_)<;>(simp only[go_sem,upd,if_true,Bool.false_eq_true,if_false,hbk,H,G,E])
  ·skip
   have H:=upT hdn hde [5,12,2,4,7,10,11,1,3,6,9,0,8] (by decide +kernel)
   have G:=dnT hdn hbk [17,18] (by decide +kernel)
   simp only[allB,and_true] at H G
   refine .inl ⟨trivial,.inl (.inl ?_)⟩
   simp only[go_sem,upd,if_true,Bool.false_eq_true,if_false,hbk,H,G,E]
   refine fitG_of z (zj [] ?_ ?_)<;>simp only[go_sem,upd,if_true,Bool.false_eq_true,if_false,hbk,H,G,E]
  ·skip
   have G:=dnT hdn hbk [15,17,18] (by decide +kernel)
   simp only[allB,and_true] at G
   refine .inl ⟨trivial,.inl (.inl ?_)⟩
   simp only[go_sem,upd,if_true,Bool.false_eq_true,if_false,hbk,G,E]
   refine fitG_of z (zj [] ?_ ?_)<;>simp only[go_sem,upd,if_true,Bool.false_eq_true,if_false,hbk,G,E]
  ·skip
   have H:=upT hdn hde [14] (by decide +kernel)
   have G:=dnT hdn hbk [17,18] (by decide +kernel)
   simp only[allB,and_true] at H G
   refine .inl ⟨trivial,.inl (.inl ?_)⟩
   (simp only[go_sem,upd,if_true,Bool.false_eq_true,if_false,hbk,H,G,E,List.length_cons,List.length_nil,List.drop_succ_cons,List.drop_zero])
   all_goals (try (refine⟨⟨by omega,by omega⟩,?_⟩))
   refine fitG_of z (zj [] ?_ ?_)<;>(simp only[go_sem,upd,if_true,Bool.false_eq_true,if_false,hbk,H,G,E,List.drop_succ_cons,List.drop_zero])
   all_goals (try rfl)
  ·skip
   have G:=dnT hdn hbk [17,18] (by decide +kernel)
   simp only[allB,and_true] at G
   refine .inl ⟨trivial,.inl (.inl ?_)⟩
   simp only[go_sem,upd,if_true,Bool.false_eq_true,if_false,hbk,G,E]
   refine fitG_of z (zj [] ?_ ?_)<;>simp only[go_sem,upd,if_true,Bool.false_eq_true,if_false,hbk,G,E]
  ·skip
   have H:=upT hdn hde [12,13,15,16,7,10,11,5,14,6,9,2,4,8,1,3,0] (by decide +kernel)
   have G:=dnT hdn hbk [18] (by decide +kernel)
   simp only[allB,and_true] at H G
   refine .inl ⟨trivial,?_⟩
   refine .inr ⟨45,[],_,_,rest1,ll,rfl,?_,?_,?_,hY,?_,?_⟩
   ·(simp only[go_sem,upd,if_true,Bool.false_eq_true,if_false,hbk,H,G,E])
   ·(simp only[go_sem,upd,if_true,Bool.false_eq_true,if_false,hbk,H,G,E,evs,List.map_cons,List.map_nil])
    try rfl
   ·(simp only[go_sem,upd,if_true,Bool.false_eq_true,if_false,hbk,H,G,E,evs,List.map_cons,List.map_nil])
    first|exact leL_refl _|exact leL_refl.le_refl _|exact⟨rv_le _,rv_le _⟩|exact⟨rv_le _,rv_le _,rv_le _⟩|skip
   ·rw[row999_st]
    (simp only[go_sem,upd,if_true,Bool.false_eq_true,if_false,hbk,H,G,E])
    refine fitG_of true (zj [] ?_ ?_)<;>(simp only[go_sem,upd,if_true,Bool.false_eq_true,if_false,hbk,H,G,E])
   ·rw[row999_st]
    (simp only[go_sem,upd,if_true,Bool.false_eq_true,if_false,hbk,H,G,E])
    refine fitG_of false (zj [] ?_ ?_)<;>(simp only[go_sem,upd,if_true,Bool.false_eq_true,if_false,hbk,H,G,E])
  ·skip
   have H:=upT hdn hde [17,13,15,16,12,5,14,7,10,11,2,4,6,9,1,3,8,0] (by decide +kernel)
   simp only[allB,and_true] at H
   refine .inl ⟨trivial,.inl (.inl ?_)⟩
   simp only[go_sem,upd,if_true,Bool.false_eq_true,if_false,hbk,H,E]
   refine fitG_of z (zj [] ?_ ?_)<;>simp only[go_sem,upd,if_true,Bool.false_eq_true,if_false,hbk,H,E]
  intro b vs z hb
  simp only[go_sem,plF,plR,vP,hb,if_true,cond_true,List.cons_append,List.nil_append]
  cases z
  ·rw[hG2]
   apply zw (zk [6,38]);simp only[go_sem]
   repeat apply zq
   apply zc rfl<;>intro hc<;>(try simp only[go_sem] at hc)
   repeat apply zq
   refine zb fun K hK=>?_;simp only[go_sem];(try simp (disch:=omega) only[zI]);repeat first|intro _|refine⟨by omega,?_⟩
   apply hK;clear hK K;apply zw (zk [6]);simp only[go_sem];apply ze;exact⟨false,ll,by simp only[go_sem],rfl⟩
  ·rw[hG1]
   apply zw (zk [1,2,3,6,16,17,38]);simp only[go_sem]
   repeat apply zq
   apply zc rfl<;>intro hc<;>(try simp only[go_sem] at hc)
   apply zx
   try simp only[go_sem]
   repeat apply zq
   refine zb fun K hK=>?_;simp only[go_sem,w1];(try simp (disch:=omega) only[zI]);repeat first|intro _|refine⟨by omega,?_⟩
   apply hK;clear hK K
   try simp only[go_sem]
   refine⟨by omega,zj [] ?_ ?_⟩
   ·try simp only[go_sem]
   ·try simp only[go_sem]
    try rw[← hrest1]
 ·have hie:i=20:=by omega
  subst hie
  rw[hend,List.nil_append]
  repeat apply zq
  refine zb fun K hK=>?_;simp only[go_sem];(try simp (disch:=omega) only[zI]);repeat first|intro _|refine⟨by omega,?_⟩
  apply hK;clear hK K;apply zw (zk [18]);simp only[go_sem]
  repeat apply zq
  apply zc rfl<;>intro hc<;>(try simp only[go_sem] at hc)
  apply zf;simp only[go_sem]
  repeat apply zq
  refine zb fun K hK=>?_;simp only[go_sem];(try simp (disch:=omega) only[zI]);repeat first|intro _|refine⟨by omega,?_⟩
  apply hK;clear hK K;apply zw (zk [6]);simp only[go_sem];apply ze;exact⟨true,ll,by simp only[go_sem],rfl⟩
end Go.Proofs.YtonpmcdkncbjoaaGreat.Bo

namespace Go.Oc
open Go Go.RowKit
def stepAllK (P:Program) (ops:Array Oper) (n:Nat) (F:(Nat→Bool)→(Nat→Nat)→Bool→List (Nat × AV)) (R:(Nat→Bool)→(Nat→Nat)→Bool→List (Nat × RowC)):Nat→List Oper→Prop
 | _,[]=>True
 | k,o::rest=>(∀ b vs z,(∀ j e,j<ops.size→(deps ops j).contains e=true→b j=true→b e=true)→b k=false→(∀ e∈deps ops k,b e=true) →
  (holdsG ops (st n (F b vs z) vs (R b vs z)) o∧gop P o (FitG n (F (upd b k true)) (R (upd b k true))) (st n (F b vs z) vs (R b vs z)))∨(failsG ops (st n (F b vs z) vs (R b vs z)) o∧FitG n (F (upd b k true)) (R (upd b k true)) ((st n (F b vs z) vs (R b vs z)).put o.dst (.r .ud))))∧stepAllK P ops n F R (k+1) rest
theorem stepAllK_get {P:Program}{ops:Array Oper}{n:Nat}{F:(Nat→Bool)→(Nat→Nat)→Bool→List (Nat × AV)}{R:(Nat→Bool)→(Nat→Nat)→Bool→List (Nat × RowC)}:∀ {l:List Oper}{k i:Nat}{o:Oper},stepAllK P ops n F R k l→l[i]? = some o →
 ∀ b vs z, (∀ j e, j<ops.size→(deps ops j).contains e=true→b j=true→b e=true)→b (k+i)=false→(∀ e∈deps ops (k+i), b e=true) →
   (holdsG ops (st n (F b vs z) vs (R b vs z)) o∧gop P o (FitG n (F (upd b (k+i) true)) (R (upd b (k+i) true))) (st n (F b vs z) vs (R b vs z)))∨(failsG ops (st n (F b vs z) vs (R b vs z)) o∧FitG n (F (upd b (k+i) true)) (R (upd b (k+i) true)) ((st n (F b vs z) vs (R b vs z)).put o.dst (.r .ud)))
 | [],_,_,_,_,h=>by simp at h
 | x::l, k, 0, o, hs, h=>by
   simp only[List.getElem?_cons_zero,Option.some.injEq] at h
   subst h
   exact hs.1
 | x::l, k, i+1, o, hs, h=>by
   have:=stepAllK_get (k:=k+1) (i:=i) hs.2 (by simpa using h)
   rwa [show k+1+i=k+(i+1) by omega] at this
section
variable {P:Program}{C:Ctx}{s:AS}{a:Act}{w:World}{ops:Array Oper}
theorem inv_anyK {Q:AS→Prop}{Q':Exit→Act→World→Prop}(hQ:∀ s a w,Q s→SRel C s a w→Q' .normal a w) {n:Nat}{F:(Nat→Bool)→(Nat→Nat)→Bool→List (Nat × AV)}{R:(Nat→Bool)→(Nat→Nat)→Bool→List (Nat × RowC)}
 (hd:dstOk ops n=true) (hu:upOk ops=true) (hstep:stepAllK P ops n F R 0 ops.toList)
 (hend:∀ b vs z,(∀ j,b j=true)→Q (st n (F b vs z) vs (R b vs z))) :
 ∀ (fuel:Nat) (vs:Nat→Nat) (z:Bool) (listed:Array Bool) (a:Act) (w:World), listed.size=ops.size→down ops listed→unl listed ops.size≤fuel→SRel C (st n (F (fun j=>listed.getD j true) vs z) vs (R (fun j=>listed.getD j true) vs z)) a w →
   wpAnyIn (fnc C.rd) 0 P .any ops Q' fuel listed a w:=by
 have all:∀ {listed:Array Bool},listed.size=ops.size→(∀ j,j<ops.size→listed.getD j true=true)→∀ j,(fun j=>listed.getD j true) j=true:=fun {listed} hsz h j=>by
  by_cases hj:j<ops.size
  ·exact h j hj
  ·show listed.getD j true=true
   have:¬ j<listed.size:=by omega
   simp [this]
 intro fuel
 induction fuel with
 | zero =>
   intro vs z listed a w hsz hdn hf hs
   have h0:=unl_zero (listed:=listed) ops.size (by omega)
   refine⟨List.eq_nil_iff_forall_not_mem.2 fun j hj=>?_,hQ _ _ _ (hend _ _ _ (all hsz h0)) hs⟩
   obtain⟨h1,o,ho,_⟩:=mem_ready.1 hj
   have:=h0 j (Array.getElem?_eq_some_iff.1 ho).1
   rw[this] at h1
   cases h1
 | succ fuel ih =>
   intro vs z listed a w hsz hdn hf hs
   refine⟨fun h0=>hQ _ _ _ (hend _ _ _ (all hsz (ready_nil hu h0 hsz))) hs,fun i hi=>?_⟩
   obtain⟨hi1,o,ho,hall⟩:=mem_ready.1 hi
   unfold wpOpIn
   rw[ho]
   simp only
   have hil:i<ops.size:=(Array.getElem?_eq_some_iff.1 ho).1
   obtain⟨p,hp⟩:=hs
   have hx:=stepAllK_get (k:=0) (i:=i) hstep (by rw[Array.getElem?_toList];exact ho) (fun j=>listed.getD j true) vs z (fun j e hj he hb=>?_) (by rw[Nat.zero_add];exact hi1) (fun e he=>?_)
   ·rw[Nat.zero_add] at hx
    have e:upd (fun j=>listed.getD j true) i true=fun j=>(listed.setIfInBounds i true).getD j true:=by
     funext j
     rw[getD_setT]
     rfl
    rcases hx with⟨hw,hx⟩|⟨hw,hx⟩
    ·rw[if_pos (wantA_sound hp (wantG hw))]
     refine hx C p _ _ hp (dstOk_get hd ho) (dstOk_nd hd ho) _ _ (fun a' w' p' s' hs' hn hK=>?_)
     obtain⟨vs',z',hsub⟩:=hK
     rw[e] at hsub
     exact ih vs' z' _ a' w' (by simpa using hsz) (down_set hdn hi) (by have:=unl_set hi1 ops.size hil;omega) (hsub C a' w' ⟨p',hs'⟩)
    ·rw[wantA_sound hp (wantF hw)]
     simp only[Bool.false_eq_true,if_false]
     refine⟨fun _ _=>trivial,?_⟩
     obtain⟨vs',z',hsub⟩:=hx
     rw[e] at hsub
     have:=hp.put' (d:=o.dst) (av:=.r .ud) (v:=undef) (by simp only[AV.rel,RV.rel]) (dstOk_get hd ho)
     exact ih vs' z' _ _ _ (by simpa using hsz) (down_set hdn hi) (by have:=unl_set hi1 ops.size hil;omega) (hsub C _ _ ⟨p,this⟩)
   ·have hjs:j<listed.size:=by omega
    have hb':listed.getD j true=true:=hb
    have h2:=hdn j (by simpa [hjs] using hb') e (by simpa using he)
    show listed.getD e true=true
    by_cases hes:e<listed.size
    ·simpa [hes] using h2
    ·simp [hes]
   ·have h2:=ready_deps hi e (by simpa using he)
    show listed.getD e true=true
    by_cases hes:e<listed.size
    ·simpa [hes] using h2
    ·simp [hes]
end
theorem awp_invK {P:Program}{C:Ctx}{id:Nat}{l:List Oper}{n:Nat}{Q:Exit→AS→Prop}{s:AS}(F:(Nat→Bool)→(Nat→Nat)→Bool→List (Nat × AV)) (R:(Nat→Bool)→(Nat→Nat)→Bool→List (Nat × RowC)) (hm:P.follows .mixedOrders=true)
 (hd:dstOk l.toArray n=true) (hu:upOk l.toArray=true) (h0:FitG n (F fun j=>decide (l.length≤j)) (R fun j=>decide (l.length≤j)) s)
 (hstep:stepAllK P l.toArray n F R 0 l) (hend:∀ b vs z,(∀ j,b j=true)→Q .normal (st n (F b vs z) vs (R b vs z))):awp P C (.region id l.toArray true) Q s:=fun a w hs=>by
 obtain⟨vs,z,hsub⟩:=h0
 obtain⟨p,hp⟩:=hsub C a w hs
 have hs':SR C p _ a { w with drawn:=w.drawn+1 }:=hp.below (w':=w.drew) ((Below.refl _ _).drew) (fun _ h=>h) (fun _ h=>.inl h) hp.rb
 refine wpIn_region_any hm ?_
 have e:(fun j=>(Array.replicate l.toArray.size false).getD j true)=fun j=>decide (l.length≤j):=by
  funext j
  by_cases h:j<l.length
  ·have:¬ l.length≤j:=by omega
   simp [h,this]
  ·have:l.length≤j:=by omega
   simp [h,this]
 refine inv_anyK (Q:=fun s=>Q .normal s) (n:=n) (F:=F) (R:=R) (fun s a w hq hs=>⟨s,hs,hq⟩) hd hu (by simpa using hstep) hend _ vs z _ _ _ (by simp) (fun j hj=>?_) ?_ ?_
 ·exfalso
  simp only[Array.getD_eq_getD_getElem?,Array.getElem?_replicate] at hj
  split at hj<;>simp at hj
 ·have:∀ m,unl (Array.replicate l.toArray.size false) m≤m:=by
   intro m
   induction m with
   | zero=>exact Nat.le_refl _
   | succ m ih=>simp only[unl];split<;>omega
  exact this _
 ·rw[e]
  exact⟨p,hs'⟩
end Go.Oc

namespace Go.Proofs.YtonpmcdkncbjoaaGreat.Bo
open Go Go.Oc Go.Proofs.YtonpmcdkncbjoaaGreat.Du
set_option maxRecDepth 8000
set_option maxHeartbeats 4000000
theorem best_it {w l:List Int}(h:WkOk w l):ICalls Tryz.prog false 44 [.rp [ints w],.rp [.sl 1 [[ints l]]]] (plansL w l 0):=by
 have hY:=plans_one h
 refine icalls_st Tryz.func44 rfl (by kernel_rfl) Tryz.ntmps44 rfl (by simp) fun C ll=>?_
 repeat apply zq
 refine awp_long ?_
 refine sops_take 4 (by kernel_rfl) fun K hK=>?_
 simp only[go_sem,List.take_succ_cons,List.take_zero,List.drop_succ_cons,List.drop_zero,List.append_eq,List.cons_append,List.nil_append,argL];(try simp (disch:=omega) only[zI]);repeat first|intro _|refine⟨by omega,?_⟩
 refine hK _ rfl ?_
 clear hK K
 refine sops_ycall (xs:=plansL w l 0) (rest:=[]) (ll:=ll) (F:=45) (cs:=[]) (ar:=fun ll=>[.ag [.ns,ints w],.sl 1 [[ints l]],.yl ll]) (by show 8<9;decide) rfl (by simp only[go_sem,List.append_nil]) (by try simp only[go_sem];try rfl) (by simp only[go_sem,evs,List.map_cons,List.map_nil];first|exact leL_refl _|exact leL_refl.le_refl _) hY ?_ ?_
 ·rw[row999_st]
  try simp only[go_sem]
  refine sops_end (by kernel_rfl) fun K hK=>?_
  simp only[go_sem,List.drop_succ_cons,List.drop_zero,List.append_eq,List.cons_append,List.nil_append];(try simp (disch:=omega) only[zI]);repeat first|intro _|refine⟨by omega,?_⟩
  apply hK;clear hK K;exact⟨ll,false,.inl rfl⟩
 ·rw[row999_st]
  try simp only[go_sem]
  refine sops_end (by kernel_rfl) fun K hK=>?_
  simp only[go_sem,List.drop_succ_cons,List.drop_zero,List.append_eq,List.cons_append,List.nil_append];(try simp (disch:=omega) only[zI]);repeat first|intro _|refine⟨by omega,?_⟩
  apply hK;clear hK K;exact⟨ll,false,.inr rfl⟩
def pbF (pk qk:RV) (A B:List Int) (dd:Bool) (b:Nat→Bool) (vs:Nat→Nat) (z:Bool):List (Nat × AV) :=
 [(4,.pt 4 (vs 4) 0),(6,.r (.rp [pk,ints A])),
  (10,vI b 0 (.pt 4 (vs 4) 1)),
  (11,vI b 1 (.r (ints B))),
  (12,vI b 2 (.r (.bo false))),
  (13,vI b 3 (.r (.bo false))),
  (14,vI b 4 (.r (.ag [pk,ints A]))),
  (15,vI b 5 (.r (i64 (maxI A)))),
  (16,vI b 6 (.ag [.r qk,.r (ints B)])),
  (17,vI b 7 (.r (i64 (maxI B)))),
  (18,vI b 8 (.r (.bo dd))),
  (19,vI b 9 (.r (.bo dd)))]
def pbR (SA:(Nat→Nat)→List AV) (us:List Value) (qk:RV) (B:List Int) (b:Nat→Bool) (vs:Nat→Nat) (z:Bool):List (Nat × RowC):=[(0,.sus (SA vs) us),(4,.box [.r qk,.r (ints B)])]
def pbF2 (pk:RV) (A:List Int) (b:Nat→Bool) (vs:Nat→Nat) (z:Bool):List (Nat × AV) :=
 [(4,.pt 4 (vs 4) 0),(6,.r (.rp [pk,ints A])),
  (10,vI b 0 (.pt 4 (vs 4) 1)),
  (11,vI b 1 (.r .nz)),
  (12,vI b 2 (.r (.bo true))),
  (13,vI b 3 (.r (.bo true))),
  (14,vI b 4 (.r .ud)),
  (15,vI b 5 (.r .ud)),
  (16,vI b 6 (.r .ud)),
  (17,vI b 7 (.r .ud)),
  (18,vI b 8 (.r .ud)),
  (19,vI b 9 (.r (.bo true)))]
def pbR2 (SA:(Nat→Nat)→List AV) (us:List Value) (b:Nat→Bool) (vs:Nat→Nat) (z:Bool):List (Nat × RowC):=[(0,.sus (SA vs) us),(4,.box [.r .nz,.r .nz])]
attribute [go_sem] pbF pbR pbF2 pbR2
def mxW (w l:List Int) (k:Nat):Int:=maxI (aftL w l k)
def bsN (w l:List Int) (i:Nat):Nat:=bstN (mxW w l) i
def lsW (w l:List Int):Nat→RV × RV
 | 0=>(.nz,.nz)
 | j+1=>(.sl 1 [[i64 (bsN w l j:Int)]],ints (aftL w l (bsN w l j)))
theorem lsW_succ (w l:List Int) (j:Nat):lsW w l (j+1)=(.sl 1 [[i64 (bsN w l j:Int)]],ints (aftL w l (bsN w l j))):=rfl
theorem bsN_succ (w l:List Int) (j:Nat):bsN w l (j+1)=if mxW w l (j+1)<mxW w l (bsN w l j) then j+1 else bsN w l j:=rfl
theorem best_ok {w l:List Int}(h:WkOk w l):ACalls Tryz.prog 21 [ints w,.sl 1 [[ints l]]] (.ag [.sl 1 [[i64 (bsN w l 19:Int)]],ints (aftL w l (bsN w l 19))]):=by
 have hit:=best_it h
 have hwl:=h.wl
 have hll:=h.ll
 have hal:=fun (k:Nat)=>aft_len (w:=w) (l:=l) (by omega) k
 have hmx:=fun (k:Nat)=>most_ok (.sl 1 [[i64 (k:Int)]]) (aftL w l k) (fun e=>by have:=hal k;rw[e] at this;simp at this;omega) (by have:=hal k;omega)
 have hle:=fun (j:Nat)=>(bst_ok (mxW w l) j).1
 have hlen:(plansL w l 0).length=20:=by simp [plansL]
 have hget:∀ (i:Nat) (e:List RV),(plansL w l 0)[i]? = some e→i<20∧e=planY w l i:=fun i e he=>by
  have hi:i<20:=by have:=(List.getElem?_eq_some_iff.1 he).1;omega
  refine⟨hi,?_⟩
  unfold plansL at he
  rw[List.drop_zero,List.getElem?_map,List.getElem?_range hi] at he
  exact (Option.some.inj he).symm
 have hlast:=lsW_succ w l 19
 have hsc:=fun (j:Nat)=>lsW_succ w l j
 have hbs:=fun (j:Nat)=>bsN_succ w l j
 have hmw:∀ k,mxW w l k=maxI (aftL w l k):=fun _=>rfl
 have hb0:bsN w l 0=0:=rfl
 have hl0:lsW w l 0=(.nz,.nz):=rfl
 refine acalls_stR (rs:=[.ag [.sl 1 [[i64 (bsN w l 19:Int)]],ints (aftL w l (bsN w l 19))]]) [.cell 4 91] Tryz.func21 rfl (by kernel_rfl) Tryz.ntmps21 rfl (by simp) rfl fun C hC vs=>?_
 repeat apply zq
 refine awp_long ?_
 refine sops_take 2 (by kernel_rfl) fun K hK=>?_
 simp only[go_sem,List.take_succ_cons,List.take_zero,List.drop_succ_cons,List.drop_zero,List.append_eq,List.cons_append,List.nil_append];(try simp (disch:=omega) only[zI]);repeat first|intro _|refine⟨by omega,?_⟩
 refine hK _ rfl ?_
 clear hK K
 refine sops_gop rfl (by intro t h;injection h with h;subst h;show 4<22;decide) (by intro c h;cases h) (gop_allocZ (d:=4) rfl rfl (by decide) (xs:=[.nz,.nz]) (z:=[.slice none 0 0,.slice none 0 0]) (by kernel_rfl) (fun w p ver=>by simp [AV.relV,AV.rel,RV.rel]) ?_)
 rw[row_st]
 try simp only[go_sem]
 refine sops_end (by kernel_rfl) fun K hK=>?_
 simp only[go_sem,List.drop_succ_cons,List.drop_zero,List.append_eq,List.cons_append,List.nil_append];(try simp (disch:=omega) only[zI]);repeat first|intro _|refine⟨by omega,?_⟩
 apply hK;clear hK K;refine zw (zfP 2 2 [ints w] (by omega) rfl rfl) ?_;refine zw (zfP 3 3 [.sl 1 [[ints l]]] (by omega) rfl rfl) ?_;apply zw (zk [2,3,4]);simp only[go_sem]
 repeat apply zq
 refine zb fun K hK=>?_;simp only[go_sem];(try simp (disch:=omega) only[zI]);repeat first|intro _|refine⟨by omega,?_⟩
 apply hK;clear hK K;apply zw (zk [4,5]);simp only[go_sem]
 repeat apply zq
 refine zb fun K hK=>?_;simp only[go_sem];(try simp (disch:=omega) only[zI]);repeat first|intro _|refine⟨by omega,?_⟩
 apply hK;clear hK K;apply zw (zk [4,8]);simp only[go_sem]
 generalize lsW w l=LS at *
 generalize hPL:plansL w l 0=PL at *
 repeat apply zq
 apply zd;refine zw (sub_fnR 8 [.rp [ints w],.rp [.sl 1 [[ints l]]]] rfl) ?_;apply zw (zk [4,8]);simp only[go_sem]
 refine awp_rangeF hC PL hit [4,8] (by decide) (fun vs=>[(4,.pt 4 (vs 4) 0),(8,.r (.fn 44 [.rp [ints w],.rp [.sl 1 [[ints l]]]]))])
  (fun i vs=>[(4,.box [.r (LS i).1,.r (LS i).2])]) (fun _=>True) (zj [] ?_ ?_) trivial (fun _=>rfl) (fun _=>rfl) (fun _ _=>rfl) (by simp) (fun e he=>by
   obtain⟨i,hi⟩:=List.getElem?_of_mem he
   obtain⟨_,rfl⟩:=hget i e hi
   rfl) ?_ ?_
 ·try simp only[go_sem]
  try rfl
 ·try simp only[go_sem]
  try simp [hl0]
 ·intro i e vs us C' he _
  obtain⟨hi,rfl⟩:=hget i e he
  unfold planY
  repeat apply zq
  refine zb fun K hK=>?_;simp only[go_sem];(try simp (disch:=omega) only[zI]);repeat first|intro _|refine⟨by omega,?_⟩
  apply hK;clear hK K
  refine⟨rfl,fun C'=>?_⟩
  refine zw (zfP 6 6 [.sl 1 [[i64 (i:Int)]],ints (aftL w l i)] (by omega) rfl rfl) ?_;apply zw (zk [4,6]);simp only[go_sem]
  repeat apply zq
  apply zd
  have hmA:=hmx i
  rw[hsc i]
  obtain⟨pk,hpk⟩:∃ pk:RV,pk = .sl 1 [[i64 (i:Int)]]:=⟨_,rfl⟩
  obtain⟨SA,hSA⟩:∃ SA:(Nat→Nat)→List AV,SA=fun vs=>[.pt 4 (vs 4) 0,.r (.fn 44 [.rp [ints w],.rp [.sl 1 [[ints l]]]])]:=⟨_,rfl⟩
  cases i with
  | zero =>
    rw[hl0,hb0]
    simp only[← hpk] at hmA ⊢
    have hpk0:RV.sl 1 [[i64 ((0:Nat):Int)]]=pk:=hpk.symm
    generalize aftL w l 0=A at *
    repeat apply zq
    refine awp_invK (n:=22) (pbF2 pk A) (pbR2 SA us) follows (by kernel_rfl) (by decide +kernel) (fitG_of true (zj [] ?_ ?_)) ?_ ?_
    ·simp only[go_sem,pbF2,vP,if_true,if_false,Bool.false_eq_true,cond_false]
    ·simp only[go_sem,pbR2,hSA,cond_false,List.cons_append,List.nil_append]
    refine⟨fun b vs z hdn hbk hde=>?_,fun b vs z hdn hbk hde=>?_,fun b vs z hdn hbk hde=>?_,fun b vs z hdn hbk hde=>?_,fun b vs z hdn hbk hde=>?_,fun b vs z hdn hbk hde=>?_,fun b vs z hdn hbk hde=>?_,fun b vs z hdn hbk hde=>?_,fun b vs z hdn hbk hde=>?_,fun b vs z hdn hbk hde=>?_,trivial⟩
    ·skip
     have G:=dnT hdn hbk [1,2,3,4,5,6,7,8,9] (by decide +kernel)
     simp only[allB,and_true] at G
     refine .inl ⟨trivial,gop_xop ?_⟩
     simp only[go_sem,upd,if_true,Bool.false_eq_true,if_false,hbk,G]
     refine fitG_of z (zj [] ?_ ?_)<;>simp only[go_sem,upd,if_true,Bool.false_eq_true,if_false,hbk,G]
    ·skip
     have H:=upT hdn hde [0] (by decide +kernel)
     have G:=dnT hdn hbk [2,3,4,5,6,7,8,9] (by decide +kernel)
     simp only[allB,and_true] at H G
     refine .inl ⟨trivial,gop_xop ?_⟩
     simp only[go_sem,upd,if_true,Bool.false_eq_true,if_false,hbk,H,G]
     refine fitG_of z (zj [] ?_ ?_)<;>simp only[go_sem,upd,if_true,Bool.false_eq_true,if_false,hbk,H,G]
    ·skip
     have H:=upT hdn hde [1,0] (by decide +kernel)
     have G:=dnT hdn hbk [3,4,5,6,7,8,9] (by decide +kernel)
     simp only[allB,and_true] at H G
     refine .inl ⟨trivial,gop_eqnilZ rfl ty26 (by (simp only[go_sem,upd,if_true,Bool.false_eq_true,if_false,hbk,H,G])) ?_⟩
     (simp only[go_sem,upd,if_true,Bool.false_eq_true,if_false,hbk,H,G])
     refine fitG_of z (zj [] ?_ ?_)<;>(simp only[go_sem,upd,if_true,Bool.false_eq_true,if_false,hbk,H,G])
    ·skip
     have H:=upT hdn hde [2,1,0] (by decide +kernel)
     have G:=dnT hdn hbk [4,5,6,7,8,9] (by decide +kernel)
     simp only[allB,and_true] at H G
     refine .inl ⟨trivial,gop_xop ?_⟩
     simp only[go_sem,upd,if_true,Bool.false_eq_true,if_false,hbk,H,G]
     refine fitG_of z (zj [] ?_ ?_)<;>simp only[go_sem,upd,if_true,Bool.false_eq_true,if_false,hbk,H,G]
    ·skip
     have H:=upT hdn hde [3,2,1,0] (by decide +kernel)
     have G:=dnT hdn hbk [5,7,8,9] (by decide +kernel)
     simp only[allB,and_true] at H G
     refine .inr ⟨⟨13,by kernel_rfl,.inl (by simp only[go_sem,if_true,H])⟩,?_⟩
     simp only[go_sem,upd,if_true,Bool.false_eq_true,if_false,hbk,H,G]
     refine fitG_of z (zj [] ?_ ?_)<;>simp only[go_sem,upd,if_true,Bool.false_eq_true,if_false,hbk,H,G]
    ·skip
     have H:=upT hdn hde [3,3,4,2,1,0] (by decide +kernel)
     have G:=dnT hdn hbk [7,8,9] (by decide +kernel)
     simp only[allB,and_true] at H G
     refine .inr ⟨⟨13,by kernel_rfl,.inl (by simp only[go_sem,if_true,H])⟩,?_⟩
     simp only[go_sem,upd,if_true,Bool.false_eq_true,if_false,hbk,H,G]
     refine fitG_of z (zj [] ?_ ?_)<;>simp only[go_sem,upd,if_true,Bool.false_eq_true,if_false,hbk,H,G]
    ·skip
     have H:=upT hdn hde [3,2,1,0] (by decide +kernel)
     have G:=dnT hdn hbk [7,8,9] (by decide +kernel)
     simp only[allB,and_true] at H G
     refine .inr ⟨⟨13,by kernel_rfl,.inl (by simp only[go_sem,if_true,H])⟩,?_⟩
     simp only[go_sem,upd,if_true,Bool.false_eq_true,if_false,hbk,H,G]
     refine fitG_of z (zj [] ?_ ?_)<;>simp only[go_sem,upd,if_true,Bool.false_eq_true,if_false,hbk,H,G]
    ·skip
     have H:=upT hdn hde [3,5,6,2,4,1,0] (by decide +kernel)
     have G:=dnT hdn hbk [8,9] (by decide +kernel)
     simp only[allB,and_true] at H G
     refine .inr ⟨⟨13,by kernel_rfl,.inl (by simp only[go_sem,if_true,H])⟩,?_⟩
     simp only[go_sem,upd,if_true,Bool.false_eq_true,if_false,hbk,H,G]
     refine fitG_of z (zj [] ?_ ?_)<;>simp only[go_sem,upd,if_true,Bool.false_eq_true,if_false,hbk,H,G]
    ·skip
     have H:=upT hdn hde [3,5,7,2,4,6,1,0] (by decide +kernel)
     have G:=dnT hdn hbk [9] (by decide +kernel)
     simp only[allB,and_true] at H G
     refine .inr ⟨⟨13,by kernel_rfl,.inl (by simp only[go_sem,if_true,H])⟩,?_⟩
     simp only[go_sem,upd,if_true,Bool.false_eq_true,if_false,hbk,H,G]
     refine fitG_of z (zj [] ?_ ?_)<;>simp only[go_sem,upd,if_true,Bool.false_eq_true,if_false,hbk,H,G]
    ·skip
     have H:=upT hdn hde [3,8,2,5,7,1,4,6,0] (by decide +kernel)
     simp only[allB,and_true] at H
     refine .inl ⟨trivial,gop_xop ?_⟩
     simp only[go_sem,upd,if_true,Bool.false_eq_true,if_false,hbk,H]
     refine fitG_of z (zj [] ?_ ?_)<;>simp only[go_sem,upd,if_true,Bool.false_eq_true,if_false,hbk,H]
    intro b vs z hb
    simp only[go_sem,pbF2,pbR2,vP,hb,if_true,cond_true,List.cons_append,List.nil_append];rw[hSA]
    apply zw (zk [4,6,19]);simp only[go_sem]
    repeat apply zq
    apply zc rfl<;>intro hc<;>(try simp only[go_sem] at hc)
    repeat apply zq
    refine zb fun K hK=>?_;simp only[go_sem];(try simp (disch:=omega) only[zI]);repeat first|intro _|refine⟨by omega,?_⟩
    apply hK;clear hK K
    try simp only[go_sem]
    refine zj (F:=fun _=>[]) [] ?_ ?_
    ·try simp only[go_sem]
    ·try simp only[go_sem]
     try rfl
  | succ j =>
    rw[hsc j,hbs j]
    have hmB:=hmx (bsN w l j)
    have hB0:aftL w l (bsN w l j)≠[]:=fun e=>by have:=hal (bsN w l j);rw[e] at this;simp at this;omega
    rw[hmw,hmw]
    generalize bsN w l j=k at *
    obtain⟨qk,hqk⟩:∃ qk:RV,qk = .sl 1 [[i64 (k:Int)]]:=⟨_,rfl⟩
    simp only[← hpk] at hmA ⊢
    rw[← hqk] at hmB
    simp only[← hqk]
    obtain⟨dd,hdd⟩:∃ dd,decide (maxI (aftL w l (j+1))<maxI (aftL w l k))=dd:=⟨_,rfl⟩
    generalize hgA:aftL w l (j+1)=A at *
    generalize hgB:aftL w l k=B at *
    repeat apply zq
    refine awp_invK (n:=22) (pbF pk qk A B dd) (pbR SA us qk B) follows (by kernel_rfl) (by decide +kernel) (fitG_of true (zj [] ?_ ?_)) ?_ ?_
    ·simp only[go_sem,pbF,vP,if_true,if_false,Bool.false_eq_true,cond_false]
    ·simp only[go_sem,pbR,hSA,cond_false,List.cons_append,List.nil_append]
    refine⟨fun b vs z hdn hbk hde=>?_,fun b vs z hdn hbk hde=>?_,fun b vs z hdn hbk hde=>?_,fun b vs z hdn hbk hde=>?_,fun b vs z hdn hbk hde=>?_,fun b vs z hdn hbk hde=>?_,fun b vs z hdn hbk hde=>?_,fun b vs z hdn hbk hde=>?_,fun b vs z hdn hbk hde=>?_,fun b vs z hdn hbk hde=>?_,trivial⟩
    ·skip
     have G:=dnT hdn hbk [1,2,3,4,5,6,7,8,9] (by decide +kernel)
     simp only[allB,and_true] at G
     refine .inl ⟨trivial,gop_xop ?_⟩
     simp only[go_sem,upd,if_true,Bool.false_eq_true,if_false,hbk,G,hdd]
     refine fitG_of z (zj [] ?_ ?_)<;>simp only[go_sem,upd,if_true,Bool.false_eq_true,if_false,hbk,G,hdd]
    ·skip
     have H:=upT hdn hde [0] (by decide +kernel)
     have G:=dnT hdn hbk [2,3,4,5,6,7,8,9] (by decide +kernel)
     simp only[allB,and_true] at H G
     refine .inl ⟨trivial,gop_xop ?_⟩
     simp only[go_sem,upd,if_true,Bool.false_eq_true,if_false,hbk,H,G,hdd]
     refine fitG_of z (zj [] ?_ ?_)<;>simp only[go_sem,upd,if_true,Bool.false_eq_true,if_false,hbk,H,G,hdd]
    ·skip
     have H:=upT hdn hde [1,0] (by decide +kernel)
     have G:=dnT hdn hbk [3,4,5,6,7,8,9] (by decide +kernel)
     simp only[allB,and_true] at H G
     refine .inl ⟨trivial,gop_eqnilB rfl ty26 (sz:=1) (es:=B.map fun x=>[i64 x]) (by (simp only[go_sem,upd,if_true,Bool.false_eq_true,if_false,hbk,H,G,hdd])) ?_ fun he=>?_⟩
     ·(simp only[go_sem,upd,if_true,Bool.false_eq_true,if_false,hbk,H,G,hdd])
      refine fitG_of z (zj [] ?_ ?_)<;>(simp only[go_sem,upd,if_true,Bool.false_eq_true,if_false,hbk,H,G,hdd])
     ·exact absurd (List.map_eq_nil_iff.1 he) hB0
    ·skip
     have H:=upT hdn hde [2,1,0] (by decide +kernel)
     have G:=dnT hdn hbk [4,5,6,7,8,9] (by decide +kernel)
     simp only[allB,and_true] at H G
     refine .inl ⟨trivial,gop_xop ?_⟩
     simp only[go_sem,upd,if_true,Bool.false_eq_true,if_false,hbk,H,G,hdd]
     refine fitG_of z (zj [] ?_ ?_)<;>simp only[go_sem,upd,if_true,Bool.false_eq_true,if_false,hbk,H,G,hdd]
    ·skip
     have H:=upT hdn hde [3,2,1,0] (by decide +kernel)
     have G:=dnT hdn hbk [5,7,8,9] (by decide +kernel)
     simp only[allB,and_true] at H G
     refine .inl ⟨⟨13,by kernel_rfl,by simp only[go_sem,if_true,H]⟩,gop_xop ?_⟩
     simp only[go_sem,upd,if_true,Bool.false_eq_true,if_false,hbk,H,G,hdd]
     refine fitG_of z (zj [] ?_ ?_)<;>simp only[go_sem,upd,if_true,Bool.false_eq_true,if_false,hbk,H,G,hdd]
    ·skip
     have H:=upT hdn hde [3,3,4,2,1,0] (by decide +kernel)
     have G:=dnT hdn hbk [7,8,9] (by decide +kernel)
     simp only[allB,and_true] at H G
     refine .inl ⟨⟨13,by kernel_rfl,by simp only[go_sem,if_true,H]⟩,gop_xop ?_⟩
     (simp only[go_sem,upd,if_true,Bool.false_eq_true,if_false,hbk,H,G,hdd])
     refine zh hmA rfl (by simp only[go_sem,i64,ints]) (by simp only[go_sem,i64,ints]) ?_
     (simp only[go_sem,upd,if_true,Bool.false_eq_true,if_false,hbk,H,G,hdd])
     refine fitG_of z (zj [] ?_ ?_)<;>(simp only[go_sem,upd,if_true,Bool.false_eq_true,if_false,hbk,H,G,hdd])
    ·skip
     have H:=upT hdn hde [3,2,1,0] (by decide +kernel)
     have G:=dnT hdn hbk [7,8,9] (by decide +kernel)
     simp only[allB,and_true] at H G
     refine .inl ⟨⟨13,by kernel_rfl,by simp only[go_sem,if_true,H]⟩,gop_xop ?_⟩
     simp only[go_sem,upd,if_true,Bool.false_eq_true,if_false,hbk,H,G,hdd]
     refine fitG_of z (zj [] ?_ ?_)<;>simp only[go_sem,upd,if_true,Bool.false_eq_true,if_false,hbk,H,G,hdd]
    ·skip
     have H:=upT hdn hde [3,5,6,2,4,1,0] (by decide +kernel)
     have G:=dnT hdn hbk [8,9] (by decide +kernel)
     simp only[allB,and_true] at H G
     refine .inl ⟨⟨13,by kernel_rfl,by simp only[go_sem,if_true,H]⟩,gop_xop ?_⟩
     (simp only[go_sem,upd,if_true,Bool.false_eq_true,if_false,hbk,H,G,hdd])
     refine zh hmB rfl (by simp only[go_sem,i64,ints]) (by simp only[go_sem,i64,ints]) ?_
     (simp only[go_sem,upd,if_true,Bool.false_eq_true,if_false,hbk,H,G,hdd])
     refine fitG_of z (zj [] ?_ ?_)<;>(simp only[go_sem,upd,if_true,Bool.false_eq_true,if_false,hbk,H,G,hdd])
    ·skip
     have H:=upT hdn hde [3,5,7,2,4,6,1,0] (by decide +kernel)
     have G:=dnT hdn hbk [9] (by decide +kernel)
     simp only[allB,and_true] at H G
     refine .inl ⟨⟨13,by kernel_rfl,by simp only[go_sem,if_true,H]⟩,gop_xop ?_⟩
     simp only[go_sem,upd,if_true,Bool.false_eq_true,if_false,hbk,H,G,hdd]
     refine fitG_of z (zj [] ?_ ?_)<;>simp only[go_sem,upd,if_true,Bool.false_eq_true,if_false,hbk,H,G,hdd]
    ·skip
     have H:=upT hdn hde [3,8,2,5,7,1,4,6,0] (by decide +kernel)
     simp only[allB,and_true] at H
     refine .inl ⟨trivial,gop_xop ?_⟩
     simp only[go_sem,upd,if_true,Bool.false_eq_true,if_false,hbk,H,hdd]
     refine fitG_of z (zj [] ?_ ?_)<;>simp only[go_sem,upd,if_true,Bool.false_eq_true,if_false,hbk,H,hdd]
    intro b vs z hb
    simp only[go_sem,pbF,pbR,vP,hb,if_true,cond_true,List.cons_append,List.nil_append];rw[hSA]
    cases dd
    ·have hn:¬ maxI A<maxI B:=by simpa using hdd
     rw[if_neg hn]
     apply zw (zk [4,6,19]);simp only[go_sem]
     repeat apply zq
     apply zc rfl<;>intro hc<;>(try simp only[go_sem] at hc)
     apply zx
     try simp only[go_sem]
     refine zj (F:=fun _=>[]) [] ?_ ?_
     ·try simp only[go_sem]
     ·try simp only[go_sem]
      try simp [hqk,hgB]
    ·have hn:maxI A<maxI B:=by simpa using hdd
     rw[if_pos hn]
     apply zw (zk [4,6,19]);simp only[go_sem]
     repeat apply zq
     apply zc rfl<;>intro hc<;>(try simp only[go_sem] at hc)
     repeat apply zq
     refine zb fun K hK=>?_;simp only[go_sem];(try simp (disch:=omega) only[zI]);repeat first|intro _|refine⟨by omega,?_⟩
     apply hK;clear hK K
     try simp only[go_sem]
     refine zj (F:=fun _=>[]) [] ?_ ?_
     ·try simp only[go_sem]
     ·try simp only[go_sem]
      try simp [hpk,hgA]
 ·intro vs us _
  try simp only[go_sem]
  refine zw (sub_wake rfl) ?_;rw[hlen,hlast]
  repeat apply zq
  refine zb fun K hK=>?_;simp only[go_sem];(try simp (disch:=omega) only[zI]);repeat first|intro _|refine⟨by omega,?_⟩
  apply hK;clear hK K;apply zw (zk [4]);simp only[go_sem];apply ze;simp only[go_sem]
theorem bestP_ok {w l:List Int}(h:WkOk w l):ACalls Tryz.prog 10 [.ag armC,ints w,ints l] (.tu [i64 (bsN w l 19:Int),i64 (mxW w l (bsN w l 19)),i64 0]):=by
 have hwl:=h.wl
 have hll:=h.ll
 have z0:((0:Int) != 0)=false:=rfl
 have hwa:=watch_ok h
 have hbe:=best_ok h
 have hal:=aft_len (w:=w) (l:=l) (by omega) (bsN w l 19)
 have hab:=aft_bound (k:=bsN w l 19) h.wb h.lb
 have hmw:mxW w l (bsN w l 19)=maxI (aftL w l (bsN w l 19)):=rfl
 rw[hmw]
 have hmo:=most_ok (.sl 1 [[i64 (bsN w l 19:Int)]]) (aftL w l (bsN w l 19)) (fun e=>by rw[e] at hal;simp at hal;omega) (by omega)
 have hA0:aftL w l (bsN w l 19)≠[]:=fun e=>by rw[e] at hal;simp at hal;omega
 generalize aftL w l (bsN w l 19)=A at *
 generalize bsN w l 19=k at *
 have hmb:=hab _ (maxI_mem hA0)
 have d1:decide (1000000000<maxI A)=false:=decide_eq_false (by omega)
 generalize maxI A=m at *
 refine zas (rs:=[i64 (k:Int),i64 m,i64 0]) [.tmp 6,.tmp 7,.tmp 8] Tryz.func10 rfl (by kernel_rfl) Tryz.ntmps10 rfl (by simp) rfl fun C vs=>?_
 apply zq
 refine zb fun K hK=>?_;simp only[go_sem];apply hK;refine zw (zfP 3 3 armC (by omega) rfl rfl) ?_;apply zw (zk [1,2,3]);simp only[go_sem]
 repeat apply zq
 refine zb fun K hK=>?_;simp only[go_sem,armC]
 refine zh (hwa) rfl (by simp only[go_sem,i64,ints,armC]) (by simp only[go_sem,i64,ints,armC]) ?_
 (try simp only[go_sem,armC]);apply hK;apply zw (zk [1,2,10]);simp only[go_sem]
 apply zq
 refine zb fun K hK=>?_;simp only[go_sem,z0];apply hK;apply zw (zk [1,2,21]);simp only[go_sem]
 apply zc rfl<;>intro hc<;>(try simp only[go_sem] at hc)
 apply zx
 try simp only[go_sem]
 apply zq
 refine zb fun K hK=>?_;simp only[go_sem]
 refine zh (hbe) rfl (by simp only[go_sem,i64,ints]) (by simp only[go_sem,i64,ints]) ?_
 (try simp only[go_sem]);apply hK;refine zw (zfP 11 11 [.sl 1 [[i64 (k:Int)]],ints A] (by omega) rfl rfl) ?_;apply zw (zk [11]);simp only[go_sem]
 repeat apply zq
 refine zb fun K hK=>?_;simp only[go_sem]
 refine zh (hmo) rfl (by simp only[go_sem,i64,ints,d1]) (by simp only[go_sem,i64,ints,d1]) ?_
 (try simp only[go_sem,d1]);apply hK;apply zw (zk [11,29]);simp only[go_sem]
 apply zc rfl<;>intro hc<;>(try simp only[go_sem] at hc)
 apply zx
 try simp only[go_sem]
 apply zq
 refine zg follows (by decide +kernel) (by kernel_rfl) fun K hK=>?_;simp only[go_sem]
 refine zh (hmo) rfl (by simp only[go_sem,i64,ints]) (by simp only[go_sem,i64,ints]) ?_
 (try simp only[go_sem]);apply hK;apply zw (zk [6,7,8]);simp only[go_sem];apply ze;simp only[go_sem]
theorem wear_all {w l:List Int}(h:WkOk w l) {k:Nat}(hk:k<20) :
 (aftL w l k).length=20∧(aftL w l k).sum=w.sum+l.sum∧bsN w l 19≤19∧mxW w l (bsN w l 19)≤(aftL w l k).foldl max 0∧∀ x∈aftL w l k,0≤x∧x≤855:=by
 have hwl:=h.wl
 have hll:=h.ll
 have hal:=aft_len (w:=w) (l:=l) (by omega) k
 obtain⟨b1,b2⟩:=bst_ok (mxW w l) 19
 have hA0:aftL w l k≠[]:=fun e=>by rw[e] at hal;simp at hal;omega
 have hm:=b2 k (by omega)
 refine⟨by omega,aft_sum (by omega) k,b1,Int.le_trans hm ?_,fun x hx=>?_⟩
 ·exact (foldl_maxge (l:=aftL w l k) (x:=0)).2 _ (maxI_mem hA0)
 ·have:=aft_bound (k:=k) h.wb h.lb x hx;omega
end Go.Proofs.YtonpmcdkncbjoaaGreat.Bo
