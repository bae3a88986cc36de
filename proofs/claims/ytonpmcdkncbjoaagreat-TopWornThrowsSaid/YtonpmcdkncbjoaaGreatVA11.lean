/- For all lists of visits, all wear and all turns, the given function TopWornThrows returns true: the darts of visits that are known exactly are the hits of a week, the wear of all sectors together grows by all that hit a number, and the best turn wears no sector more than any other turn does. -/
import Derived.Test.YtonpmcdkncbjoaaGreatVA10
import Derived.Test.YtonpmcdkncbjoaaGreatVA5
import Derived.ChangeShapes
import Derived.WideShapes
import Derived.OpenShut
import Derived.ShutString
import Derived.ChangeOld
import Derived.Carry
import Derived.Below
import Derived.Test.YtonpmcdkncbjoaaGreatRows
import Derived.JoinedOf
set_option linter.unusedVariables false
namespace Go.Oc
open Go Go.RowKit Go.ChangeShapes Go.WideShapes
inductive Sh where
 | int (k:IntKind)
 | bool
 | sl (es:List Sh)
def fieldsSh (P:Program) (sh:TypeId→Option (List Sh)):List Field→Nat→Option (List Sh)
 | [],_=>some []
 | f::fs, o =>
   match sh f.type with
   | some ss=>if f.offset == o&&ss.length == P.cellsOf f.type then match fieldsSh P sh fs (o+ss.length) with|some q=>some (ss++q)|none=>none else none
   | none=>none
def shape (P:Program):Nat→TypeId→Option (List Sh)
 | 0,_=>none
 | n+1, t =>
   match P.underlying t with
   | some (.int k)=>some [.int k]
   | some .bool=>some [.bool]
   | some (.slice e) =>
     match shape P n e with
     | some ss=>if ss.length == P.cellsOf e&&decide (0<ss.length) then some [.sl ss] else none
     | none=>none
   | some (.array m e) =>
     match shape P n e with
     | some ss=>if ss.length == P.cellsOf e&&P.cellsOf t == m*ss.length then some (List.replicate m ss).flatten else none
     | none=>none
   | some (.struct fs) =>
     match fieldsSh P (shape P n) fs.toList 0 with
     | some ss=>if ss.length == P.cellsOf t then some ss else none
     | none=>none
   | _=>none
mutual
def Fits:Sh→RV→Prop
 | .int k,x=>∃ n,x = .it k n∧(Lit.int k n).wf=true
 | .bool,x=>∃ b,x = .bo b
 | .sl ss,x=>∃ es,x = .sl ss.length es∧FitsE ss es
def FitsL:List Sh→List RV→Prop
 | [],xs=>xs=[]
 | s::ss,xs=>∃ y ys,xs=y::ys∧Fits s y∧FitsL ss ys
def FitsE (ss:List Sh):List (List RV)→Prop
 | []=>True
 | e::es=>FitsL ss e∧FitsE ss es
end
theorem fitsL_append:∀ {s1 s2:List Sh}{x1 x2:List RV},FitsL s1 x1→FitsL s2 x2→FitsL (s1++s2) (x1++x2)
 | [],_,_,_,h1,h2=>by simp only[FitsL] at h1;subst h1;simpa using h2
 | s::ss, s2, x1, x2, h1, h2=>by
   simp only[FitsL] at h1
   obtain⟨y,ys,rfl,h3,h4⟩:=h1
   simp only[List.cons_append,FitsL];exact⟨y,_,rfl,h3,fitsL_append h4 h2⟩
theorem fitsL_length:∀ {ss:List Sh}{xs:List RV},FitsL ss xs→xs.length=ss.length
 | [],_,h=>by simp only[FitsL] at h;subst h;rfl
 | s::ss, _, h=>by
   simp only[FitsL] at h
   obtain⟨y,ys,rfl,_,h⟩:=h
   simp [fitsL_length h]
theorem fitsE_of:∀ {ss:List Sh}{es:List (List RV)},(∀ e∈es,FitsL ss e)→FitsE ss es
 | _,[],_=>by simp only[FitsE]
 | ss,e::es,h=>by simp only[FitsE];exact⟨h e (by simp),fitsE_of fun x hx=>h x (by simp [hx])⟩
theorem choice {α:Type}{Q:Nat→α→Prop}:∀ (n:Nat),(∀ i,i<n→∃ x,Q i x)→∃ xs:List α,xs.length=n∧∀ i x,xs[i]? = some x→Q i x
 | 0,_=>⟨[],rfl,by simp⟩
 | n+1, h=>by
   obtain⟨xs,hl,hx⟩:=choice n fun i hi=>h i (by omega)
   obtain⟨y,hy⟩:=h n (by omega)
   refine⟨xs++[y],by simp [hl],fun i x hi=>?_⟩
   by_cases h1:i<n
   ·rw[List.getElem?_append_left (by omega)] at hi;exact hx i x hi
   ·rw[List.getElem?_append_right (by omega)] at hi
    have:i=n:=by have:=(List.getElem?_eq_some_iff.1 hi).1;simp at this;omega
    subst this
    simp [hl] at hi
    exact hi▸hy
section
variable {w:World}{P:Program}
theorem cells?_get {base n:Nat}{a:Addr}{cs:List Value}(h:w.cells? base a n=some cs):cs.length=n∧∀ i,i<n→w.cell? (a.add i)=cs[i]?:=by
 unfold World.cells? at h
 split at h
 ·exact⟨by simpa using mapM_some_length h,fun i hi=>mapM_some_get h i i (by simp [hi])⟩
 ·cases h
theorem cell_lt {a:Addr}{v:Value}(h:w.cell? a=some v):a.block<w.heap.size:=by
 refine Decidable.byContradiction fun hn=>?_
 have:w.heap[a.block]? = none:=by simp;omega
 simp [World.cell?,this] at h
def old (w:World):Nat→Prop:=fun b=>b<w.heap.size
theorem relC_of_cells {xs:List RV}{cs:List Value}{ad:Addr}(hV:RV.relV w (old w) xs cs) (hone:∀ u∈cs,u.oneCell'=true) (hc:∀ i,i<cs.length→w.cell? (ad.add i)=cs[i]?):RV.relC w (old w) xs ad 0:=by
 refine RV.relC_of_get fun i x hx=>?_
 obtain⟨u,hu,hr⟩:=RV.relV_get hV hx
 have hi:=(List.getElem?_eq_some_iff.1 hu).1
 refine⟨u,?_,hone u (List.mem_of_getElem? hu),hr⟩
 rw[Nat.zero_add,hc i hi,hu]
variable {H:Type}{enc:TypeId × Value→H}{base:Nat}{spare:Nat→Bool}{held:Bool}
def Good3 (w:World) (ss:List Sh) (cs:List Value):Prop:=∃ xs,FitsL ss xs∧RV.relV w (old w) xs cs∧∀ u∈cs,u.oneCell'=true
theorem good3_append {s1 s2:List Sh}{c1 c2:List Value}(h1:Good3 w s1 c1) (h2:Good3 w s2 c2):Good3 w (s1++s2) (c1++c2):=by
 obtain⟨x1,f1,r1,o1⟩:=h1
 obtain⟨x2,f2,r2,o2⟩:=h2
 refine⟨x1++x2,fitsL_append f1 f2,RV.relV_append r1 r2,fun u hu=>?_⟩
 rcases List.mem_append.1 hu with hu|hu
 ·exact o1 u hu
 ·exact o2 u hu
theorem trod_fits:∀ (fuel n:Nat) (t:TypeId) (cs:List Value) (x:DataW H × List MemPlace) (ss:List Sh),DataW.trod enc P w base spare held fuel t cs=some x→shape P n t=some ss→Good3 w ss cs:=by
 intro fuel
 induction fuel with
 | zero=>intro n t cs x ss h;simp [DataW.trod] at h
 | succ fuel ih =>
   intro n t cs x ss h hs
   cases n with
   | zero=>simp [shape] at hs
   | succ n =>
     unfold shape at hs
     split at hs
     ·rename_i k ht
      injection hs with hs;subst hs
      obtain⟨m,rfl,_,hw⟩:=DataW.trod_int ht h
      exact⟨[.it k m],by simp only[FitsL,Fits];exact⟨_,[],rfl,⟨m,rfl,hw⟩,rfl⟩,by simp only[RV.relV,RV.rel];exact⟨_,[],rfl,rfl,rfl⟩,by simp [Value.oneCell']⟩
     ·rename_i ht
      injection hs with hs;subst hs
      obtain⟨b,rfl,_⟩:=DataW.trod_bool ht h
      exact⟨[.bo b],by simp only[FitsL,Fits];exact⟨_,[],rfl,⟨b,rfl⟩,rfl⟩,by simp only[RV.relV,RV.rel];exact⟨_,[],rfl,rfl,rfl⟩,by simp [Value.oneCell']⟩
     ·rename_i e ht
      split at hs
      ·rename_i es hes
       split at hs
       ·rename_i hc
        simp only[Bool.and_eq_true,beq_iff_eq,decide_eq_true_eq] at hc
        injection hs with hs;subst hs
        rcases DataW.trod_slice ht h with⟨rfl,_⟩|⟨a,len,cap,elems,rest,m,hm,rfl,_,_,hlc,hcm,hel,hget,_⟩
        ·refine⟨[.sl es.length []],?_,?_,by simp [Value.oneCell']⟩
         ·simp only[FitsL,Fits];exact⟨_,[],rfl,⟨[],rfl,by simp only[FitsE]⟩,rfl⟩
         ·simp only[RV.relV,RV.rel];exact⟨_,[],rfl,⟨none,0,rfl,Nat.le_refl _,Nat.zero_le _,fun h=>absurd rfl h⟩,rfl⟩
        ·injection hm with hm;subst hm
         have hall:∀ i,i<len→∃ e',FitsL es e'∧e'.length=es.length∧RV.relC w (old w) e' (a.add (i*es.length)) 0∧a.block<w.heap.size:=fun i hi=>by
          have h1:=hget i hi
          have h2:i<elems.length:=by omega
          rw[List.getElem?_eq_getElem h2] at h1
          obtain⟨ci,hci,htr⟩:=Option.bind_eq_some_iff.1 h1
          rw[← hc.1] at hci
          obtain⟨hl,hcell⟩:=cells?_get hci
          obtain⟨xs,f,r,o⟩:=ih n e ci _ es htr hes
          refine⟨xs,f,fitsL_length f,relC_of_cells r o (fun j hj=>hcell j (by omega)),?_⟩
          have h3:=hcell 0 hc.2
          have h4:0<ci.length:=by omega
          rw[List.getElem?_eq_getElem h4] at h3
          have:=cell_lt h3
          rwa [block_add,block_add] at this
         obtain⟨els,hlen,hels⟩:=choice len hall
         refine⟨[.sl es.length els],?_,?_,by simp [Value.oneCell']⟩
         ·simp only[FitsL,Fits]
          refine⟨_,[],rfl,⟨els,rfl,fitsE_of fun e' he'=>?_⟩,rfl⟩
          obtain⟨i,hi⟩:=List.getElem?_of_mem he'
          exact (hels i e' hi).1
         ·simp only[RV.relV,RV.rel]
          refine⟨_,[],rfl,⟨some a,cap,by rw[hlen],by omega,hcm,fun hne=>?_⟩,rfl⟩
          obtain⟨e0,he0⟩:∃ e0,els[0]? = some e0:=by
           cases els with
           | nil=>exact absurd rfl hne
           | cons a l=>exact⟨a,rfl⟩
          refine⟨a,rfl,(hels 0 e0 he0).2.2.2,RV.relE_of_get fun i e' he'=>?_⟩
          obtain⟨_,q1,q2,_⟩:=hels i e' he'
          exact⟨q1,RV.relC_unbase _ q2⟩
       ·cases hs
      ·cases hs
     ·rename_i m e ht
      split at hs
      ·rename_i es hes
       split at hs
       ·rename_i hc
        simp only[Bool.and_eq_true,beq_iff_eq] at hc
        injection hs with hs;subst hs
        obtain⟨xs,fm,hm,_,hcl,hxl,hget⟩:=DataW.trod_array ht h
        injection hm with hm;subst hm
        have key:∀ j,j≤m→Good3 w (List.replicate j es).flatten (cs.take (j*es.length)):=by
         intro j
         induction j with
         | zero=>intro _;exact⟨[],by simp [FitsL],by simp [RV.relV],by simp⟩
         | succ j ihj =>
           intro hj
           have h1:=hget j (by omega)
           have h2:j<xs.length:=by omega
           rw[List.getElem?_eq_getElem h2,← hc.1] at h1
           have h3:=ih n e _ _ es h1 hes
           have:=good3_append (ihj (by omega)) h3
           rw[← List.take_add] at this
           rw[List.replicate_succ',List.flatten_append,Nat.add_mul]
           simpa using this
        have:=key m (Nat.le_refl _)
        rwa [← hc.2,← hcl,List.take_length] at this
       ·cases hs
      ·cases hs
     ·rename_i fs ht
      split at hs
      ·rename_i q hq
       split at hs
       ·rename_i hc
        simp only[beq_iff_eq] at hc
        injection hs with hs;subst hs
        obtain⟨xs,fm,hm,_,hcl,hxl,hget⟩:=DataW.trod_struct ht h
        injection hm with hm;subst hm
        have key:∀ (l:List Field) (o:Nat) (q:List Sh),(∀ f∈l,∃ y,DataW.trod enc P w base spare held fuel f.type ((cs.drop f.offset).take (P.cellsOf f.type))=some y)→fieldsSh P (shape P n) l o=some q→Good3 w q ((cs.drop o).take q.length):=by
         intro l
         induction l with
         | nil =>
           intro o q _ hq
           simp only[fieldsSh,Option.some.injEq] at hq
           subst hq
           exact⟨[],by simp [FitsL],by simp [RV.relV],by simp⟩
         | cons f l ihl =>
           intro o q hall hq
           simp only[fieldsSh] at hq
           split at hq
           ·rename_i s1 hs1
            split at hq
            ·rename_i hc1
             simp only[Bool.and_eq_true,beq_iff_eq] at hc1
             split at hq
             ·rename_i q2 hq2
              injection hq with hq;subst hq
              obtain⟨y,hy⟩:=hall f (by simp)
              have g1:=ih n f.type _ _ s1 hy hs1
              have g2:=ihl (o+s1.length) q2 (fun f' hf'=>hall f' (by simp [hf'])) hq2
              rw[hc1.1,← hc1.2] at g1
              have:=good3_append g1 g2
              rw[← List.drop_drop,← List.take_add] at this
              simpa using this
             ·cases hq
            ·cases hq
           ·cases hq
        have:=key fs.toList 0 q (fun f hf=>by
         obtain⟨i,hi⟩:=List.getElem?_of_mem hf
         have hi':fs[i]? = some f:=by simpa using hi
         have h1:=hget i f hi'
         have h2:i<xs.length:=by have:=(Array.getElem?_eq_some_iff.1 hi').1;omega
         exact⟨xs[i],by rw[h1];exact List.getElem?_eq_getElem h2⟩) hq
        rwa [List.drop_zero,hc,← hcl,List.take_length] at this
       ·cases hs
      ·cases hs
     ·cases hs
def FitsT (P:Program) (n:Nat) (t:TypeId) (x:RV):Prop:=∃ ss,shape P n t=some ss∧if aggOf P t then ∃ xs,x = .ag xs∧FitsL ss xs else FitsL ss [x]
theorem arg_fits {n:Nat}{t:TypeId}{v:Value}{d:DataW H}{ps:List MemPlace}{r:Reach}{b0:Nat}(hs:(shape P n t).isSome=true) (hval:Value.okWide P w r b0 t v) (h:DataW.Trod enc P w base spare held t v d ps) :
 ∃ x,FitsT P n t x∧x.rel w (old w) v:=by
 obtain⟨ss,hss⟩:=Option.isSome_iff_exists.1 hs
 obtain⟨fuel,hf⟩:=h
 obtain⟨xs,f,r,o⟩:=trod_fits fuel n t _ _ ss hf hss
 have one:aggOf P t=false→v.cells.toList=[v]→∃ x,FitsT P n t x∧x.rel w (old w) v:=fun ha hc=>by
  rw[hc] at r
  match xs,r with
  | [x], r =>
    simp only[RV.relV] at r
    obtain⟨u,us,e,hr,_⟩:=r
    injection e with e1 e2
    subst e1
    exact⟨x,⟨ss,hss,by rw[ha];exact f⟩,hr⟩
  | [],r=>simp [RV.relV] at r
  | _::_::_, r =>
    simp only[RV.relV] at r
    obtain⟨u,us,e,_,u2,us2,e2,_⟩:=r
    injection e with _ e
    rw[e2] at e;cases e
 cases n with
 | zero=>simp [shape] at hss
 | succ n =>
   have hss':=hss
   unfold shape at hss'
   split at hss'
   ·rename_i k ht
    obtain⟨m,rfl⟩:=okWide_int ht hval
    exact one (by simp [aggOf,ht]) rfl
   ·rename_i ht
    obtain⟨b,rfl⟩:=okWide_bool ht hval
    exact one (by simp [aggOf,ht]) rfl
   ·rename_i e ht
    obtain⟨a,l,c,rfl⟩:=okWide_slice ht hval
    exact one (by simp [aggOf,ht]) rfl
   ·rename_i m e ht
    obtain⟨cs,rfl⟩:∃ cs,v = .agg cs:=by
     simp only[Value.okWide,ht] at hval
     obtain⟨cs,h1,_⟩:=hval
     exact⟨cs,h1⟩
    exact⟨.ag xs,⟨ss,hss,by simp only[aggOf,ht,if_true];exact⟨xs,rfl,f⟩⟩,by simp only[RV.rel];exact⟨cs,rfl,o,r⟩⟩
   ·rename_i fs ht
    obtain⟨cs,rfl,_⟩:=okWide_struct ht hval
    exact⟨.ag xs,⟨ss,hss,by simp only[aggOf,ht,if_true];exact⟨xs,rfl,f⟩⟩,by simp only[RV.rel];exact⟨cs,rfl,o,r⟩⟩
   ·cases hss'
theorem fitsT_one {n:Nat}{t:TypeId}{x:RV}{s:Sh}(h:FitsT P n t x) (hs:shape P n t=some [s]) (ha:aggOf P t=false):Fits s x:=by
 obtain⟨s',h1,h2⟩:=h
 rw[hs] at h1;injection h1 with h1;subst h1
 rw[ha] at h2
 simp only[Bool.false_eq_true,if_false,FitsL] at h2
 obtain⟨y,ys,e,h3,_⟩:=h2
 injection e with e1 e2
 subst e1
 exact h3
end
end Go.Oc

namespace Go.Proofs.YtonpmcdkncbjoaaGreat.Du.Th
open Go Go.Oc
set_option maxRecDepth 8000
theorem wfb8 {n:Int}(h:(Lit.int .u8 n).wf=true):∃ k:Nat,n=k∧k<256:=by
 simp only[Lit.wf,Bool.and_eq_true,decide_eq_true_eq] at h
 have h1:IntKind.min .u8=0:=by decide
 have h2:IntKind.max .u8=255:=by decide
 rw[h1,h2] at h
 obtain⟨k,hk⟩:=Int.eq_ofNat_of_zero_le h.1
 exact⟨k,hk,by omega⟩
theorem fitsL_by8:∀ {n:Nat}{xs:List RV},FitsL (List.replicate n (.int .u8)) xs→∃ l:List Nat,xs=l.map u8Q∧l.length=n∧∀ k∈l,k<256
 | 0, xs, h=>by
   simp only[List.replicate_zero,Oc.FitsL] at h
   subst h
   exact⟨[],rfl,rfl,by simp⟩
 | n+1, xs, h=>by
   simp only[List.replicate_succ,Oc.FitsL,Oc.Fits] at h
   obtain⟨_,ys,rfl,⟨a,rfl,ha⟩,h⟩:=h
   obtain⟨k,rfl,kk⟩:=wfb8 ha
   obtain⟨l,rfl,hn,hl⟩:=fitsL_by8 h
   refine⟨k::l,rfl,by simp [hn],fun x hx=>?_⟩
   rcases List.mem_cons.1 hx with rfl|hx
   ·exact kk
   ·exact hl x hx
theorem fitsE_by8 {m:Nat}:∀ {es:List (List RV)},FitsE (List.replicate m (.int .u8)) es→∃ A:List (List Nat),es=A.map (fun a=>a.map u8Q)∧∀ a∈A,a.length=m∧∀ n∈a,n<256
 | [],_=>⟨[],rfl,by simp⟩
 | e::es, h=>by
   simp only[Oc.FitsE] at h
   obtain⟨h1,h2⟩:=h
   obtain⟨l,rfl,hn,hl⟩:=fitsL_by8 h1
   obtain⟨A,rfl,hA⟩:=fitsE_by8 h2
   refine⟨l::A,rfl,fun x hx=>?_⟩
   rcases List.mem_cons.1 hx with rfl|hx
   ·exact⟨hn,hl⟩
   ·exact hA x hx
theorem fits5 {x:RV}(h:FitsT Tryz.prog 9 5 x):∃ n:Nat,x=u8Q n∧n<256:=by
 have:=fitsT_one (s:=.int .u8) h (by kernel_rfl) (by kernel_rfl)
 simp only[Oc.Fits] at this
 obtain⟨m,rfl,hm⟩:=this
 obtain⟨k,rfl,kk⟩:=wfb8 hm
 exact⟨k,rfl,kk⟩
theorem fitsE_w8:∀ {es:List (List RV)},FitsE [.int .u8] es→∃ l:List Nat,es=l.map (fun n:Nat=>[.it .u8 (n:Int)])∧∀ x∈l,x<256
 | [],_=>⟨[],rfl,by simp⟩
 | e::es, h=>by
   simp only[FitsE,FitsL,Oc.Fits] at h
   obtain⟨⟨y,ys,rfl,⟨n,rfl,hn⟩,rfl⟩,h⟩:=h
   obtain⟨l,rfl,hl⟩:=fitsE_w8 h
   obtain⟨k,rfl,kk⟩:=wfb8 hn
   refine⟨k::l,rfl,fun x hx=>?_⟩
   rcases List.mem_cons.1 hx with rfl|hx
   ·exact kk
   ·exact hl x hx
theorem fits22 {x:RV}(h:FitsT Tryz.prog 9 22 x):∃ A:List (List Nat),x=trisR A∧∀ a∈A,a.length=3∧∀ n∈a,n<256:=by
 have:=fitsT_one (s:=.sl (List.replicate 3 (.int .u8))) h (by kernel_rfl) (by kernel_rfl)
 simp only[Oc.Fits] at this
 obtain⟨es,rfl,hes⟩:=this
 obtain⟨A,rfl,hA⟩:=fitsE_by8 hes
 exact⟨A,rfl,hA⟩
theorem fits23 {x:RV}(h:FitsT Tryz.prog 9 23 x):∃ ch:List Nat,x=u8L ch∧∀ n∈ch,n<256:=by
 have:=fitsT_one (s:=.sl [.int .u8]) h (by kernel_rfl) (by kernel_rfl)
 simp only[Oc.Fits] at this
 obtain⟨es,rfl,hes⟩:=this
 obtain⟨l,rfl,hl⟩:=fitsE_w8 hes
 exact⟨l,rfl,hl⟩
end Go.Proofs.YtonpmcdkncbjoaaGreat.Du.Th

namespace Go.Proofs.YtonpmcdkncbjoaaGreat
open Go Go.Oc
theorem law3' {x0 x1 x2:RV}(h0:FitsT Tryz.prog 9 22 x0) (h1:FitsT Tryz.prog 9 23 x1) (h2:FitsT Tryz.prog 9 5 x2):ACalls Tryz.prog 3 [x0,x1,x2] (.bo true):=by
 obtain⟨H,rfl,hH⟩:=Du.Th.fits22 h0
 obtain⟨C,rfl,hC⟩:=Du.Th.fits23 h1
 obtain⟨n,rfl,hn⟩:=Du.Th.fits5 h2
 exact Du.Th.worn_law H hH C hC n hn
end Go.Proofs.YtonpmcdkncbjoaaGreat


namespace Go.Proofs.YtonpmcdkncbjoaaGreat
open Go Go.Oc Go.ChangeShapes Go.WideShapes Go.RowKit
theorem own:ownKnob Tryz.prog.godebug=none:=by kernel_rfl
theorem laidOut:laidOutB Tryz.prog=true:=by kernel_rfl
set_option maxRecDepth 100000 in
theorem lifted (os:Os) (started:os.Started) (H:Type) (enc:TypeId × Value→H) :
 ReturnsInHanded {} Tryz.checked os 3 .any (Rows.topWornThrowsSpec.pre6 enc Tryz.prog Tryz.f3 Rows.topWornThrowsRow.domain false) (Rows.topWornThrowsSpec.post enc Tryz.prog Tryz.f3 false true false false):=by
 refine returnsInHanded_of_change (C:=Tryz.checked) own started (by kernel_rfl) Tryz.func3
  (ChangeSpec.witness6 (enc:=enc) (C:=Tryz.checked) false ⟨#[], #[.slice none 0 0, .slice none 0 0, .int .u8 0], []⟩ 8 (by kernel_rfl) (by kernel_rfl) (by kernel_rfl) (by kernel_rfl)) ?_
 intro W base args ds gs before hval0 hW hcnd _
 have hval:∀ (j:Nat) t v, Tryz.f3.params[j]? = some t→args[j]? = some v→Value.okWide Tryz.prog W .any base t v:=hval0
 have hW':=hW
 obtain⟨p, q, hA0, hV, rfl, hfz, hnd⟩:=hW
 have hA:DataW.TrodAll enc Tryz.prog W 0 (fun _=>true) true Tryz.f3.params.toList args.toList ds p:=hA0
 rw[Tryz.params3] at hA hval
 obtain⟨v0, vs0, d0, ds0, p0, q0, hargs, rfl, rfl, h0, r0⟩:=trodAll_cons hA
 obtain⟨v1, vs1, d1, ds1, p1, q1, rfl, rfl, rfl, h1, r1⟩:=trodAll_cons r0
 obtain⟨v2, vs2, d2, ds2, p2, q2, rfl, rfl, rfl, h2, r2⟩:=trodAll_cons r1
 obtain⟨rfl, rfl, rfl⟩:=trodAll_nil r2
 obtain rfl:args = #[v0, v1, v2]:=by cases args;simp_all
 obtain⟨rfl, rfl⟩:=trodVars_none hV
 have lt0:∀ x∈p0, x.block<W.heap.size:=by obtain⟨m, hm⟩:=h0;exact DataW.trod_lt m _ _ _ hm
 have lt1:∀ x∈p1, x.block<W.heap.size:=by obtain⟨m, hm⟩:=h1;exact DataW.trod_lt m _ _ _ hm
 have lt2:∀ x∈p2, x.block<W.heap.size:=by obtain⟨m, hm⟩:=h2;exact DataW.trod_lt m _ _ _ hm
 obtain⟨x0, g0, e0⟩:=arg_fits (n:=9) (by kernel_rfl) (hval 0 22 v0 rfl rfl) h0
 obtain⟨x1, g1, e1⟩:=arg_fits (n:=9) (by kernel_rfl) (hval 1 23 v1 rfl rfl) h1
 obtain⟨x2, g2, e2⟩:=arg_fits (n:=9) (by kernel_rfl) (hval 2 5 v2 rfl rfl) h2
 clear hA0 hval0
 refine ((law3' g0 g1 g2).2 W (old W) #[v0, v1, v2] (fun _ h=>h) (by simp only[RV.relV];exact⟨_, _, rfl, e0, _, _, rfl, e1, _, _, rfl, e2, rfl⟩)).mono fun e W' he => ?_
 obtain⟨v, R', rfl, bel, _, _, _, hr⟩:=he
 simp only[RV.rel] at hr
 subst hr
 exact⟨_, rfl, _, _, _, [], _, [], hW', trodAll_mk1 (shut_bool Tryz.underlying4 _), (trodAll_cons_mk (Below.trod laidOut (by kernel_rfl) (of_decide_eq_true (by kernel_rfl)) h0 bel lt0) (trodAll_cons_mk (Below.trod laidOut (by kernel_rfl) (of_decide_eq_true (by kernel_rfl)) h1 bel lt1) (trodAll_cons_mk (Below.trod laidOut (by kernel_rfl) (of_decide_eq_true (by kernel_rfl)) h2 bel lt2) trodAll_mk0))), rfl, bel.frame _, fun h=>by cases h⟩
theorem over:Rows.topWornThrowsRow.holds Tryz.pinned (OpenSpec.ofChange Rows.topWornThrowsSpec) :=
 OpenClaim.holds_of_wide 3 Tryz.f3 rfl rfl rfl rfl rfl rfl rfl ⟨rfl, rfl, rfl, rfl, rfl⟩ rfl rfl rfl rfl rfl (by kernel_rfl) Tryz.func3 (by kernel_rfl)
  (of_decide_eq_true (by kernel_rfl)) (by unfold Func.isWrapper;first|(rw[if_pos (by decide +kernel)];kernel_rfl)|(rw[if_neg (by decide +kernel)];exact⟨rfl, rfl⟩))
  (fun os started H enc _=>lifted os started H enc)
theorem topWornThrows_holds:Rows.TopWornThrowsSaid:=over
#print axioms topWornThrows_holds
end Go.Proofs.YtonpmcdkncbjoaaGreat
