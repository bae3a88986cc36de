/- Part 2 of the texts of this claim. -/
import Derived.Test.YtonpmcdkncbjoaaGreatVA1
import Derived.Maps.RangeRun
import Derived.Lib.AppendZerosOnto
set_option linter.unusedSimpArgs false
namespace Go.Oc
open Go Go.RowKit
section
variable {P:Program}{C:Ctx}{p:Plan}{s:AS}{a:Act}{w w':World}{o:Oper}
theorem relE_cut {sz:Nat}{R:Nat→Prop}{es:List (List RV)}{ad:Addr}(h:RV.relE w R sz es ad 0) (l k:Nat):RV.relE w R sz ((es.take k).drop l) (ad.add (l*sz)) 0:=by
 refine RV.relE_of_get fun i e hi=>?_
 rw[List.getElem?_drop,List.getElem?_take] at hi
 split at hi
 ·obtain⟨h1,h2⟩:=RV.relE_get h hi
  refine⟨h1,RV.relC_base (j:=0+i*sz) (l*sz) ?_⟩
  rw[show 0+i*sz+l*sz=0+(l+i)*sz by rw[Nat.add_mul];omega]
  exact h2
 ·cases hi
theorem ev_bound (h:SR C p s a w) {x:Option Operand}{d l:Int}(hb:bound (x.map s.ev) d=some l):(x=none∧l=d)∨∃ y k,x=some y∧a.eval y = .int k l:=by
 cases x with
 | none=>simp [bound] at hb;exact .inl ⟨rfl,hb.symm⟩
 | some y =>
   simp only[Option.map_some] at hb
   unfold bound at hb
   split at hb
   ·rename_i e;cases e
   ·rename_i k i e
    injection e with e
    injection hb with hb
    subst hb
    exact .inr ⟨y,k,rfl,ev_it h e⟩
   ·cases hb
theorem run_sliceBound {k:IntKind}{i:Nat}{y:Nat}{code:BoundsCode}(hi:i≤y):(Instr.sliceBound (.int k (i:Int)) y code).run P w = .ok i w:=by
 simp [Instr.sliceBound,asIntOf,hi]
theorem run_cut {t e:TypeId}(hu:P.underlying t=some (.slice e)) (hok:okT P e=true) {A:Option Addr}{len cap:Nat}{lo hi:Option Value}{l h:Nat}
 (hlo:(lo=none∧l=0)∨∃ k,lo=some (.int k (l:Int))) (hhi:(hi=none∧h=len)∨∃ k,hi=some (.int k (h:Int))) (h1:l≤h) (h2:h≤cap) :
 (Instr.sliceAt t (.slice A len cap) lo hi none).run P w = .ok (.slice (if cap=l then A else A.map (·.add (l*P.cellsOf e))) (h-l) (cap-l)) w:=by
 unfold Instr.sliceAt
 simp only[Sem.run_bind,run_underlying hu,Result.andThen_ok]
 unfold Instr.slice
 simp only[Sem.run_bind,run_underlying hu,Result.andThen_ok]
 have hb:(Instr.sliceBounds true len cap lo hi none).run P w = .ok (l,h,cap) w:=by
  rcases hlo with⟨rfl,rfl⟩|⟨k,rfl⟩<;>rcases hhi with⟨rfl,rfl⟩|⟨k',rfl⟩
  ·simp [Instr.sliceBounds]
  ·simp [Instr.sliceBounds,run_sliceBound h2]
  ·simp [Instr.sliceBounds,run_sliceBound h1]
  ·simp [Instr.sliceBounds,run_sliceBound h1,run_sliceBound h2]
 simp only[hb,Result.andThen_ok,zrs hok,Sem.run_pure]
theorem bound_nat {x:Option Operand}{l:Int}{d n:Nat}(hx:(x=none∧l=(d:Int))∨∃ y k,x=some y∧a.eval y = .int k l) (hl:l=(n:Int)):(x.map a.eval=none∧n=d)∨∃ k,x.map a.eval=some (.int k (n:Int)):=by
 subst hl
 rcases hx with⟨rfl,h⟩|⟨y,k,rfl,h⟩
 ·exact .inl ⟨rfl,by omega⟩
 ·exact .inr ⟨k,by simp [h]⟩
theorem run_cut3 {t e:TypeId}(hu:P.underlying t=some (.slice e)) (hok:okT P e=true) {A:Option Addr}{len cap:Nat}{lo:Option Value}{kh km:IntKind}{l q m:Nat}
 (hlo:(lo=none∧l=0)∨∃ k,lo=some (.int k (l:Int))) (h1:l≤q) (h2:q≤m) (h3:m≤cap) :
 (Instr.sliceAt t (.slice A len cap) lo (some (.int kh (q:Int))) (some (.int km (m:Int)))).run P w = .ok (.slice (if m=l then A else A.map (·.add (l*P.cellsOf e))) (q-l) (m-l)) w:=by
 unfold Instr.sliceAt
 simp only[Sem.run_bind,run_underlying hu,Result.andThen_ok]
 unfold Instr.slice
 simp only[Sem.run_bind,run_underlying hu,Result.andThen_ok]
 have hb:(Instr.sliceBounds true len cap lo (some (.int kh (q:Int))) (some (.int km (m:Int)))).run P w = .ok (l,q,m) w:=by
  rcases hlo with⟨rfl,rfl⟩|⟨k,rfl⟩
  ·simp [Instr.sliceBounds,run_sliceBound h3,run_sliceBound h2]
  ·simp [Instr.sliceBounds,run_sliceBound h3,run_sliceBound h2,run_sliceBound h1]
 simp only[hb,Result.andThen_ok,zrs hok,Sem.run_pure]
theorem lenA_slice (h:SR C p s a w) {x:Operand}{c:Prop}{m:Nat}(hl:lenA s (s.ev x)=some (c,m)) (hc:c):∃ A cap,a.eval x = .slice A m cap∧m≤cap:=by
 unfold lenA at hl
 split at hl
 ·rename_i sz es e
  injection hl with hl;injection hl with h1 h2;subst h2
  obtain⟨A,c,hv,hc1,_,_⟩:=ev_sl h e
  exact⟨A,c,hv,hc1⟩
 ·rename_i e
  injection hl with hl;injection hl with h1 h2;subst h2
  obtain⟨A,hv⟩:=ev_ns h e
  exact⟨A,0,hv,Nat.le_refl _⟩
 ·rename_i k n sz off m' e
  injection hl with hl;injection hl with h1 h2;subst h1 h2
  rcases ev_os h e hc with⟨_,_,_,rfl,A,hv⟩|⟨b,A,hβ,hv,hle,_⟩
  ·exact⟨A,0,hv,Nat.le_refl _⟩
  ·exact⟨A,_,hv,by omega⟩
 ·cases hl
theorem good_slice3 {t:TypeId}{x:Operand}{lo hi mx:Option Operand}{e esz eb:Nat}{ez:List RV}{sz0:Nat}{agg0:Bool}{z0:List RV}{mv:AV}(h:SR C p s a w) (ho:o.op = .slice t x lo hi mx) (e1:tyq P t=some ⟨.slice e esz eb ez,sz0,agg0,z0⟩) (e2:mx.map s.ev=some mv)
 (hp:(sSlice3 s (s.ev x) (lo.map s.ev) (hi.map s.ev) mv).pre):Done P C o s a w (sSlice3 s (s.ev x) (lo.map s.ev) (hi.map s.ev) mv):=by
 obtain⟨hu,hok,hsz,_,_⟩:=tyq_slice e1
 unfold sSlice3 at hp ⊢
 split at hp
 ·rename_i c m l q km z g1 g2 g3
  obtain⟨hc,h1,h2,h3,h4⟩:c∧0≤l∧l≤q∧q≤z∧z≤(m:Int):=hp
  obtain⟨l',rfl⟩:=Int.eq_ofNat_of_zero_le h1
  obtain⟨q',rfl⟩:=Int.eq_ofNat_of_zero_le (Int.le_trans h1 h2)
  obtain⟨z',rfl⟩:=Int.eq_ofNat_of_zero_le (Int.le_trans (Int.le_trans h1 h2) h3)
  have hl:=bound_nat (d:=0) (ev_bound h g2) rfl
  obtain⟨A,cap,hv,hcap⟩:=lenA_slice h g1 hc
  have hq:∃ k,hi.map a.eval=some (.int k (q':Int)):=by
   rcases ev_bound h g3 with⟨_,e⟩|⟨y,k,rfl,hy⟩
   ·omega
   ·exact⟨k,by simp [hy]⟩
  obtain⟨kq,hq⟩:=hq
  have hm:mx.map a.eval=some (.int km (z':Int)):=by
   cases mx with
   | none=>simp at e2
   | some y =>
     simp only[Option.map_some,Option.some.injEq] at e2
     simp [ev_it h e2]
  have hr:=run_cut3 (w:=w) hu hok (A:=A) (len:=m) (cap:=cap) (kh:=kq) (km:=km) hl (by omega:l'≤q') (by omega:q'≤z') (by omega)
  exact done_when h (by simp only[execOp,ho,Sem.run_bind,hv,hq,hm,hr,Result.andThen_ok,Sem.run_pure];rfl) (AV.rel_un _ _ _ _)
 ·exact hp.elim
theorem chunk_len (sz:Nat):∀ (n:Nat) (cs:List RV),(chunk sz n cs).length=n
 | 0,_=>rfl
 | n+1,cs=>by rw[chunk,List.length_cons,chunk_len sz n]
theorem chunk_rel {w:World}{R:Nat→Prop}{sz:Nat}:∀ {n:Nat}{cs:List RV}{ad:Addr}{j:Nat},n*sz≤cs.length→RV.relC w R cs ad j→RV.relE w R sz (chunk sz n cs) ad j
 | 0,_,_,_,_,_=>by simp only[chunk,RV.relE]
 | n+1, cs, ad, j, hn, h=>by
   rw[Nat.add_mul] at hn
   simp only[chunk,RV.relE]
   refine⟨by rw[List.length_take];omega,RV.relC_of_get fun i x hx=>?_,chunk_rel (by rw[List.length_drop];omega) (RV.relC_of_get fun i x hx=>?_)⟩
   ·rw[List.getElem?_take] at hx
    split at hx
    ·exact RV.relC_get h hx
    ·cases hx
   ·rw[List.getElem?_drop] at hx
    rw[Nat.add_assoc]
    exact RV.relC_get h hx
theorem good_sliceA {t:TypeId}{x:Operand}{lo hi mx:Option Operand}{n esz:Nat}{eagg:Bool}{sz0:Nat}{agg0:Bool}{z0:List RV}(h:SR C p s a w) (ho:o.op = .slice t x lo hi mx) (e1:tyq P t=some ⟨.arr n esz eagg,sz0,agg0,z0⟩)
 (hp:(sSliceA n esz (s.ev x) (lo.map s.ev) (hi.map s.ev) (mx.map s.ev)).pre):Done P C o s a w (sSliceA n esz (s.ev x) (lo.map s.ev) (hi.map s.ev) (mx.map s.ev)):=by
 obtain⟨e,hu,hok,hsz,_⟩:=tyq_arr e1
 unfold sSliceA at hp ⊢
 split at hp
 ·rename_i cs g1 g2 g3 g4
  obtain⟨h1,h2⟩:n*esz≤cs.length∧n≤maxLen:=hp
  have l1:lo=none:=by simpa using g2
  have l2:hi=none:=by simpa using g3
  have l3:mx=none:=by simpa using g4
  obtain⟨ad,hv,hR,hC⟩:=ev_rp h g1
  have hb:(Instr.sliceBounds false n n none none none).run P w = .ok (0,n,n) w:=by simp [Instr.sliceBounds]
  have hr:(Instr.sliceAt t (.pointer (some ad)) none none none).run P w = .ok (.slice (some (if n=0 then ad else ad.add (0*esz))) n n) w:=by
   unfold Instr.sliceAt
   simp [Sem.run_bind,run_underlying hu,Result.andThen_ok,Instr.sureAddr,hb,zrs hok,hsz]
  refine done_when h (by simp only[execOp,ho,Sem.run_bind,hv,l1,l2,l3,Option.map_none,hr,Result.andThen_ok,Sem.run_pure];rfl) ?_
  simp only[AV.rel,RV.rel]
  refine⟨_,_,by rw[chunk_len],by rw[chunk_len];exact Nat.le_refl _,h2,fun _=>⟨ad,?_,hR,chunk_rel h1 hC⟩⟩
  split<;>simp [add_zero]
 ·exact hp.elim
theorem good_slice {t:TypeId}{x:Operand}{lo hi mx:Option Operand}(h:SR C p s a w) (ho:o.op = .slice t x lo hi mx) (hp:(sSlice P s t (s.ev x) (lo.map s.ev) (hi.map s.ev) (mx.map s.ev)).pre) :
 Done P C o s a w (sSlice P s t (s.ev x) (lo.map s.ev) (hi.map s.ev) (mx.map s.ev)):=by
 unfold sSlice at hp ⊢
 split at hp
 ·rename_i e esz eb ez _ _ _ e1 e2
  have hmx:mx=none:=by simpa using e2
  obtain⟨hu,hok,hsz,_,_⟩:=tyq_slice e1
  subst hsz
  split at hp
  ·rename_i sz es e3
   split at hp
   ·rename_i l q e4 e5
    obtain⟨h1,h2,h3,h4⟩:sz=P.cellsOf e∧0≤l∧l≤q∧q≤(es.length:Int):=hp
    subst h1
    obtain⟨l',rfl⟩:=Int.eq_ofNat_of_zero_le h2
    obtain⟨q',rfl⟩:=Int.eq_ofNat_of_zero_le (Int.le_trans h2 h3)
    have hl:=bound_nat (d:=0) (ev_bound h e4) rfl
    have hq:=bound_nat (ev_bound h e5) rfl
    obtain⟨A,c,hv,hc1,hc2,hne⟩:=ev_sl h e3
    have hr:=run_cut (w:=w) hu hok (A:=A) (len:=es.length) (cap:=c) hl hq (by omega) (by omega)
    refine done_when h (by simp only[execOp,ho,Sem.run_bind,hv,hmx,Option.map_none,hr,Result.andThen_ok,Sem.run_pure];rfl) ?_
    simp only[AV.rel,RV.rel,Int.toNat_natCast]
    have hlen:((es.take q').drop l').length=q'-l':=by simp;omega
    refine⟨_,_,by rw[hlen],by rw[hlen];omega,by omega,fun hnil=>?_⟩
    have hpos:0<q'-l':=by rw[← hlen];exact List.length_pos_iff.2 hnil
    obtain⟨ad,rfl,hR,hE⟩:=hne (fun e=>by subst e;simp at h4;omega)
    rw[if_neg (by omega)]
    exact⟨_,rfl,by rw[block_add];exact hR,relE_cut hE l' q'⟩
   ·exact hp.elim
  ·rename_i k n sz off m e3
   split at hp
   ·rename_i l q e4 e5
    obtain⟨hn,h1,h2,h3,h4⟩:n=s.ver k∧sz=P.cellsOf e∧0≤l∧l≤q∧(q≤(m:Int)∨(off=0∧q+off≤rowLen (s.rows k).c)):=hp
    subst h1
    obtain⟨l',rfl⟩:=Int.eq_ofNat_of_zero_le h2
    obtain⟨q',rfl⟩:=Int.eq_ofNat_of_zero_le (Int.le_trans h2 h3)
    have hl:=bound_nat (d:=0) (ev_bound h e4) rfl
    have hq:=bound_nat (ev_bound h e5) rfl
    have hrl:rowLen (s.rows k).c≤p.γ k∨rowLen (s.rows k).c≤0:=by
     have hrow:=h.rw k
     cases hcc:(s.rows k).c with
     | arr t0 sz0 es0 =>
       rw[hcc] at hrow
       simp only[zrl] at hrow
       rcases hrow with⟨_,h9,_⟩|⟨_,_,_,_,_,h9,_⟩
       ·right;simp [rowLen,h9]
       ·left;simp only[rowLen];omega
     | _=>right;simp [rowLen]
    rcases ev_os h e3 hn with⟨hβ,hγ0,ho0,hm0,A,hv⟩|⟨b,A,hβ,hv,hle,hA⟩
    ·have hl0:l'=0:=by omega
     have hq0:q'=0:=by omega
     subst ho0 hm0 hl0 hq0
     have hr:=run_cut (w:=w) hu hok (A:=A) (len:=0) (cap:=0) hl hq (by omega) (by omega)
     refine done_when h (by simp only[execOp,ho,Sem.run_bind,hv,hmx,Option.map_none,hr,Result.andThen_ok,Sem.run_pure];rfl) ?_
     simp only[AV.rel];exact⟨Nat.le_of_eq hn,fun _=>.inl ⟨hβ,hγ0,by simp,by simp,_,by simp;rfl⟩⟩
    ·have hr:=run_cut (w:=w) hu hok (A:=A) (len:=m) (cap:=p.γ k-off) hl hq (by omega) (by omega)
     refine done_when h (by simp only[execOp,ho,Sem.run_bind,hv,hmx,Option.map_none,hr,Result.andThen_ok,Sem.run_pure];rfl) ?_
     simp only[AV.rel,Int.toNat_natCast]
     refine⟨Nat.le_of_eq hn,fun _=>.inr ⟨b,_,hβ,by rw[show p.γ k-off-l'=p.γ k-(off+l') by omega],by omega,fun hor=>?_⟩⟩
     rcases hor with hpos|hzero
     ·rw[if_neg (by omega),hA (by omega)]
      simp [add_at,Nat.add_mul]
     ·have h0:l'=0:=by omega
      have h0':off=0:=by omega
      subst h0 h0'
      rw[hA (.inr rfl)]
      split<;>simp [add_zero]
   ·exact hp.elim
  ·rename_i e3
   split at hp
   ·rename_i l q e4 e5
    obtain⟨h1,h2⟩:l=0∧q=0:=hp
    subst h1 h2
    have hl:=bound_nat (d:=0) (n:=0) (ev_bound h e4) rfl
    have hq:=bound_nat (d:=0) (n:=0) (ev_bound h e5) rfl
    obtain⟨A,hv⟩:=ev_ns h e3
    have hr:=run_cut (w:=w) hu hok (A:=A) (len:=0) (cap:=0) hl hq (by omega) (by omega)
    refine done_when h (by simp only[execOp,ho,Sem.run_bind,hv,hmx,Option.map_none,hr,Result.andThen_ok,Sem.run_pure];rfl) ?_
    simp only[AV.rel,RV.rel];exact⟨_,by simp;rfl⟩
   ·exact hp.elim
  ·exact hp.elim
 ·rename_i e esz eb ez _ _ _ mv e1 e2
  exact good_slice3 h ho e1 e2 hp
 ·rename_i e1
  exact good_sliceA h ho e1 hp
 ·exact hp.elim
theorem run_builtin_of {b:Builtin}{args:Array Operand}{ts:Array TypeId}(ho:o.op = .call ⟨.builtin b,args,ts⟩) {w2:World}{v:Value}
 (hr:(builtin b ts o.type (args.map fun | .const _=>true|_=>false) (args.map a.eval)).run P w = .ok (.value v) w2):(execOp a.eval o).run P w = .ok (.value v) w2:=by
 simp only[execOp,ho,Sem.run_bind,resolve,Sem.run_pure,Result.andThen_ok,invoke];exact hr
theorem arr1 {α β:Type}{args:Array α}{f:α→β}{y:β}(h:args.toList.map f=[y]):∃ x,args = #[x]∧y=f x:=by
 obtain⟨l⟩:=args
 match l,h with
 | [x],h=>simp at h;exact⟨x,rfl,h.symm⟩
theorem arr2 {α β:Type}{args:Array α}{f:α→β}{y z:β}(h:args.toList.map f=[y,z]):∃ x x',args = #[x,x']∧y=f x∧z=f x':=by
 obtain⟨l⟩:=args
 match l,h with
 | [x,x'],h=>simp at h;exact⟨x,x',rfl,h.1.symm,h.2.symm⟩
theorem good_len {x:Operand}{t:TypeId}(h:SR C p s a w) (ho:o.op = .call ⟨.builtin .len,#[x],#[t]⟩) (hp:(sLen P s t (s.ev x)).pre):Done P C o s a w (sLen P s t (s.ev x)):=by
 have go:∀ {v:Value},(Builtin.len_ #[t] o.type #[a.eval x]).run P w = .ok v w→(execOp a.eval o).run P w = .ok (.value v) w:=fun hr =>
  run_builtin_of ho (by simp only[builtin,Sem.run_bind,List.map_toArray,List.map_cons,List.map_nil,hr,Result.andThen_ok,Sem.run_pure])
 unfold sLen at hp ⊢
 split at hp
 ·rename_i e esz eb ez _ _ _ sz es e1 e2
  obtain⟨hu,_⟩:=tyq_slice e1
  obtain⟨A,c,hv,h1,h2,_⟩:=ev_sl h e2
  refine done_of h (v:=.int .i64 es.length) (go ?_) rfl ?_ (by simp [AV.rel,RV.rel])
  ·simp [Builtin.len_,run_underlying hu,hv,goInt]
  ·simp only[maxLen] at h2
   show (es.length:Int)≤9223372036854775807
   omega
 ·rename_i e esz eb ez _ _ _ e1 e2
  obtain⟨hu,_⟩:=tyq_slice e1
  obtain⟨A,hv⟩:=ev_ns h e2
  exact done_v h (v:=.int .i64 0) (go (by simp [Builtin.len_,run_underlying hu,hv,goInt])) (by simp [AV.rel,RV.rel])
 ·rename_i e esz eb ez _ _ _ k n sz off m e1 e2
  obtain⟨hu,_⟩:=tyq_slice e1
  have hn:n=s.ver k:=hp
  have hg:=h.rw k
  rcases ev_os h e2 hn with⟨_,_,_,rfl,A,hv⟩|⟨b,A,hβ,hv,hle,_⟩
  ·exact done_of h (v:=.int .i64 0) (go (by simp [Builtin.len_,run_underlying hu,hv,goInt])) rfl (by show ((0:Nat):Int)≤9223372036854775807;omega) (by simp [AV.rel,RV.rel])
  ·refine done_of h (v:=.int .i64 m) (go (by simp [Builtin.len_,run_underlying hu,hv,goInt])) rfl ?_ (by simp [AV.rel,RV.rel])
   have hγ:=h.cap k
   simp only[maxLen] at hγ
   show (m:Int)≤9223372036854775807
   omega
 ·rename_i km em _ _ _ k n e1 e2
  split at hp
  ·rename_i m e3
   have hn:n=(s.rows k).ver:=hp
   have hu:=tyq_map e1
   have hx:=h.ev x
   rw[e2] at hx
   simp only[AV.rel] at hx
   obtain⟨b,hβ,hv⟩:=hx.2 hn
   obtain⟨b',hβ',es,cl,hh,hM,_⟩:=mapOf_row h e3
   rw[hβ] at hβ'
   injection hβ' with hβ'
   subst hβ'
   have hl:=relM_length hM
   refine done_when h (v:=.int .i64 m.length) (go ?_) (by simp [AV.rel,RV.rel])
   simp [Builtin.len_,run_underlying hu,hv,getObj,Sem.run,hh,goInt,← hl]
  ·exact hp.elim
 ·rename_i n esz eagg _ _ _ cs e1 e2
  obtain⟨e,hu,_⟩:=tyq_arr e1
  have hx:=h.ev x
  rw[e2] at hx
  simp only[AV.rel,RV.rel] at hx
  obtain⟨vs,hv,_⟩:=hx
  exact done_v h (v:=.int .i64 n) (go (by simp [Builtin.len_,run_underlying hu,hv,goInt])) (by simp [AV.rel,RV.rel])
 ·rename_i n esz eagg _ _ _ cs e1 e2
  obtain⟨e,hu,_⟩:=tyq_arr e1
  have hx:=h.ev x
  rw[e2] at hx
  simp only[AV.rel] at hx
  obtain⟨vs,hv,_⟩:=hx
  exact done_v h (v:=.int .i64 n) (go (by simp [Builtin.len_,run_underlying hu,hv,goInt])) (by simp [AV.rel,RV.rel])
 ·exact hp.elim
theorem run_minF {k:IntKind}:∀ (xs:List Operand) (n:Int) (r:RV),SR C p s a w→minF k n (xs.map s.ev)=some r→∃ m,r = .it k m∧((xs.map a.eval).foldlM Builtin.min2 (.int k n)).run P w = .ok (.int k m) w
 | [],n,r,_,h=>by simp only[List.map_nil,minF] at h;injection h with h;exact⟨n,h.symm,by simp⟩
 | x::xs, n, r, hs, h=>by
   simp only[List.map_cons] at h
   unfold minF at h
   split at h
   ·rename_i heq;cases heq
   ·rename_i n' _ _ k' b rest heq
    injection heq with h1 h2
    split at h
    ·rename_i hk
     subst hk
     subst h2
     obtain⟨m,rfl,hr⟩:=run_minF xs (min n' b) r hs h
     refine⟨m,rfl,?_⟩
     have hx:=ev_it hs h1
     simp only[List.map_cons,List.foldlM_cons,hx,Builtin.min2,Sem.run_bind,Sem.run_pure,Result.andThen_ok];rw[show (if b<n' then b else n')=min n' b by omega]
     exact hr
    ·cases h
   ·cases h
theorem run_maxF {k:IntKind}:∀ (xs:List Operand) (n:Int) (r:RV),SR C p s a w→maxF k n (xs.map s.ev)=some r→∃ m,r = .it k m∧((xs.map a.eval).foldlM Builtin.max2 (.int k n)).run P w = .ok (.int k m) w
 | [],n,r,_,h=>by simp only[List.map_nil,maxF] at h;injection h with h;exact⟨n,h.symm,by simp⟩
 | x::xs, n, r, hs, h=>by
   simp only[List.map_cons] at h
   unfold maxF at h
   split at h
   ·rename_i heq;cases heq
   ·rename_i n' _ _ k' b rest heq
    injection heq with h1 h2
    split at h
    ·rename_i hk
     subst hk
     subst h2
     obtain⟨m,rfl,hr⟩:=run_maxF xs (max n' b) r hs h
     refine⟨m,rfl,?_⟩
     have hx:=ev_it hs h1
     simp only[List.map_cons,List.foldlM_cons,hx,Builtin.max2,Sem.run_bind,Sem.run_pure,Result.andThen_ok];rw[show (if b > n' then b else n')=max n' b by omega]
     exact hr
    ·cases h
   ·cases h
theorem good_min {args:Array Operand}{ts:Array TypeId}(h:SR C p s a w) (ho:o.op = .call ⟨.builtin .min,args,ts⟩) (hp:(sMinMax (minA (args.toList.map s.ev))).pre):Done P C o s a w (sMinMax (minA (args.toList.map s.ev))):=by
 obtain⟨l⟩:=args
 cases l with
 | nil=>simp [sMinMax,minA,Res.bad] at hp
 | cons x l =>
   simp only[List.map_cons] at hp ⊢
   unfold sMinMax at hp ⊢
   split at hp
   ·rename_i v e
    unfold minA at e
    split at e
    ·rename_i k n rest heq
     injection heq with h1 h2
     subst h2
     obtain⟨m,rfl,hr⟩:=run_minF (P:=P) l n v h e
     have hx:=ev_it h h1
     refine done_v h (v:=.int k m) (run_builtin_of ho ?_) (by simp [AV.rel,RV.rel])
     simp only[builtin,Builtin.min_,List.map_toArray,List.map_cons,Sem.run_bind,hx,hr,Result.andThen_ok,Sem.run_pure]
    ·cases e
   ·exact hp.elim
theorem good_max {args:Array Operand}{ts:Array TypeId}(h:SR C p s a w) (ho:o.op = .call ⟨.builtin .max,args,ts⟩) (hp:(sMinMax (maxA (args.toList.map s.ev))).pre):Done P C o s a w (sMinMax (maxA (args.toList.map s.ev))):=by
 obtain⟨l⟩:=args
 cases l with
 | nil=>simp [sMinMax,maxA,Res.bad] at hp
 | cons x l =>
   simp only[List.map_cons] at hp ⊢
   unfold sMinMax at hp ⊢
   split at hp
   ·rename_i v e
    unfold maxA at e
    split at e
    ·rename_i k n rest heq
     injection heq with h1 h2
     subst h2
     obtain⟨m,rfl,hr⟩:=run_maxF (P:=P) l n v h e
     have hx:=ev_it h h1
     refine done_v h (v:=.int k m) (run_builtin_of ho ?_) (by simp [AV.rel,RV.rel])
     simp only[builtin,Builtin.max_,List.map_toArray,List.map_cons,Sem.run_bind,hx,hr,Result.andThen_ok,Sem.run_pure]
    ·cases e
   ·exact hp.elim
theorem zro (rows:Nat→Row) (v:AV) (k:Nat) (r:Row):(Yi.mk v [(k,r)]).rows rows=upd rows k r:=rfl
theorem good_box {t:TypeId}{x:Operand}(h:SR C p s a w) (ho:o.op = .box t x) (hp:(sBox s (o.dst.getD 0) (s.ev x)).pre):Done P C o s a w (sBox s (o.dst.getD 0) (s.ev x)):=by
 unfold sBox at hp ⊢
 split at hp
 ·rename_i cs e
  obtain⟨hc,h1⟩:=cells_rel e (h.ev x)
  have hn:=h.newRow (o.dst.getD 0) hp (.box cs) rfl 0 (Nat.zero_le _) (.cells (a.eval x).cells t) (fun p' ver' _ hβ _ hk=>by
   simp only[zrl];exact⟨_,_,t,hβ,heap_alloc_new w _,AV.relV_mono hk _ _ hc,h1⟩)
  refine⟨_,.pointer (some ⟨w.heap.size,0,none⟩),_,_,?_,.inl rfl,trivial,by rw[zro];exact hn,?_⟩
  ·simp [execOp,ho,Instr.box,newVar,newRow]
  ·rw[zro]
   simp only[AV.rel,vers,zus];exact⟨Nat.le_refl _,fun _=>⟨_,rfl,rfl⟩⟩
 ·exact hp.elim
theorem good_alloc {t:TypeId}(h:SR C p s a w) (ho:o.op = .alloc t) (hp:(sAlloc P s (o.dst.getD 0) t).pre):Done P C o s a w (sAlloc P s (o.dst.getD 0) t):=by
 unfold sAlloc at hp ⊢
 split at hp
 ·rename_i T e
  obtain⟨_,_,_,z,hz,hzz⟩:=tyq_base e
  obtain⟨v,hv,hvz⟩:=run_zeroValue_ok (w:=w) hz
  have hz2:=zero_rel (s:=s) (w:=w) (p:=p) hz
  have hn:=h.newRow (o.dst.getD 0) hp (.box (T.zero.map .r)) rfl 0 (Nat.zero_le _) (.cells v.cells t) (fun p' ver' _ hβ _ hk=>by
   simp only[zrl];exact⟨_,_,t,hβ,heap_alloc_new w _,by rw[hvz,hzz];exact AV.relV_mono hk _ _ hz2.1,by rw[hvz];exact hz2.2⟩)
  refine⟨_,.pointer (some ⟨w.heap.size,0,none⟩),_,_,?_,.inl rfl,trivial,by rw[zro];exact hn,?_⟩
  ·simp [execOp,ho,Instr.alloc,newVar,newRow,hv]
  ·rw[zro]
   simp only[AV.rel,vers,zus];exact⟨Nat.le_refl _,fun _=>⟨_,rfl,rfl⟩⟩
 ·exact hp.elim
theorem good_makeSlice {t:TypeId}{l c:Operand}(h:SR C p s a w) (ho:o.op = .makeSlice t l c) (hp:(sMakeSlice P s (o.dst.getD 0) t (s.ev l) (s.ev c)).pre) :
 Done P C o s a w (sMakeSlice P s (o.dst.getD 0) t (s.ev l) (s.ev c)):=by
 unfold sMakeSlice at hp ⊢
 split at hp
 ·rename_i e esz eb ez _ _ _ kl n kc m e1 e2 e3
  obtain⟨hu,hok,hsz,hby,zv,hzv,hez⟩:=tyq_slice e1
  obtain⟨i,z,hi,hzero,hcells,hz1,hzl⟩:=zeroOf_spec hzv
  rw[bytesOf_info hi] at hby
  rw[zci hi] at hsz
  subst hsz hby
  obtain⟨h0,h1,h2,h3,h4,h5⟩:0≤n∧n≤m∧(i.bytes:Int)*m≤281474976710656∧m≤9223372036854775807∧0<i.size∧o.dst.getD 0<1000:=hp
  have hr:=run_make (P:=P) w t e i z hu hi hzero kl kc n m h0 h1 h2 h3
  have hzc:z.cells.size=i.size:=by rw[zci hi] at hzl;rw[← hzl,← hcells];simp
  have hlist:=madeCells_list z.cells m.toNat
  rw[hzc,hcells] at hlist
  obtain⟨d,hd⟩:∃ d,m.toNat=n.toNat+d:=⟨m.toNat-n.toNat,by omega⟩
  have hn:=h.newRow (o.dst.getD 0) h5 (.arr e i.size (List.replicate n.toNat ez)) rfl m.toNat (by simp only[maxLen];omega) (.cells (madeCells z.cells (m.toNat*i.size)) e) (fun p' ver' _ hβ hγ hk=>by
   simp only[zrl];rw[hγ]
   refine .inr ⟨_,_,hβ,heap_alloc_new w _,size_madeCells _ _,by simp;omega,?_⟩
   refine relE_of_vals (us:=(List.replicate n.toNat zv).flatten) (fun e he=>by rw[List.eq_of_mem_replicate he,hez,List.length_map,hzl,zci hi]) ?_ ?_ (fun j u hj=>?_)
   ·rw[hez]
    generalize n.toNat=q
    induction q with
    | zero=>simp [RV.relV]
    | succ q ih=>simp only[List.replicate_succ,List.flatten_cons];exact RV.relV_append (RV.relV_ofV1 _ _ zv) ih
   ·intro u hu
    obtain⟨l,hl,hul⟩:=List.mem_flatten.1 hu
    rw[List.eq_of_mem_replicate hl] at hul
    exact hz1 u hul
   ·rw[add_at]
    simp only[Nat.zero_add,World.cell?_alloc_new];rw[← Array.getElem?_toList,hlist,hd,← List.replicate_append_replicate,List.flatten_append]
    rw[List.getElem?_append_left (List.getElem?_eq_some_iff.1 hj).1]
    exact hj)
  refine⟨_,.slice (some ⟨w.heap.size,0,none⟩) n.toNat m.toNat,_,_,?_,.inl rfl,trivial,by rw[zro];exact hn,?_⟩
  ·simp only[execOp,ho,ev_it h e2,ev_it h e3,Sem.run_bind,hr,Result.andThen_ok,Sem.run_pure]
  ·rw[zro]
   simp only[AV.rel,vers,zus];exact⟨Nat.le_refl _,fun _=>.inr ⟨_,_,rfl,by simp;rfl,by omega,fun _=>by simp⟩⟩
 ·exact hp.elim
end
end Go.Oc

namespace Go.Oc
open Go Go.RowKit
theorem elem_at {α:Type}{sz:Nat}:∀ {es:List (List α)}{i:Nat}{e:List α},(∀ e∈es,e.length=sz)→es[i]? = some e→(es.flatten.drop (i*sz)).take sz=e
 | [],_,_,_,h=>by simp at h
 | x::es, 0, e, hl, h=>by
   simp at h;subst h
   have he:=hl x (by simp)
   simp [← he]
 | x::es, i+1, e, hl, h=>by
   have he:=hl x (by simp)
   have:=elem_at (fun y hy=>hl y (by simp [hy])) (by simpa using h:es[i]? = some e)
   rw[List.flatten_cons,Nat.add_mul,Nat.one_mul,Nat.add_comm (i*sz) sz,← he,List.drop_append,List.drop_eq_nil_of_le (by omega)]
   simpa [he] using this
theorem flatten_sub {α:Type}{sz:Nat}{es:List (List α)}{i off n:Nat}{e xs:List α}(hl:∀ e∈es,e.length=sz) (he:es[i]? = some e) (hn:xs.length=n) (hfit:off+n≤sz) :
 (es.set i (e.take off++(xs++e.drop (off+n)))).flatten=es.flatten.take (i*sz+off)++(xs++es.flatten.drop (i*sz+off+n)):=by
 have hi:i<es.length:=(List.getElem?_eq_some_iff.1 he).1
 have hel:=elem_at hl he
 rw[flatten_set hl hi,List.take_add,List.append_assoc,List.append_assoc,List.append_assoc]
 congr 1
 have h1:(es.flatten.drop (i*sz)).take off=e.take off:=by rw[← hel,List.take_take];congr 1;omega
 have h2:e.drop (off+n)++es.flatten.drop (i*sz+sz)=es.flatten.drop (i*sz+off+n):=by
  rw[← hel,List.drop_take]
  have:es.flatten.drop (i*sz+sz)=((es.flatten.drop (i*sz)).drop (off+n)).drop (sz-(off+n)):=by
   rw[List.drop_drop,List.drop_drop];congr 1;omega
  rw[this,List.take_append_drop,List.drop_drop]
  congr 1;omega
 rw[h1,h2]
theorem seg_get {A B vs:List Value}{k:Nat}(hAB:∀ (i:Nat) (u:Value),A[i]? = some u→B[i]? = some u) (hfit:k+vs.length≤A.length) (hle:A.length≤B.length) {q:Nat}{u:Value}
 (h:(A.take k++(vs++A.drop (k+vs.length)))[q]? = some u):(B.take k++(vs++B.drop (k+vs.length)))[q]? = some u:=by
 have hA:(A.take k).length=k:=by simp;omega
 have hB:(B.take k).length=k:=by simp;omega
 rw[List.getElem?_append] at h ⊢
 rw[hA] at h
 rw[hB]
 split at h
 ·rename_i h1
  rw[if_pos h1]
  rw[List.getElem?_take,if_pos h1] at h ⊢
  exact hAB _ _ h
 ·rename_i h1
  rw[if_neg h1]
  rw[List.getElem?_append] at h ⊢
  split at h
  ·rename_i h2;rw[if_pos h2];exact h
  ·rename_i h2
   rw[if_neg h2]
   rw[List.getElem?_drop] at h ⊢
   exact hAB _ _ h
section
variable {P:Program}{C:Ctx}{p:Plan}{s:AS}{a:Act}{w w':World}{o:Oper}
theorem run_storeAt {t:TypeId}{T:TI}(ht:tyq P t=some T) {b off:Nat}{cells:Array Value}{ty:TypeId}{v:Value}(hh:w.heap[b]? = some (.cells cells ty (0,0))) (hv:v.cells.size=T.sz)
 (hfit:off+T.sz≤cells.size) (h1:∀ u∈v.cells.toList,u.oneCell'=true) :
 (Instr.storeAt t (.pointer (some ⟨b,off,none⟩)) v).run P w = .ok () (w.setRow b (cells.toList.take off++(v.cells.toList++cells.toList.drop (off+v.cells.toList.length))).toArray):=by
 obtain⟨hok,hsz,_⟩:=tyq_base ht
 have hst:=run_storeCells_at P b off ty v.cells.toList 0 cells w hh (by simp;omega) h1
 simp only[Nat.add_zero,List.append_assoc] at hst
 simp only[Instr.storeAt,Instr.sureAddr,storeVar,Sem.run_bind,Sem.run_pure,Result.andThen_ok,zrs hok]
 rw[if_neg (by rw[hv,hsz];simp)]
 exact hst
theorem good_store {t:TypeId}{x y:Operand}(h:SR C p s a w) (ho:o.op = .store t x y) (hp:(sStore P s t (s.ev x) (s.ev y)).pre):Done P C o s a w (sStore P s t (s.ev x) (s.ev y)):=by
 unfold sStore at hp ⊢
 split at hp
 ·rename_i T k n off xs e1 e2 e3
  split at hp
  ·rename_i n' cs e4
   obtain⟨hn,hlen,hfit⟩:n=n'∧xs.length=T.sz∧off+T.sz≤cs.length:=hp
   have hver:n=s.ver k:=by rw[hn];simp [AS.ver,e4]
   obtain⟨b,hβ,hv⟩:=ev_pt h e2 hver
   have hrow:=h.rw k
   rw[e4] at hrow
   simp only[zrl] at hrow
   obtain⟨b',cells,ty,hβ',hh,hV,h1⟩:=hrow
   rw[hβ] at hβ'
   injection hβ' with hβ'
   subst hβ'
   obtain⟨hc,ho1⟩:=cells_rel e3 (h.ev y)
   have hlv:=AV.relV_length hc
   have hlc:=AV.relV_length hV
   simp only[Array.length_toList] at hlv hlc
   have hst:=run_storeAt (P:=P) (w:=w) e1 (off:=off) hh (by omega) (by omega) ho1
   have hn2:n'=(s.rows k).ver:=by rw[e4]
   have hset:=h.setRow (w':=w.setRow b (cells.toList.take off++((a.eval y).cells.toList++cells.toList.drop (off+(a.eval y).cells.toList.length))).toArray) k
    (.box (cs.take off++(xs++cs.drop (off+T.sz)))) (by rw[e4];rfl) (fun _ _ _ _ h=>by cases h) hβ rfl rfl rfl (by simp) (fun i hi=>setRow_other w b i _ hi) (fun hk=>by
     simp only[zrl]
     refine⟨b,_,ty,hβ,setRow_heap w b cells _ ty _ hh,?_,?_⟩
     ·rw[show T.sz=(a.eval y).cells.toList.length by simp;omega]
      exact AV.relV_append (AV.relV_mono hk _ _ (AV.relV_take off hV)) (AV.relV_append (AV.relV_mono hk _ _ hc) (AV.relV_mono hk _ _ (AV.relV_drop _ hV)))
     ·intro u hu
      simp only[List.mem_append] at hu
      rcases hu with hu|hu|hu
      ·exact h1 u (List.mem_of_mem_take hu)
      ·exact ho1 u hu
      ·exact h1 u (List.mem_of_mem_drop hu))
   refine⟨.skip,undef,_,_,?_,.inr ⟨rfl,rfl⟩,trivial,by rw[zro,hn2];exact hset,?_⟩
   ·simp only[execOp,ho,hv,Sem.run_bind,hst,Result.andThen_ok,Sem.run_pure]
   ·simp only[AV.rel,RV.rel]
  ·exact hp.elim
 ·rename_i T k n sz idx off xs e1 e2 e3
  split at hp
  ·rename_i n' t' sz' es xs' e4 e5
   obtain⟨hn,hsz,hidx,hlen,hfit⟩:n=n'∧sz=sz'∧idx<es.length∧xs'.length=T.sz∧off+T.sz≤sz:=hp
   subst hsz
   have hver:n=s.ver k:=by rw[hn];simp [AS.ver,e4]
   obtain⟨b,hβ,hv⟩:=ev_pe h e2 hver
   have hrow:=h.rw k
   rw[e4] at hrow
   simp only[zrl] at hrow
   rcases hrow with⟨hb,_⟩|⟨b',cells,hβ',hh,hcs,hle,hE⟩
   ·rw[hb] at hβ;cases hβ
   ·rw[hβ] at hβ'
    injection hβ' with hβ'
    subst hβ'
    obtain⟨hc,ho1⟩:=cells_rel e3 (h.ev y)
    have hc:=roL_rel e5 hc
    have hlv:=RV.relV_length hc
    simp only[Array.length_toList] at hlv
    obtain⟨hl,us,hlu,hget,hVu,h1u⟩:=relE_vals hE
    simp only[Nat.zero_add,add_at] at hget
    have hx:es[idx]? = some (es.getD idx []):=by simp [List.getD,hidx]
    have hmul:idx*sz+sz≤es.length*sz:=by
     have:=Nat.mul_le_mul_right sz (show idx+1≤es.length by omega)
     rw[Nat.add_mul] at this;omega
    have hcap:es.length*sz≤cells.size:=by rw[hcs];exact Nat.mul_le_mul_right _ hle
    have hst:=run_storeAt (P:=P) (w:=w) e1 (off:=idx*sz+off) hh (by omega) (by omega) ho1
    have hn2:n'=(s.rows k).ver:=by rw[e4]
    have hel:(es.getD idx []).length=sz:=hl _ (List.mem_of_getElem? hx)
    have hset:=h.setRow (w':=w.setRow b (cells.toList.take (idx*sz+off)++((a.eval y).cells.toList++cells.toList.drop (idx*sz+off+(a.eval y).cells.toList.length))).toArray) k
     (.arr t' sz (es.set idx ((es.getD idx []).take off++(xs'++(es.getD idx []).drop (off+T.sz))))) (by rw[e4];rfl) (fun _ _ _ _ h=>by cases h) hβ rfl rfl rfl (by simp) (fun i hi=>setRow_other w b i _ hi) (fun hk=>by
      simp only[zrl]
      refine .inr ⟨b,_,hβ,setRow_heap w b cells _ t' _ hh,?_,by simpa using hle,?_⟩
      ·simp;omega
      ·refine relE_of_vals (us:=us.take (idx*sz+off)++((a.eval y).cells.toList++us.drop (idx*sz+off+(a.eval y).cells.toList.length))) (fun e hm=>?_) ?_ ?_ (fun j u hj=>?_)
       ·rcases List.mem_or_eq_of_mem_set hm with hm|hm
        ·exact hl e hm
        ·rw[hm,List.length_append,List.length_append,List.length_take,List.length_drop,hel];omega
       ·rw[flatten_sub hl hx hlen hfit,show T.sz=(a.eval y).cells.toList.length by simp;omega]
        exact RV.relV_append (RV.relV_mono hk.R hk.cell _ _ (RV.relV_take _ hVu)) (RV.relV_append (RV.relV_mono hk.R hk.cell _ _ hc) (RV.relV_mono hk.R hk.cell _ _ (RV.relV_drop _ hVu)))
       ·intro u hu
        simp only[List.mem_append] at hu
        rcases hu with hu|hu|hu
        ·exact h1u u (List.mem_of_mem_take hu)
        ·exact ho1 u hu
        ·exact h1u u (List.mem_of_mem_drop hu)
       ·rw[Nat.zero_add,add_at,Nat.zero_add,cell_setRow_same w b j cells _ t' _ hh,List.getElem?_toArray]
        refine seg_get (fun i v hi=>?_) (by simp;omega) (by simp;omega) hj
        have:=hget i v hi
        rw[cell_of_row w b i cells t' (0,0) hh] at this
        simpa using this)
    refine⟨.skip,undef,_,_,?_,.inr ⟨rfl,rfl⟩,trivial,by rw[zro,hn2];exact hset,?_⟩
    ·simp only[execOp,ho,hv,Sem.run_bind,hst,Result.andThen_ok,Sem.run_pure]
    ·simp only[AV.rel,RV.rel]
  ·rename_i n' t' sz' cs e4
   obtain⟨hn,hlen,hfit⟩:n=n'∧xs.length=T.sz∧idx*sz+off+T.sz≤cs.length:=hp
   have hver:n=s.ver k:=by rw[hn];simp [AS.ver,e4]
   obtain⟨b,hβ,hv⟩:=ev_pe h e2 hver
   have hrow:=h.rw k
   rw[e4] at hrow
   simp only[zrl] at hrow
   obtain⟨b',cells,hβ',hh,hsz,l,rest,hl,hV,h1⟩:=hrow
   rw[hβ] at hβ'
   injection hβ' with hβ'
   subst hβ'
   obtain⟨hc,ho1⟩:=cells_rel e3 (h.ev y)
   have hlv:=AV.relV_length hc
   have hlc:=AV.relV_length hV
   have hcl:cells.size=l.length+rest.length:=by rw[← Array.length_toList,hl,List.length_append]
   simp only[Array.length_toList] at hlv
   have hst:=run_storeAt (P:=P) (w:=w) e1 (off:=idx*sz+off) hh (by omega) (by omega) ho1
   have hn2:n'=(s.rows k).ver:=by rw[e4]
   have hset:=h.setRow (w':=w.setRow b (cells.toList.take (idx*sz+off)++((a.eval y).cells.toList++cells.toList.drop (idx*sz+off+(a.eval y).cells.toList.length))).toArray) k
    (.ara t' sz' (cs.take (idx*sz+off)++(xs++cs.drop (idx*sz+off+T.sz)))) (by rw[e4];rfl) (fun _ _ _ _ h=>by cases h) hβ rfl rfl rfl (by simp) (fun i hi=>setRow_other w b i _ hi) (fun hk=>by
     simp only[zrl]
     refine⟨b,_,hβ,setRow_heap w b cells _ t' _ hh,?_,l.take (idx*sz+off)++((a.eval y).cells.toList++l.drop (idx*sz+off+(a.eval y).cells.toList.length)),rest,?_,?_,?_⟩
     ·simp;omega
     ·simp only[];rw[hl,List.take_append_of_le_length (by omega),List.drop_append_of_le_length (by simp;omega)]
      simp
     ·rw[show T.sz=(a.eval y).cells.toList.length by simp;omega]
      exact AV.relV_append (AV.relV_mono hk _ _ (AV.relV_take (idx*sz+off) hV)) (AV.relV_append (AV.relV_mono hk _ _ hc) (AV.relV_mono hk _ _ (AV.relV_drop _ hV)))
     ·intro u hu
      simp only[List.mem_append] at hu
      rcases hu with hu|hu|hu
      ·exact h1 u (List.mem_of_mem_take hu)
      ·exact ho1 u hu
      ·exact h1 u (List.mem_of_mem_drop hu))
   refine⟨.skip,undef,_,_,?_,.inr ⟨rfl,rfl⟩,trivial,by rw[zro,hn2];exact hset,?_⟩
   ·simp only[execOp,ho,hv,Sem.run_bind,hst,Result.andThen_ok,Sem.run_pure]
   ·simp only[AV.rel,RV.rel]
  ·exact hp.elim
 ·exact hp.elim
theorem run_append_zero {t ty e:TypeId}(ht:P.underlying t=some (.slice e)) (hok:okT P e=true) {A B:Option Addr}{n c cB:Nat}(h:n≤c) :
 (Builtin.append_ #[t,t] ty #[.slice A n c,.slice B 0 cB]).run P w = .ok (.slice A n c) w:=by
 unfold Builtin.append_
 have hf:(Builtin.firstCells (P.cellsOf e) 0 (.slice B 0 cB)).run P w = .ok #[] w:=by
  cases B<;>simp [Builtin.firstCells,loadCells,loadCellsFrom]
 cases A<;>simp [run_underlying ht,zrs hok,Builtin.lenOf,h,hf,storeCells]
theorem news_rel (h:SR C p s a w) {y:Operand}{c:Prop}{sz esz:Nat}{ns:List (List RV)}(hy:news? s (s.ev y)=some (c,sz,ns)) (hc:c) (hsz:sz=esz∨ns=[]) :
 ∃ B cB, a.eval y = .slice B ns.length cB∧(ns≠[]→∃ ad us, B=some ad∧us.length=ns.length*esz∧(∀ j u, us[j]? = some u→w.cell? (ad.add j)=some u) ∧
   RV.relV w p.R ns.flatten us∧(∀ u∈us,u.oneCell'=true)∧∀ e∈ns,e.length=esz):=by
 unfold news? at hy
 split at hy
 ·rename_i e
  injection hy with hy
  injection hy with h1 h2
  injection h2 with h2 h3
  subst h3
  obtain⟨A,hv⟩:=ev_ns h e
  exact⟨A,0,hv,fun h=>absurd rfl h⟩
 ·rename_i sz' es e
  injection hy with hy
  injection hy with h1 h2
  injection h2 with h2 h3
  subst h2 h3
  obtain⟨A,c,hv,_,_,hne⟩:=ev_sl h e
  refine⟨A,c,hv,fun hnil=>?_⟩
  obtain⟨ad,hA,hR,hE⟩:=hne hnil
  obtain⟨hl,us,hlu,hget,hV,h1u⟩:=relE_vals hE
  have hsz':sz'=esz:=hsz.resolve_right hnil
  subst hsz'
  exact⟨ad,us,hA,hlu,fun j u hj=>by simpa using hget j u hj,hV,h1u,hl⟩
 ·rename_i k n sz' off m e
  split at hy
  ·rename_i n' t' sz2 es e2
   injection hy with hy
   injection hy with h1 h2
   injection h2 with h2 h3
   subst h1 h2 h3
   obtain⟨hn,hs2,hfit⟩:=hc
   have hver:n=s.ver k:=by rw[hn];simp [AS.ver,e2]
   have hlen:((es.drop off).take m).length=m:=by simp;omega
   rcases ev_os h e hver with⟨hβ,_,h0,hm,A,hv⟩|⟨b,A,hβ,hv,hle,hA⟩
   ·refine⟨A,0,by rw[hlen,hm];exact hv,fun hnil=>absurd ?_ hnil⟩
    rw[hm];simp
   ·refine⟨A,_,by rw[hlen];exact hv,fun hnil=>?_⟩
    have hsz':sz'=esz:=hsz.resolve_right hnil
    subst hsz'
    have hm:0<m:=by
     rcases Nat.eq_zero_or_pos m with h0|h0
     ·exact absurd (by rw[h0];simp) hnil
     ·exact h0
    have hrow:=h.rw k
    rw[e2] at hrow
    simp only[zrl] at hrow
    rcases hrow with⟨hb,_⟩|⟨b',cells,hβ',hh,hcs,hle2,hE⟩
    ·rw[hb] at hβ;cases hβ
    ·rw[hβ] at hβ'
     injection hβ' with hβ'
     subst hβ'
     have hE2:=relE_cut hE off (off+m)
     rw[add_at,Nat.zero_add,← hs2,List.take_drop.symm] at hE2
     obtain⟨hl,us,hlu,hget,hV,h1u⟩:=relE_vals hE2
     refine⟨_,us,hA (.inl hm),hlu,fun j u hj=>by simpa using hget j u hj,hV,h1u,hl⟩
  ·cases hy
 ·cases hy
end
end Go.Oc

namespace Go.Oc
open Go Go.RowKit
open Go.ChangeMaps (setBlock)
section
variable {P:Program}{C:Ctx}{p:Plan}{s:AS}{a:Act}{w w':World}{o:Oper}{R:Nat→Prop}
theorem relM_get':∀ {m:List (RV × RV)}{l:List MapEntry}{i:Nat}{e:MapEntry},RV.relM w R m l→l[i]? = some e→∃ x,m[i]? = some x∧x.1.rel w R e.key∧x.2.rel w R e.val
 | [],_,_,_,hm,h=>by simp only[RV.relM] at hm;subst hm;simp at h
 | y::m, l, i, e, hm, h=>by
   simp only[RV.relM] at hm
   obtain⟨e',es',rfl,h1,h2,h3⟩:=hm
   cases i with
   | zero=>simp at h;subst h;exact⟨y,rfl,h1,h2⟩
   | succ i=>simpa using relM_get' h3 (by simpa using h)
theorem relM_set {x:RV × RV}{e:MapEntry}(h1:x.1.rel w R e.key) (h2:x.2.rel w R e.val):∀ {m:List (RV × RV)}{l:List MapEntry}{i:Nat},RV.relM w R m l→RV.relM w R (m.set i x) (l.set i e)
 | [],l,i,hm=>by simp only[RV.relM] at hm;subst hm;simp [RV.relM]
 | y::m, l, i, hm=>by
   simp only[RV.relM] at hm
   obtain⟨e',es',rfl,g1,g2,g3⟩:=hm
   cases i with
   | zero=>simp only[List.set_cons_zero,RV.relM];exact⟨e,es',rfl,h1,h2,g3⟩
   | succ i=>simp only[List.set_cons_succ,RV.relM];exact⟨e',_,rfl,g1,g2,relM_set h1 h2 g3⟩
theorem relM_snoc {x:RV × RV}{e:MapEntry}(h1:x.1.rel w R e.key) (h2:x.2.rel w R e.val):∀ {m:List (RV × RV)}{l:List MapEntry},RV.relM w R m l→RV.relM w R (m++[x]) (l++[e])
 | [],l,hm=>by simp only[RV.relM] at hm;subst hm;simp only[List.nil_append,RV.relM];exact⟨e,[],rfl,h1,h2,rfl⟩
 | y::m, l, hm=>by
   simp only[RV.relM] at hm
   obtain⟨e',es',rfl,g1,g2,g3⟩:=hm
   simp only[List.cons_append,RV.relM];exact⟨e',_,rfl,g1,g2,relM_snoc h1 h2 g3⟩
theorem relM_erase:∀ {m:List (RV × RV)}{l:List MapEntry}{i:Nat},RV.relM w R m l→RV.relM w R (m.eraseIdx i) (l.eraseIdx i)
 | [],l,i,hm=>by simp only[RV.relM] at hm;subst hm;simp [RV.relM]
 | y::m, l, i, hm=>by
   simp only[RV.relM] at hm
   obtain⟨e',es',rfl,g1,g2,g3⟩:=hm
   cases i with
   | zero=>simpa using g3
   | succ i=>simp only[List.eraseIdx_cons_succ,RV.relM];exact⟨e',_,rfl,g1,g2,relM_erase g3⟩
theorem findK_run {kk ka:IntKind}{n:Int}:∀ {m:List (RV × RV)}{l:List MapEntry}{i:Nat}{r:Option (Nat × RV)},RV.relM w R m l→findK (.it ka n) m i=some r →
 ∃ r', Instr.findNow (.int kk) (.int ka n) l i=some r'∧(r=none→r'=none) ∧
   ∀ j v,r=some (j,v)→i≤j∧∃ e,l[j-i]? = some e∧r'=some (j,e.val)∧e.key = .int ka n∧v.rel w R e.val∧∃ x,m[j-i]? = some x
 | [], l, i, r, hm, h=>by
   simp only[RV.relM] at hm
   subst hm
   simp only[findK,Option.some.injEq] at h
   subst h
   exact⟨none,rfl,fun _=>rfl,fun j v h=>by cases h⟩
 | y::m, l, i, r, hm, h=>by
   simp only[RV.relM] at hm
   obtain⟨e,es',rfl,g1,g2,g3⟩:=hm
   obtain⟨y1,y2⟩:=y
   simp only at g1 g2
   simp only[findK] at h
   cases y1<;>simp only[sameK,reduceCtorEq] at h
   rename_i kb b
   simp only[RV.rel] at g1
   by_cases hk:ka=kb
   ·subst hk
    simp only[if_true] at h
    cases hnb:(n == b)
    ·simp only[hnb] at h
     obtain⟨r',h1,h2,h3⟩:=findK_run g3 h
     refine⟨r',?_,h2,fun j v hj=>?_⟩
     ·simp only[Instr.findNow,g1,Instr.sameNow,if_true,hnb];exact h1
     ·obtain⟨h4,e',h5,h6,h7,h8,x,hx⟩:=h3 j v hj
      refine⟨by omega,e',?_,h6,h7,h8,x,?_⟩
      ·rw[show j-i=(j-(i+1))+1 from by omega];simpa using h5
      ·rw[show j-i=(j-(i+1))+1 from by omega];simpa using hx
    ·simp only[hnb,Option.some.injEq] at h
     subst h
     have hb:n=b:=by simpa using hnb
     subst hb
     refine⟨some (i,e.val),?_,(fun h=>by cases h),fun j v hj=>?_⟩
     ·simp only[Instr.findNow,g1,Instr.sameNow,if_true,hnb]
     ·simp only[Option.some.injEq,Prod.mk.injEq] at hj
      obtain⟨rfl,rfl⟩:=hj
      exact⟨Nat.le_refl _,e,by simp,rfl,g1,g2,_,by simp;rfl⟩
   ·simp [hk] at h
theorem run_getMap {b:Nat}{es:Array MapEntry}{cl:Nat}(h:w.heap[b]? = some (.map es cl)):(getObj b).run P w = .ok (.map es cl) w:=by simp [getObj,Sem.run,h]
theorem run_getIter {b:Nat}{m:Option Nat}{s0 l0:Nat}{seen:Array Nat}(h:w.heap[b]? = some (.mapIter m s0 seen l0)):(getObj b).run P w = .ok (.mapIter m s0 seen l0) w:=by simp [getObj,Sem.run,h]
theorem run_setMap {b:Nat}{es:Array MapEntry}{cl:Nat}(h:w.heap[b]? = some (.map es cl)) (ob:Obj):(setObj b ob).run P w = .ok () (setBlock w b ob):=by simp [setObj,Sem.run,h,setBlock]
theorem setBlock_same {b:Nat}(h:b<w.heap.size) (o':Obj):(setBlock w b o').heap[b]? = some o':=by simp [setBlock,h]
theorem setBlock_other {b i:Nat}(h:i≠b) (o':Obj):(setBlock w b o').heap[i]? = w.heap[i]?:=by simp [setBlock,Ne.symm h]
theorem setBlock_size {b:Nat}(o':Obj):(setBlock w b o').heap.size=w.heap.size:=by simp [setBlock]
theorem run_findKey_now {k:TypeId}{kk:IntKind}(hk:P.underlying k=some (.int kk)) {v:Value}{l:List MapEntry}{r:Option (Nat × Value)}(h:Instr.findNow (.int kk) v l 0=some r):(Instr.findKey k v l).run P w = .ok r w:=by
 simp [Instr.findKey,run_underlying hk,h]
theorem allIt_get:∀ {xs:List RV}{i:Nat}{x:RV},allIt xs=true→xs[i]? = some x→∃ k n,x = .it k n
 | [],_,_,_,h=>by simp at h
 | y::xs, i, x, ha, h=>by
   cases y<;>simp only[allIt,Bool.false_eq_true] at ha
   cases i with
   | zero=>simp at h;subst h;exact⟨_,_,rfl⟩
   | succ i=>exact allIt_get ha (by simpa using h)
theorem allIt_val {R':Nat→Prop}{w':World}:∀ {xs:List RV}{us vs:List Value},allIt xs=true→RV.relV w R xs us→RV.relV w' R' xs vs→us=vs
 | [],us,vs,_,h1,h2=>by simp only[RV.relV] at h1 h2;rw[h1,h2]
 | y::xs, us, vs, ha, h1, h2=>by
   cases y<;>simp only[allIt,Bool.false_eq_true] at ha
   simp only[RV.relV] at h1 h2
   obtain⟨u,us',rfl,e1,h1⟩:=h1
   obtain⟨v,vs',rfl,e2,h2⟩:=h2
   simp only[RV.rel] at e1 e2
   rw[e1,e2,allIt_val ha h1 h2]
theorem allIt_stays:∀ {xs:List RV}{us:List Value}(d:Nat),allIt xs=true→RV.relV w R xs us→((us.zip us).all fun (x,y)=>Instr.sameBits (d+1) x y)=true
 | [],us,d,_,h=>by simp only[RV.relV] at h;subst h;rfl
 | y::xs, us, d, ha, h=>by
   cases y<;>simp only[allIt,Bool.false_eq_true] at ha
   simp only[RV.relV] at h
   obtain⟨u,us',rfl,e,h⟩:=h
   simp only[RV.rel] at e
   subst e
   simp only[List.zip_cons_cons,List.all_cons,Bool.and_eq_true];exact⟨by simp [Instr.sameBits],allIt_stays d ha h⟩
theorem cmpL_true:∀ {as bs:List RV},cmpL as bs=some true→as=bs
 | [],[],_=>rfl
 | [],_::_,h=>by simp [cmpL] at h
 | a::as,[],h=>by cases a<;>simp [cmpL] at h
 | a::as, b::bs, h=>by
   cases a<;>cases b<;>simp only[cmpL,reduceCtorEq] at h
   split at h
   ·rename_i e
    subst e
    split at h
    ·rename_i r e2
     simp only[Option.some.injEq,Bool.and_eq_true,beq_iff_eq] at h
     obtain⟨rfl,rfl⟩:=h
     rw[cmpL_true e2]
    ·cases h
   ·cases h
theorem findAsking_run {kt:TypeId}{n:Nat}(ht:eqT P kt=some n) {as:List RV}(hl:as.length=n) {xs:Array Value}{q:Plan}(hx:RV.relV w q.R as xs.toList) (ha:allIt as=true) :
 ∀ {m:List (RV × RV)}{l:List MapEntry}{i:Nat}{r:Option (Nat × RV)},RV.relM w q.R m l→findK (.ag as) m i=some r →
 ∃ r', (Instr.findAsking kt (.agg xs) l i).run P w = .ok r' w∧(r=none→r'=none) ∧
   ∀ j v,r=some (j,v)→i≤j∧∃ e,l[j-i]? = some e∧r'=some (j,e.val)∧e.key = .agg xs∧v.rel w q.R e.val∧∃ x,m[j-i]? = some x
 | [], l, i, r, hm, h=>by
   simp only[RV.relM] at hm
   subst hm
   simp only[findK,Option.some.injEq] at h
   subst h
   exact⟨none,by simp [Instr.findAsking],fun _=>rfl,fun j v h=>by cases h⟩
 | y::m, l, i, r, hm, h=>by
   simp only[RV.relM] at hm
   obtain⟨e,es',rfl,g1,g2,g3⟩:=hm
   obtain⟨y1,y2⟩:=y
   simp only at g1 g2
   simp only[findK] at h
   cases y1<;>simp only[sameK,reduceCtorEq] at h
   rename_i bs
   simp only[RV.rel] at g1
   obtain⟨ys,ek,_,hy⟩:=g1
   cases hc:cmpL as bs with
   | none=>simp [hc] at h
   | some c =>
     obtain⟨hrun,_⟩:=eqT_run (w:=w) ht hx hy hl hc
     have hrun':(Op.equal kt (.agg xs) e.key).run P w = .ok c w:=by rw[ek];exact hrun
     cases c
     ·simp only[hc] at h
      obtain⟨r',h1,h2,h3⟩:=findAsking_run ht hl hx ha g3 h
      refine⟨r',?_,h2,fun j v hj=>?_⟩
      ·simp only[Instr.findAsking,Sem.run_bind,hrun',Result.andThen_ok,Bool.false_eq_true,if_false];exact h1
      ·obtain⟨h4,e',h5,h6,h7,h8,x,hx⟩:=h3 j v hj
       refine⟨by omega,e',?_,h6,h7,h8,x,?_⟩
       ·rw[show j-i=(j-(i+1))+1 from by omega];simpa using h5
       ·rw[show j-i=(j-(i+1))+1 from by omega];simpa using hx
     ·simp only[hc,Option.some.injEq] at h
      subst h
      have hb:=cmpL_true hc
      subst hb
      refine⟨some (i,e.val),?_,(fun h=>by cases h),fun j v hj=>?_⟩
      ·simp only[Instr.findAsking,Sem.run_bind,hrun',Result.andThen_ok,if_true,Sem.run_pure]
      ·simp only[Option.some.injEq,Prod.mk.injEq] at hj
       obtain⟨rfl,rfl⟩:=hj
       refine⟨Nat.le_refl _,e,by simp,rfl,?_,g2,_,by simp;rfl⟩
       rw[ek]
       congr 1
       exact Array.toList_inj.1 (allIt_val ha hy hx)
theorem findKey_run {kt:TypeId}{kn:Option Nat}(hk:keyN P kt=some kn) {key:RV}(hok:keyOk kn key=true) {q:Plan}{kv:Value}(hkv:key.rel w q.R kv) {m:List (RV × RV)}{l:List MapEntry}{r:Option (Nat × RV)}
 (hm:RV.relM w q.R m l) (h:findK key m 0=some r) :
 ∃ r', (Instr.findKey kt kv l).run P w = .ok r' w∧(r=none→r'=none) ∧
   ∀ j v,r=some (j,v)→∃ e,l[j]? = some e∧r'=some (j,e.val)∧e.key=kv∧v.rel w q.R e.val∧∃ x,m[j]? = some x:=by
 cases kn with
 | none =>
   obtain⟨kk,hkk⟩:=keyN_none hk
   cases key<;>simp only[keyOk,Bool.false_eq_true] at hok
   rename_i ka n
   simp only[RV.rel] at hkv
   subst hkv
   obtain⟨r',h1,h2,h3⟩:=findK_run (kk:=kk) hm h
   refine⟨r',run_findKey_now hkk h1,h2,fun j v hj=>?_⟩
   obtain⟨_,e,h4,h5,h6,h7,h8⟩:=h3 j v hj
   exact⟨e,by simpa using h4,h5,h6,h7,by simpa using h8⟩
 | some n =>
   have ht:=keyN_some hk
   cases key<;>simp only[keyOk,Bool.false_eq_true,Bool.and_eq_true,decide_eq_true_eq] at hok
   rename_i as
   simp only[RV.rel] at hkv
   obtain⟨xs,rfl,_,hx⟩:=hkv
   obtain⟨r',h1,h2,h3⟩:=findAsking_run ht hok.1 hx hok.2 hm h
   have hd:∃ d,P.underlying kt=some d∧∀ a b,Instr.sameNow d (.agg a) b=none:=by
    unfold eqT at ht
    split at ht
    ·rename_i fs hu;exact⟨_,hu,fun _ _=>rfl⟩
    ·rename_i m' e' hu;exact⟨_,hu,fun _ _=>rfl⟩
    ·cases ht
   obtain⟨d,hd,hs⟩:=hd
   refine⟨r',?_,h2,fun j v hj=>?_⟩
   ·cases l with
    | nil =>
      cases m with
      | nil=>simp only[findK,Option.some.injEq] at h;subst h;rw[h2 rfl];simp [Instr.findKey,run_underlying hd,Instr.findNow]
      | cons y m=>simp only[RV.relM] at hm;obtain⟨_,_,hh,_⟩:=hm;cases hh
    | cons e l=>simp only[Instr.findKey,Sem.run_bind,run_underlying hd,Result.andThen_ok,Instr.findNow,hs];exact h1
   ·obtain⟨_,e,h4,h5,h6,h7,h8⟩:=h3 j v hj
    exact⟨e,by simpa using h4,h5,h6,h7,by simpa using h8⟩
theorem run_checkKey {kt:TypeId}{kn:Option Nat}(hk:keyN P kt=some kn) {key:RV}(hok:keyOk kn key=true) {kv:Value}(hkv:key.rel w R kv) (e:Bool):(Instr.checkKey e 10000 kt kv).run P w = .ok () w:=by
 have hint:∀ (d:Nat) (k:TypeId) (kk:IntKind) (v:Value),P.underlying k=some (.int kk)→(∃ ka n,v = .int ka n)→(Instr.checkKey e (d+1) k v).run P w = .ok () w:=fun d k kk v hkk ⟨ka,n,hv⟩=>by
  subst hv;simp [Instr.checkKey,run_underlying hkk]
 cases kn with
 | none =>
   obtain⟨kk,hkk⟩:=keyN_none hk
   cases key<;>simp only[keyOk,Bool.false_eq_true] at hok
   simp only[RV.rel] at hkv
   exact hint 9999 kt kk kv hkk ⟨_,_,hkv⟩
 | some n =>
   have ht:=keyN_some hk
   cases key<;>simp only[keyOk,Bool.false_eq_true,Bool.and_eq_true,decide_eq_true_eq] at hok
   rename_i as
   simp only[RV.rel] at hkv
   obtain⟨xs,rfl,_,hx⟩:=hkv
   have hget:∀ i,i<n→∃ ka q,xs[i]? = some (.int ka q):=fun i hi=>by
    have hi2:i<as.length:=by omega
    obtain⟨u,hu,hr⟩:=RV.relV_get (i:=i) hx (List.getElem?_eq_getElem hi2)
    obtain⟨ka,q,e3⟩:=allIt_get hok.2 (List.getElem?_eq_getElem hi2)
    rw[e3] at hr
    simp only[RV.rel] at hr
    subst hr
    exact⟨ka,q,by simpa using hu⟩
   unfold eqT at ht
   split at ht
   ·rename_i fs hu
    split at ht
    ·rename_i hc
     injection ht with ht
     simp only[Bool.and_eq_true,List.all_eq_true,bne_iff_ne,ne_eq,beq_iff_eq,Bool.not_eq_true'] at hc
     obtain⟨⟨⟨h1,h2⟩,_⟩,_⟩:=hc
     have:∀ d:Nat,(Instr.checkKey e (d+2) kt (.agg xs)).run P w = .ok () w:=fun d=>by
      rw[show d+2=(d+1)+1 from rfl,Instr.checkKey]
      simp only[Sem.run_bind,run_underlying hu,Result.andThen_ok];rw[← Array.forIn_toList]
      have hoffs:∀ f∈fs.toList,f.offset<n:=fun f hf=>by
       have:f.offset∈fs.toList.map (·.offset):=List.mem_map.2 ⟨f,hf,rfl⟩
       rw[h2] at this
       have:=List.mem_range.1 this
       omega
      clear h2
      generalize fs.toList=L at h1 hoffs
      induction L with
      | nil=>simp
      | cons f L ih =>
        obtain⟨g1,g2⟩:=h1 f (by simp)
        split at g2
        ·rename_i k ek
         obtain⟨ka,q,hq⟩:=hget _ (hoffs f (by simp))
         simp only[List.forIn_cons,ne_eq,g1,not_false_eq_true,if_true,Sem.run_bind,run_part_int ek hq,Result.andThen_ok,hint d f.type k _ ek ⟨ka,q,rfl⟩,Sem.run_pure];exact ih (fun y hy=>h1 y (by simp [hy])) (fun y hy=>hoffs y (by simp [hy]))
        ·cases g2
     exact this 9998
    ·cases ht
   ·rename_i m' e' hu
    split at ht
    ·rename_i k he
     split at ht
     ·rename_i hc
      injection ht with ht
      simp only[Bool.and_eq_true,beq_iff_eq,Bool.not_eq_true',true_and] at hc
      obtain⟨⟨h2,h3⟩,_⟩:=hc
      obtain⟨i0,hi0⟩:=Option.isSome_iff_exists.1 h3
      have hsz:∀ w:World,(sizeOf e').run P w = .ok 1 w:=fun w=>by
       rw[← h2];exact run_sizeOf w hi0
      have:∀ d:Nat,(Instr.checkKey e (d+2) kt (.agg xs)).run P w = .ok () w:=fun d=>by
       rw[show d+2=(d+1)+1 from rfl,Instr.checkKey]
       simp only[Sem.run_bind,run_underlying hu,Result.andThen_ok];simp only[Std.Legacy.Range.forIn_eq_forIn_range',Std.Legacy.Range.size,Nat.sub_zero,Nat.add_one_sub_one,Nat.div_one]
       have hjs:∀ j∈List.range' 0 m',j<n:=fun j hj=>by
        have:=List.mem_range'_1.1 hj
        omega
       generalize List.range' 0 m'=is at hjs
       induction is with
       | nil=>simp
       | cons j is ih =>
         obtain⟨ka,q,hq⟩:=hget _ (hjs j (by simp))
         simp only[List.forIn_cons,Sem.run_bind,hsz,Result.andThen_ok,Nat.mul_one,run_part_int he hq,hint d e' k _ he ⟨ka,q,rfl⟩,Sem.run_pure];exact ih (fun y hy=>hjs y (by simp [hy]))
      exact this 9998
     ·cases ht
    ·simp at ht
   ·cases ht
theorem stays_key {kn:Option Nat}{key:RV}(hok:keyOk kn key=true) {kv:Value}(hkv:key.rel w R kv):(Instr.keyThatStays kv kv).run P w = .ok kv w:=by
 have:Instr.sameBits 10000 kv kv=true:=by
  cases kn<;>cases key<;>simp only[keyOk,Bool.false_eq_true,Bool.and_eq_true] at hok
  ·simp only[RV.rel] at hkv
   subst hkv
   have:∀ (d:Nat) ka n,Instr.sameBits (d+1) (.int ka n) (.int ka n)=true:=fun d ka n=>by simp [Instr.sameBits]
   exact this 9999 _ _
  ·simp only[RV.rel] at hkv
   obtain⟨xs,rfl,_,hx⟩:=hkv
   have:∀ d:Nat,Instr.sameBits (d+2) (.agg xs) (.agg xs)=true:=fun d=>by
    simp only[Instr.sameBits,beq_self_eq_true,Bool.true_and];exact allIt_stays d hok.2 hx
   exact this 9998
 simp [Instr.keyThatStays,this]
theorem good_makeMap {t:TypeId}(h:SR C p s a w) (ho:o.op = .makeMap t none) (hp:(sMakeMap P s (o.dst.getD 0) t).pre):Done P C o s a w (sMakeMap P s (o.dst.getD 0) t):=by
 unfold sMakeMap at hp ⊢
 split at hp
 ·have hn:=h.newRow (o.dst.getD 0) hp (.mp []) rfl 0 (Nat.zero_le _) (.map #[] 0) (fun p' ver' _ hβ _ hk=>by
   simp only[zrl];exact⟨_,hβ,#[],0,heap_alloc_new w _,by simp [RV.relM],by simp,by simp⟩)
  refine⟨_,.map (some w.heap.size),_,_,?_,.inl rfl,trivial,by rw[zro];exact hn,?_⟩
  ·simp [execOp,ho,Instr.makeMap]
  ·rw[zro]
   simp only[AV.rel,vers,zus];exact⟨Nat.le_refl _,fun _=>⟨_,rfl,rfl⟩⟩
 ·exact hp.elim
theorem zv_run {e:TypeId}{z:RV}(h:zv P e=some z):∃ v,(zeroValue e).run P w = .ok v w∧z.rel w R v:=by
 unfold zv at h
 cases hi:P.info? e with
 | none=>simp [hi] at h
 | some i =>
   cases hz:i.zero with
   | none=>simp [hi,hz] at h
   | some v =>
     simp only[hi,Option.bind_some,hz,Option.map_some,Option.some.injEq] at h
     subst h
     exact⟨v,by simp [zeroValue,typeInfo,hi,hz],RV.rel_ofV w R v⟩
theorem good_lookup {t:TypeId}{x i:Operand}{ok:Bool}(h:SR C p s a w) (ho:o.op = .lookup t x i ok) (hp:(sLookup P s t (s.ev x) (s.ev i) ok).pre):Done P C o s a w (sLookup P s t (s.ev x) (s.ev i) ok):=by
 unfold sLookup at hp ⊢
 split at hp
 ·rename_i kt e kn k n key e1 e2 e3
  obtain⟨hu,hkn⟩:=mapT_spec e1
  split at hp
  ·rename_i m z e4 e5
   have hx:=h.ev x
   rw[e2] at hx
   simp only[AV.rel] at hx
   have hi:=valR_rel e3 (h.ev i)
   have fin:∀ {r:Option (Nat × RV)},findK key m 0=some r→n=(s.rows k).ver→keyOk kn key=true →
    ∃ v b,(Instr.lookup t (a.eval x) (a.eval i) ok).run P w = .ok (if ok then .tuple #[v,.bool b] else v) w∧(r=none→z.rel w p.R v∧b=false)∧∀ j u,r=some (j,u)→u.rel w p.R v∧b=true:=fun {r} hf hn hit=>by
    have hck:=run_checkKey (P:=P) hkn hit hi
    obtain⟨b,hβ,hv⟩:=hx.2 hn
    obtain⟨b',hβ',es,cl,hh,hM,_⟩:=mapOf_row h e4
    rw[hβ] at hβ'
    injection hβ' with hβ'
    subst hβ'
    obtain⟨r',hk2,hf2,hf3⟩:=findKey_run (P:=P) hkn hit hi hM hf
    cases r with
    | none =>
      obtain rfl:=hf2 rfl
      obtain⟨v,hz,hzr⟩:=zv_run (w:=w) (R:=p.R) e5
      refine⟨v,false,?_,fun _=>⟨hzr,rfl⟩,fun j u h=>by cases h⟩
      simp only[Instr.lookup,Sem.run_bind,run_underlying hu,Result.andThen_ok,hv,run_getMap hh,hck,hk2,hz,Sem.run_pure]
    | some y =>
      obtain⟨j,u⟩:=y
      obtain⟨e',_,rfl,_,hrel,_⟩:=hf3 j u rfl
      refine⟨e'.val,true,?_,(fun h=>by cases h),fun j' u' h=>by
       simp only[Option.some.injEq,Prod.mk.injEq] at h
       rw[← h.2];exact⟨hrel,rfl⟩⟩
      simp only[Instr.lookup,Sem.run_bind,run_underlying hu,Result.andThen_ok,hv,run_getMap hh,hck,hk2,Sem.run_pure]
   have rel2:∀ {y:RV}{v:Value}{b:Bool},y.rel w p.R v→(if ok then AV.r (.tu [y,.bo b]) else AV.r y).rel w p s.ver (if ok then .tuple #[v,.bool b] else v):=fun {y v b} hy=>by
    cases ok
    ·simpa [AV.rel] using hy
    ·simp only[if_true,AV.rel,RV.rel,RV.relV];exact⟨_,rfl,v,_,rfl,hy,_,_,rfl,rfl,rfl⟩
   split at hp
   ·rename_i j v e6
    obtain⟨u,b,hrun,_,h2⟩:=fin e6 hp.1 hp.2
    obtain⟨h3,rfl⟩:=h2 j v rfl
    exact done_when h (v:=if ok then .tuple #[u,.bool true] else u) (by simp only[execOp,ho,Sem.run_bind,hrun,Result.andThen_ok,Sem.run_pure]) (rel2 h3)
   ·rename_i e6
    obtain⟨u,b,hrun,h2,_⟩:=fin e6 hp.1 hp.2
    obtain⟨h3,rfl⟩:=h2 rfl
    exact done_when h (v:=if ok then .tuple #[u,.bool false] else u) (by simp only[execOp,ho,Sem.run_bind,hrun,Result.andThen_ok,Sem.run_pure]) (rel2 h3)
   ·exact hp.elim
  ·exact hp.elim
 ·exact hp.elim
theorem born_set {l:List MapEntry}{i:Nat}{e e':MapEntry}(h:l[i]? = some e) (hb:e'.born=e.born):(l.set i e').map (·.born)=l.map (·.born):=by
 apply List.ext_getElem?
 intro j
 rw[List.getElem?_map,List.getElem?_map,List.getElem?_set]
 split
 ·rename_i e1
  subst e1
  rw[h]
  split
  ·simp [hb]
  ·rename_i h2;exact absurd (List.getElem?_eq_some_iff.1 h).1 h2
 ·rfl
theorem pairwise_born {l l':List MapEntry}(h:l'.map (·.born)=l.map (·.born)) (hp:l.Pairwise (fun x y=>x.born≠y.born)):l'.Pairwise (fun x y=>x.born≠y.born):=by
 have h1:(l.map (·.born)).Pairwise (· ≠ ·):=List.pairwise_map.2 hp
 rw[← h] at h1
 exact List.pairwise_map.1 h1
theorem lt_born {l l':List MapEntry}{cl:Nat}(h:l'.map (·.born)=l.map (·.born)) (hp:∀ e∈l,e.born<cl):∀ e∈l',e.born<cl:=fun e he=>by
 have:e.born∈l'.map (·.born):=List.mem_map.2 ⟨e,he,rfl⟩
 rw[h] at this
 obtain⟨e2,h2,h3⟩:=List.mem_map.1 this
 rw[← h3];exact hp e2 h2
theorem good_mapUpdate {t:TypeId}{x i y:Operand}(h:SR C p s a w) (ho:o.op = .mapUpdate t x i y) (hp:(sMapUpdate P s t (s.ev x) (s.ev i) (s.ev y)).pre):Done P C o s a w (sMapUpdate P s t (s.ev x) (s.ev i) (s.ev y)):=by
 unfold sMapUpdate at hp ⊢
 split at hp
 ·rename_i kt et kn k n key v e1 e2 e3 e4
  obtain⟨hu,hkn⟩:=mapT_spec e1
  split at hp
  ·rename_i n' m e5
   have hx:=h.ev x
   rw[e2] at hx
   simp only[AV.rel] at hx
   have hi:=valR_rel e3 (h.ev i)
   have hy:=valR_rel e4 (h.ev y)
   have hn2:n'=(s.rows k).ver:=by rw[e5]
   have hrow:=h.rw k
   rw[e5] at hrow
   simp only[zrl] at hrow
   obtain⟨b,hβ,es,cl,hh,hM,hlt,hpw⟩:=hrow
   have hbs:b<w.heap.size:=(h.bl k b hβ).1
   have fin:∀ {es':Array MapEntry}{cl':Nat}{m':List (RV × RV)},(Instr.mapUpdate t (a.eval x) (a.eval i) (a.eval y)).run P w = .ok () (setBlock w b (.map es' cl')) →
    (∀ w2:World,(∀ ad:Addr,p.R ad.block→w2.cell? ad=w.cell? ad)→RV.relM w2 p.R m' es'.toList)→(∀ e∈es'.toList,e.born<cl')→es'.toList.Pairwise (fun x y=>x.born≠y.born) →
    Done P C o s a w ⟨n=n'∧keyOk kn key=true,True,⟨.r .ud,[(k,⟨n',.mp m'⟩)]⟩⟩:=fun {es' cl' m'} hrun hM' hlt' hpw'=>by
    have hset:=h.setRow (w':=setBlock w b (.map es' cl')) k (.mp m') (by rw[e5];rfl) (fun _ _ _ _ h=>by cases h) hβ rfl rfl rfl (setBlock_size _) (fun i hi=>setBlock_other hi _) (fun hk=>by
     simp only[zrl];exact⟨b,hβ,es',cl',setBlock_same hbs _,hM' _ hk.cell,hlt',hpw'⟩)
    refine⟨.skip,undef,setBlock w b (.map es' cl'),p,?_,.inr ⟨rfl,rfl⟩,trivial,?_,?_⟩
    ·simp only[execOp,ho,Sem.run_bind,hrun,Result.andThen_ok,Sem.run_pure]
    ·rw[zro,hn2];exact hset
    ·simp only[AV.rel,RV.rel]
   have hR0:∀ b,p.R b→p.R b:=fun _ h=>h
   have keyrel:∀ (w2:World),(∀ ad:Addr,p.R ad.block→w2.cell? ad=w.cell? ad)→key.rel w2 p.R (a.eval i):=fun w2 hw=>RV.rel_mono hR0 hw _ _ hi
   split at hp
   ·rename_i j u e6
    obtain⟨hn,hit⟩:n=n'∧keyOk kn key=true:=hp
    have hck:=run_checkKey (P:=P) hkn hit hi false
    obtain⟨b2,hβ2,hv⟩:=hx.2 (by rw[hn,hn2];rfl)
    rw[hβ] at hβ2
    injection hβ2 with hβ2
    subst hβ2
    obtain⟨r',hk2,_,hf3⟩:=findKey_run (P:=P) hkn hit hi hM e6
    obtain⟨e',he',rfl,hkey,_,_⟩:=hf3 j u rfl
    have heq:es[j]? = some e':=by simpa using he'
    have hjlt:j<es.size:=(Array.getElem?_eq_some_iff.1 heq).1
    have hmod:(es.modify j fun e=>{ e with key:=a.eval i,val:=a.eval y }).toList=es.toList.set j { e' with key:=a.eval i,val:=a.eval y }:=by
     apply List.ext_getElem?
     intro z
     rw[Array.getElem?_toList,Array.getElem?_modify,List.getElem?_set]
     split
     ·rename_i e7;subst e7
      rw[heq]
      simp [hjlt]
     ·simp
    have hb':=born_set (e':={ e' with key:=a.eval i,val:=a.eval y }) he' rfl
    refine fin (es':=es.modify j fun e=>{ e with key:=a.eval i,val:=a.eval y }) (cl':=cl) ?_ (fun w2 hw=>?_) (fun e he=>?_) ?_
    ·simp only[Instr.mapUpdate,Sem.run_bind,run_underlying hu,Result.andThen_ok,hv,run_getMap hh,hck,hk2,heq,Option.map_some,Option.getD_some,hkey,stays_key (P:=P) hit hi,run_setMap hh]
    ·rw[hmod]
     exact relM_set (x:=(key,v)) (keyrel _ hw) (RV.rel_mono hR0 hw _ _ hy) (RV.relM_mono hR0 hw _ _ hM)
    ·rw[hmod] at he
     exact lt_born hb' hlt e he
    ·rw[hmod]
     exact pairwise_born hb' hpw
   ·rename_i e6
    obtain⟨hn,hit⟩:n=n'∧keyOk kn key=true:=hp
    have hck:=run_checkKey (P:=P) hkn hit hi false
    obtain⟨b2,hβ2,hv⟩:=hx.2 (by rw[hn,hn2];rfl)
    rw[hβ] at hβ2
    injection hβ2 with hβ2
    subst hβ2
    obtain⟨r',hk2,hf2,_⟩:=findKey_run (P:=P) hkn hit hi hM e6
    obtain rfl:=hf2 rfl
    refine fin (es':=es.push { key:=a.eval i,val:=a.eval y,born:=cl }) (cl':=cl+1) ?_ (fun w2 hw=>?_) (fun e he=>?_) ?_
    ·simp only[Instr.mapUpdate,Sem.run_bind,run_underlying hu,Result.andThen_ok,hv,run_getMap hh,hck,hk2,run_setMap hh]
    ·rw[Array.toList_push]
     exact relM_snoc (x:=(key,v)) (keyrel _ hw) (RV.rel_mono hR0 hw _ _ hy) (RV.relM_mono hR0 hw _ _ hM)
    ·rw[Array.toList_push] at he
     rcases List.mem_append.1 he with he|he
     ·have:=hlt e he;omega
     ·simp at he;subst he;simp
    ·rw[Array.toList_push]
     refine List.pairwise_append.2 ⟨hpw,by simp,fun x hx y hy=>?_⟩
     simp at hy;subst hy
     have:=hlt x hx
     simp only;omega
   ·exact hp.elim
  ·exact hp.elim
 ·exact hp.elim
theorem good_mapEntry {t:TypeId}{x i:Operand}(h:SR C p s a w) (ho:o.op = .mapEntry t x i) (hp:(sMapEntry P s t (s.ev x) (s.ev i)).pre):Done P C o s a w (sMapEntry P s t (s.ev x) (s.ev i)):=by
 unfold sMapEntry at hp ⊢
 split at hp
 ·rename_i kt et kn k n key e1 e2 e3
  obtain⟨hu,hkn⟩:=mapT_spec e1
  split at hp
  ·rename_i n' m bs cl z e5 ez
   have hx:=h.ev x
   rw[e2] at hx
   simp only[AV.rel] at hx
   have hi:=valR_rel e3 (h.ev i)
   have hn2:n'=(s.rows k).ver:=by rw[e5]
   have hrow:=h.rw k
   rw[e5] at hrow
   simp only[zrl] at hrow
   obtain⟨b,es,hβ,hh,hM,hbs,hlt,hpw⟩:=hrow
   have hbs2:b<w.heap.size:=(h.bl k b hβ).1
   have fin:∀ {es':Array MapEntry}{cl':Nat}{m':List (RV × RV)}{bs':List Nat}{r:RV}{v:Value},(Instr.mapEntry t (a.eval x) (a.eval i)).run P w = .ok v (setBlock w b (.map es' cl')) →
    (∀ w2:World,(∀ ad:Addr,p.R ad.block→w2.cell? ad=w.cell? ad)→RV.relM w2 p.R m' es'.toList)→es'.toList.map (·.born)=bs'→(∀ e∈es'.toList,e.born<cl')→es'.toList.Pairwise (fun x y=>x.born≠y.born) →
    (∀ w2:World,(∀ ad:Addr,p.R ad.block→w2.cell? ad=w.cell? ad)→r.rel w2 p.R v) →
    Done P C o s a w ⟨n=n'∧keyOk kn key=true,True,⟨.r r,[(k,⟨n',.mpx m' bs' cl'⟩)]⟩⟩:=fun {es' cl' m' bs' r v} hrun hM' hb' hlt' hpw' hr=>by
    have hset:=h.setRow (w':=setBlock w b (.map es' cl')) k (.mpx m' bs' cl') (by rw[e5];rfl) (fun _ _ _ _ h=>by cases h) hβ rfl rfl rfl (setBlock_size _) (fun i hi=>setBlock_other hi _) (fun hk=>by
     simp only[zrl];exact⟨b,es',hβ,setBlock_same hbs2 _,hM' _ hk.cell,hb',hlt',hpw'⟩)
    refine⟨.value v,v,setBlock w b (.map es' cl'),p,?_,.inl rfl,trivial,?_,?_⟩
    ·simp only[execOp,ho,Sem.run_bind,hrun,Result.andThen_ok,Sem.run_pure]
    ·rw[zro,hn2];exact hset
    ·simp only[AV.rel];exact hr _ (fun ad hR=>World.cell?_of_block (setBlock_other (fun (e:ad.block=b)=>(h.bl k b hβ).2.1 (e▸hR)) _))
   have hR0:∀ b,p.R b→p.R b:=fun _ h=>h
   split at hp
   ·rename_i j u e6
    obtain⟨hn,hit⟩:n=n'∧keyOk kn key=true:=hp
    have hck:=run_checkKey (P:=P) hkn hit hi false
    obtain⟨b2,hβ2,hv⟩:=hx.2 (by rw[hn,hn2];rfl)
    rw[hβ] at hβ2
    injection hβ2 with hβ2
    subst hβ2
    obtain⟨r',hk2,_,hf3⟩:=findKey_run (P:=P) hkn hit hi hM e6
    obtain⟨e',he',rfl,hkey,hur,_⟩:=hf3 j u rfl
    have heq:es[j]? = some e':=by simpa using he'
    have hjlt:j<es.size:=(Array.getElem?_eq_some_iff.1 heq).1
    have hmod:(es.modify j fun e=>{ e with key:=a.eval i }).toList=es.toList:=by
     apply List.ext_getElem?
     intro z
     rw[Array.getElem?_toList,Array.getElem?_modify,Array.getElem?_toList]
     split
     ·rename_i e7;subst e7
      rw[heq,← hkey];rfl
     ·rfl
    have hbj:bs.getD j 0=e'.born:=by
     rw[← hbs,List.getD_eq_getElem?_getD,List.getElem?_map,he'];rfl
    refine fin (es':=es.modify j fun e=>{ e with key:=a.eval i }) (cl':=cl) (v:=.tuple #[e'.val,goInt (e'.born:Int)]) ?_ (fun w2 hw=>?_) ?_ (fun e he=>?_) ?_ (fun w2 hw=>?_)
    ·simp only[Instr.mapEntry,Sem.run_bind,run_underlying hu,Result.andThen_ok,hv,run_getMap hh,hck,hk2,heq,Option.map_some,Option.getD_some,hkey,stays_key (P:=P) hit hi,run_setMap hh,Sem.run_pure]
    ·rw[hmod];exact RV.relM_mono hR0 hw _ _ hM
    ·rw[hmod];exact hbs
    ·rw[hmod] at he;exact hlt e he
    ·rw[hmod];exact hpw
    ·simp only[RV.rel,RV.relV,hbj];exact⟨_,rfl,_,_,rfl,RV.rel_mono hR0 hw _ _ hur,_,_,rfl,rfl,rfl⟩
   ·rename_i e6
    obtain⟨hn,hit⟩:n=n'∧keyOk kn key=true:=hp
    have hck:=run_checkKey (P:=P) hkn hit hi false
    obtain⟨b2,hβ2,hv⟩:=hx.2 (by rw[hn,hn2];rfl)
    rw[hβ] at hβ2
    injection hβ2 with hβ2
    subst hβ2
    obtain⟨r',hk2,hf2,_⟩:=findKey_run (P:=P) hkn hit hi hM e6
    obtain rfl:=hf2 rfl
    obtain⟨zv0,hz,hzr⟩:=zv_run (w:=w) (R:=p.R) ez
    refine fin (es':=es.push { key:=a.eval i,val:=zv0,born:=cl }) (cl':=cl+1) (v:=.tuple #[zv0,goInt (cl:Int)]) ?_ (fun w2 hw=>?_) ?_ (fun e he=>?_) ?_ (fun w2 hw=>?_)
    ·simp only[Instr.mapEntry,Sem.run_bind,run_underlying hu,Result.andThen_ok,hv,run_getMap hh,hck,hk2,hz,run_setMap hh,Sem.run_pure]
    ·rw[Array.toList_push]
     exact relM_snoc (x:=(key,z)) (RV.rel_mono hR0 hw _ _ hi) (RV.rel_mono hR0 hw _ _ hzr) (RV.relM_mono hR0 hw _ _ hM)
    ·rw[Array.toList_push,List.map_append,hbs];rfl
    ·rw[Array.toList_push] at he
     rcases List.mem_append.1 he with he|he
     ·have:=hlt e he;omega
     ·simp at he;subst he;simp
    ·rw[Array.toList_push]
     refine List.pairwise_append.2 ⟨hpw,by simp,fun x hx y hy=>?_⟩
     simp at hy;subst hy
     have:=hlt x hx
     simp only;omega
    ·simp only[RV.rel,RV.relV];exact⟨_,rfl,_,_,rfl,RV.rel_mono hR0 hw _ _ hzr,_,_,rfl,rfl,rfl⟩
   ·exact hp.elim
  ·exact hp.elim
 ·exact hp.elim
theorem bornAt_spec {R:Nat→Prop}{σ:Int}{v:RV}{u:Value}:∀ {bs:List Nat}{m m':List (RV × RV)}{l:List MapEntry},bornAt σ bs m v=some m'→RV.relM w R m l→l.map (·.born)=bs →
 ∃ j e,l.findIdx? (fun e=>(e.born:Int) == σ)=some j∧l[j]? = some e∧∀ w2:World,RV.relM w2 R m l→v.rel w2 R u→RV.relM w2 R m' (l.set j { e with val:=u })
 | [],_,_,_,h,_,_=>by simp [bornAt] at h
 | b::bs,[],_,_,h,_,_=>by simp [bornAt] at h
 | b::bs, x::m, m', l, h, hm, hb=>by
   simp only[RV.relM] at hm
   obtain⟨e,es,rfl,_,_,h3⟩:=hm
   simp only[List.map_cons,List.cons.injEq] at hb
   obtain⟨hb1,hb2⟩:=hb
   simp only[bornAt] at h
   by_cases hσ:(b:Int)=σ
   ·rw[if_pos hσ] at h
    injection h with h;subst h
    refine⟨0,e,by simp [List.findIdx?_cons,hb1,hσ],rfl,fun w2 hm2 hv=>?_⟩
    simp only[RV.relM] at hm2
    obtain⟨e0,es0,e1,g1,g2,g3⟩:=hm2
    injection e1 with e1 e2;subst e1 e2
    simp only[List.set_cons_zero,RV.relM];exact⟨_,_,rfl,g1,hv,g3⟩
   ·rw[if_neg hσ] at h
    split at h
    ·rename_i m1 h1
     injection h with h;subst h
     obtain⟨j,e',f1,f2,f3⟩:=bornAt_spec h1 h3 hb2
     refine⟨j+1,e',by simp [List.findIdx?_cons,hb1,hσ,f1],by simpa using f2,fun w2 hm2 hv=>?_⟩
     simp only[RV.relM] at hm2
     obtain⟨e0,es0,e1,g1,g2,g3⟩:=hm2
     injection e1 with e1 e2;subst e1 e2
     simp only[List.set_cons_succ,RV.relM];exact⟨_,_,rfl,g1,g2,f3 w2 g3 hv⟩
    ·cases h
theorem good_entryStore {t:TypeId}{x i y:Operand}(h:SR C p s a w) (ho:o.op = .entryStore t x i y) (hp:(sEntryStore s (s.ev x) (s.ev i) (s.ev y)).pre):Done P C o s a w (sEntryStore s (s.ev x) (s.ev i) (s.ev y)):=by
 unfold sEntryStore at hp ⊢
 split at hp
 ·rename_i k n σ v e2 e3 e4
  split at hp
  ·rename_i n' m bs cl e5
   split at hp
   ·rename_i m' e6
    have hn:n=n':=hp
    have hx:=h.ev x
    rw[e2] at hx
    simp only[AV.rel] at hx
    have hi:=ev_it h e3
    have hy:=valR_rel e4 (h.ev y)
    have hn2:n'=(s.rows k).ver:=by rw[e5]
    have hrow:=h.rw k
    rw[e5] at hrow
    simp only[zrl] at hrow
    obtain⟨b,es,hβ,hh,hM,hbs,hlt,hpw⟩:=hrow
    have hbs2:b<w.heap.size:=(h.bl k b hβ).1
    obtain⟨b2,hβ2,hv⟩:=hx.2 (by rw[hn,hn2];rfl)
    rw[hβ] at hβ2
    injection hβ2 with hβ2
    subst hβ2
    have hR0:∀ b,p.R b→p.R b:=fun _ h=>h
    obtain⟨j,e',f1,f2,f3⟩:=bornAt_spec (u:=a.eval y) e6 hM hbs
    have f1':es.findIdx? (fun e=>(e.born:Int) == σ)=some j:=by rw[show es.findIdx? (fun e=>(e.born:Int) == σ)=es.toList.findIdx? (fun e=>(e.born:Int) == σ) by cases es;simp];exact f1
    have heq:es[j]? = some e':=by simpa using f2
    have hjlt:j<es.size:=(Array.getElem?_eq_some_iff.1 heq).1
    have hmod:(es.modify j fun e=>{ e with val:=a.eval y }).toList=es.toList.set j { e' with val:=a.eval y }:=by
     apply List.ext_getElem?
     intro z
     rw[Array.getElem?_toList,Array.getElem?_modify,List.getElem?_set]
     split
     ·rename_i e7;subst e7
      rw[heq]
      simp [hjlt]
     ·simp
    have hb':=born_set (e':={ e' with val:=a.eval y }) f2 rfl
    have hrun:(Instr.entryStore t (a.eval x) (a.eval i) (a.eval y)).run P w = .ok () (setBlock w b (.map (es.modify j fun e=>{ e with val:=a.eval y }) cl)):=by
     simp only[Instr.entryStore,hv,hi,Sem.run_bind,run_getMap hh,Result.andThen_ok,asInt,asIntOf,Sem.run_pure,f1',run_setMap hh]
    have hset:=h.setRow (w':=setBlock w b (.map (es.modify j fun e=>{ e with val:=a.eval y }) cl)) k (.mpx m' bs cl) (by rw[e5];rfl) (fun _ _ _ _ h=>by cases h) hβ rfl rfl rfl (setBlock_size _) (fun i hi=>setBlock_other hi _) (fun hk=>by
     simp only[zrl]
     refine⟨b,_,hβ,setBlock_same hbs2 _,?_,?_,fun e he=>?_,?_⟩
     ·rw[hmod];exact f3 _ (RV.relM_mono hR0 hk.cell _ _ hM) (RV.rel_mono hR0 hk.cell _ _ hy)
     ·rw[hmod,hb',hbs]
     ·rw[hmod] at he;exact lt_born hb' hlt e he
     ·rw[hmod];exact pairwise_born hb' hpw)
    refine⟨.skip,undef,setBlock w b (.map (es.modify j fun e=>{ e with val:=a.eval y }) cl),p,?_,.inr ⟨rfl,rfl⟩,trivial,?_,?_⟩
    ·simp only[execOp,ho,Sem.run_bind,hrun,Result.andThen_ok,Sem.run_pure]
    ·rw[zro,hn2];exact hset
    ·simp only[AV.rel,RV.rel]
   ·exact hp.elim
  ·exact hp.elim
 ·exact hp.elim
theorem newRow_mi (h:SR C p s a w) (d:Nat) (hd:d<1000) (k:Nat) (hkd:k≠d) (m:List (RV × RV)) {b:Nat}(hβ:p.β k=some b) (ob:Obj) (hl:(s.rows k).c.isMpi=true)
 (hi:iterRel (w.alloc ob) p.R w.heap.size b m none) :
 SR C { p with β:=upd p.β d (some w.heap.size),γ:=upd p.γ d 0 } { s with rows:=upd s.rows d ⟨(s.rows d).ver+1,.mi k (s.rows k).ver m none⟩ } a (w.alloc ob):=by
 have h1:=h.newRow d hd (.mpi []) rfl 0 (Nat.zero_le _) ob
 have hver:∀ c j,(upd s.rows d ⟨(s.rows d).ver+1,c⟩ j).ver=if j=d then s.ver d+1 else s.ver j:=fun c j=>by
  unfold upd;split<;>rfl
 have hk:Kept w (w.alloc ob) p { p with β:=upd p.β d (some w.heap.size),γ:=upd p.γ d 0 } s.ver (AS.ver { s with rows:=upd s.rows d ⟨(s.rows d).ver+1,.mi k (s.rows k).ver m none⟩ }):=by
  refine⟨fun _ h=>h,fun ad hr=>World.cell?_alloc_lt w ob ad (h.rb _ hr),fun j=>?_,fun j hj=>?_⟩
  ·show s.ver j≤(upd s.rows d _ j).ver
   rw[hver];split
   ·rename_i e;subst e;omega
   ·exact Nat.le_refl _
  ·have hj':(upd s.rows d ⟨(s.rows d).ver+1,.mi k (s.rows k).ver m none⟩ j).ver=s.ver j:=hj
   rw[hver] at hj'
   split at hj'
   ·rename_i e;subst e;omega
   ·rename_i e;exact⟨zuo _ _ e,zuo _ _ e⟩
 exact {
  base:=h.base.alloc ob
  r0:=h.r0
  rn:=h.rn
  rb:=fun b hr=>by have:=h.rb b hr;simp;omega
  tm:=fun t=>AV.rel_mono hk _ _ (h.tm t)
  sz:=h.sz
  ex:=h.ex.mono rfl rfl rfl (by simp) (fun j b hβ=>by
   by_cases e:j=d
   ·subst e
    simp only[zus] at hβ
    injection hβ with hβ
    exact .inr (by omega)
   ·simp only[zuo _ _ e] at hβ
    exact .inl ⟨j,hβ⟩) (fun b hr=>.inl hr) fun b hl _=>Below.heap_alloc w ob b hl
  rw:=fun j=>by
   by_cases e:j=d
   ·subst e
    show zrl _ _ _ j (upd s.rows j ⟨(s.rows j).ver+1,.mi k (s.rows k).ver m none⟩ j).c
    rw[zus]
    simp only[zrl]
    refine⟨w.heap.size,zus _ _ _,?_,fun _=>⟨b,(zuo _ _ hkd).trans hβ,hi⟩⟩
    show (s.rows k).ver≤(upd s.rows j _ k).ver
    rw[zuo _ _ hkd]
    exact Nat.le_refl _
   ·show zrl _ _ _ j (upd s.rows d ⟨(s.rows d).ver+1,.mi k (s.rows k).ver m none⟩ j).c
    rw[zuo _ _ e]
    exact rowRel_mono hk (.inr <| h.ex.kept rfl rfl rfl rfl rfl rfl (by simp) fun b hl _=>Below.heap_alloc w ob b hl) (zuo _ _ e) (zuo _ _ e) (fun b hβ=>Below.heap_alloc w ob b (h.bl j b hβ).1) _ (fun km _ _ _ _ _ b hβ=>Below.heap_alloc w ob b (h.bl km b hβ).1) (h.rw j)
  bl:=fun j b hβ=>by
   by_cases e:j=d
   ·subst e
    simp only[zus] at hβ
    injection hβ with hβ
    subst hβ
    exact⟨by simp,fun hr=>by have:=h.rb _ hr;omega,.inl h.base.size⟩
   ·simp only[zuo _ _ e] at hβ
    obtain⟨h1,h2,h3⟩:=h.bl j b hβ
    exact⟨by simp;omega,h2,h3⟩
  ij:=fun j j' b hj hj'=>by
   by_cases e:j=d<;>by_cases e':j'=d
   ·rw[e,e']
   ·subst e
    simp only[zus,zuo _ _ e'] at hj hj'
    injection hj with hj
    have:=(h.bl j' b hj').1;omega
   ·subst e'
    simp only[zus,zuo _ _ e] at hj hj'
    injection hj' with hj'
    have:=(h.bl j b hj).1;omega
   ·simp only[zuo _ _ e,zuo _ _ e'] at hj hj'
    exact h.ij j j' b hj hj'
  cap:=fun j=>by
   show upd p.γ d 0 j≤maxLen
   unfold upd;split
   ·exact Nat.zero_le _
   ·exact h.cap j
  pn:=fun j x hx=>by
   obtain⟨h1,h2,h3,h4⟩:=h.pn j x hx
   have e:j≠d:=by omega
   exact⟨(zuo _ _ e).trans h1,(zuo _ _ e).trans h2,by show (upd s.rows d _ j).ver=0;rw[zuo _ _ e];exact h3,h4⟩
  lk:=fun j km n l cur hj hn=>by
   show (upd s.rows d ⟨(s.rows d).ver+1,.mi k (s.rows k).ver m none⟩ km).c.isMpi=true
   have hj':(upd s.rows d ⟨(s.rows d).ver+1,.mi k (s.rows k).ver m none⟩ j).c = .mi km n l cur:=hj
   have hn':n=(upd s.rows d ⟨(s.rows d).ver+1,.mi k (s.rows k).ver m none⟩ km).ver:=hn
   by_cases e:j=d
   ·subst e
    rw[zus] at hj'
    injection hj' with g1 g2 g3 g4
    subst g1
    rw[zuo _ _ hkd]
    exact hl
   ·rw[zuo _ _ e] at hj'
    have hr:=h.rw j
    rw[hj'] at hr
    simp only[zrl] at hr
    obtain⟨r,_,hle,_⟩:=hr
    by_cases e2:km=d
    ·subst e2
     rw[zus] at hn'
     have:n≤(s.rows km).ver:=hle
     have:n=(s.rows km).ver+1:=hn'
     omega
    ·rw[zuo _ _ e2] at hn' ⊢
     exact h.lk j km n l cur hj' hn' }
theorem good_range {t:TypeId}{x:Operand}(h:SR C p s a w) (ho:o.op = .range t x) (hp:(sRange P s (o.dst.getD 0) t (s.ev x)).pre):Done P C o s a w (sRange P s (o.dst.getD 0) t (s.ev x)):=by
 unfold sRange at hp ⊢
 split at hp
 ·rename_i ke k n e1 e2
  obtain⟨kt,et,kn⟩:=ke
  obtain⟨hu,_⟩:=mapT_spec e1
  split at hp
  ·rename_i n' m e5
   obtain⟨hn,hd0,hdk⟩:n=n'∧o.dst.getD 0<1000∧o.dst.getD 0≠k:=hp
   have hx:=h.ev x
   rw[e2] at hx
   simp only[AV.rel] at hx
   have hn2:n'=(s.rows k).ver:=by rw[e5]
   have hrow:=h.rw k
   rw[e5] at hrow
   simp only[zrl] at hrow
   obtain⟨b,hβ,hmap⟩:=hrow
   obtain⟨b2,hβ2,hv⟩:=hx.2 (by rw[hn,hn2];rfl)
   rw[hβ] at hβ2
   injection hβ2 with hβ2
   subst hβ2
   have hset:=h.setRow (w':=w) k (.mpi m) (by rw[e5];rfl) (fun _ _ _ _ h=>by cases h) hβ rfl rfl rfl rfl (fun i _=>rfl) (fun _=>by simp only[zrl];exact⟨b,hβ,hmap⟩)
   have hv1:∀ j,(upd s.rows k ⟨(s.rows k).ver,.mpi m⟩ j).ver=(s.rows j).ver:=fun j=>by
    unfold upd;split
    ·rename_i e;subst e;rfl
    ·rfl
   obtain⟨es,cl,hh,hM,hlt,hpw⟩:=hmap
   have hd:=hset
   have hkv:k≠o.dst.getD 0:=Ne.symm hdk
   have key:=newRow_mi hd (o.dst.getD 0) hd0 k hkv m hβ (.mapIter (some b) cl #[] cl) (by show (upd s.rows k ⟨(s.rows k).ver,.mpi m⟩ k).c.isMpi=true;rw[zus];rfl) (by
    refine⟨es,cl,cl,#[],cl,heap_alloc_new w _,(Below.heap_alloc w _ b (h.bl k b hβ).1).trans hh,?_,hlt,hpw,⟨Nat.le_refl _,Nat.le_refl _⟩,fun x hx=>by cases hx⟩
    have:es.toList.filter (fun e=>!(#[]:Array Nat).contains e.born)=es.toList:=by simp
    rw[this]
    exact RV.relM_mono (fun _ h=>h) (fun ad hr=>World.cell?_alloc_lt w _ ad (h.rb _ hr)) _ _ hM)
   have hd1:(upd s.rows k ⟨(s.rows k).ver,.mpi m⟩ (o.dst.getD 0)).ver=(s.rows (o.dst.getD 0)).ver:=hv1 _
   have hd2:(upd s.rows k ⟨(s.rows k).ver,.mpi m⟩ k).ver=(s.rows k).ver:=hv1 k
   simp only[hd1,hd2] at key
   subst hn2
   refine⟨.value (.pointer (some ⟨w.heap.size,0,none⟩)),.pointer (some ⟨w.heap.size,0,none⟩),w.alloc (.mapIter (some b) cl #[] cl),
    { p with β:=upd p.β (o.dst.getD 0) (some w.heap.size),γ:=upd p.γ (o.dst.getD 0) 0 },?_,.inl rfl,trivial,key,?_⟩
   ·simp only[execOp,ho,Sem.run_bind,hv,Instr.range,run_underlying hu,Result.andThen_ok,run_getMap hh,Sem.run_pure]
    rfl
   ·simp only[AV.rel]
    have e8:vers ((Yi.mk (.mi (o.dst.getD 0) ((s.rows (o.dst.getD 0)).ver+1)) [(k,⟨(s.rows k).ver,.mpi m⟩),(o.dst.getD 0,⟨(s.rows (o.dst.getD 0)).ver+1,.mi k (s.rows k).ver m none⟩)]).rows s.rows) (o.dst.getD 0)
     = (s.rows (o.dst.getD 0)).ver+1:=by
     show (upd (upd s.rows k _) (o.dst.getD 0) _ (o.dst.getD 0)).ver=_
     rw[zus]
    rw[e8]
    exact⟨Nat.le_refl _,fun _=>⟨_,zus _ _ _,rfl⟩⟩
  ·exact hp.elim
 ·exact hp.elim
theorem ev_mi {x:Operand}{k n:Nat}(h:SR C p s a w) (e:s.ev x = .mi k n) (hn:n=(s.rows k).ver):∃ b,p.β k=some b∧a.eval x = .pointer (some ⟨b,0,none⟩):=by
 have:=h.ev x;rw[e] at this;simp only[AV.rel] at this;exact this.2 hn
theorem good_entry {x:Operand}(h:SR C p s a w) (ho:o.op = .entry x) (hp:(sEntry s (s.ev x)).pre):Done P C o s a w (sEntry s (s.ev x)):=by
 unfold sEntry at hp ⊢
 split at hp
 ·rename_i k n e1
  split at hp
  ·rename_i n' km nm l e e2
   obtain⟨hn,hnm⟩:n=n'∧nm=(s.rows km).ver:=hp
   have hrow:=h.rw k
   rw[e2] at hrow
   simp only[zrl] at hrow
   obtain⟨r,hβ,_,hi⟩:=hrow
   obtain⟨b,hβ2,es,cl,since,seen,last,hr,hh,hM,hlt,hpw,_,hcur⟩:=hi hnm
   obtain⟨hcl,y,hy,hback,hk1,hk2⟩:=hcur e rfl
   obtain⟨r',hβ',hv⟩:=ev_mi h e1 (by rw[e2];exact hn)
   rw[hβ] at hβ'
   injection hβ' with hβ'
   subst hβ'
   have hf:es.find? (·.born == y.born)=some y:=by
    rw[← Array.find?_toList]
    exact find_born y es.toList (List.pairwise_map.2 hpw) hy
   refine done_when h (v:=.tuple #[y.key,y.val]) ?_ ?_
   ·simp only[execOp,ho,Sem.run_bind,hv,Instr.entry,run_getIter hr,run_getMap hh,Result.andThen_ok,hback,hcl,bne_self_eq_false,Bool.false_eq_true,if_false,hf,Sem.run_pure]
   ·simp only[AV.rel,RV.rel,RV.relV];exact⟨_,rfl,_,_,rfl,hk1,_,_,rfl,hk2,rfl⟩
  ·exact hp.elim
 ·exact hp.elim
theorem filter_push {seen:Array Nat}{l:List MapEntry}{i:Nat}{e:MapEntry}(hpw:l.Pairwise (fun x y=>x.born≠y.born)) (hi:(l.filter fun e=>!seen.contains e.born)[i]? = some e) :
 l.filter (fun x=>!(seen.push e.born).contains x.born)=(l.filter fun e=>!seen.contains e.born).eraseIdx i:=by
 have h1:l.filter (fun x=>!(seen.push e.born).contains x.born)=(l.filter fun e=>!seen.contains e.born).filter (fun x=>!(x.born == e.born)):=by
  rw[List.filter_filter]
  congr 1
  funext x
  by_cases hx:x.born=e.born<;>simp [hx,Bool.and_comm]
 rw[h1]
 refine Go.ChangeMaps.filter_eq_eraseIdx (fun x=>x.born == e.born) _ i e hi (by simp) ?_
 exact (hpw.filter _).imp fun {a b} hab ⟨h1,h2⟩=>hab (by
  have h1:a.born=e.born:=by simpa using h1
  have h2:b.born=e.born:=by simpa using h2
  rw[h1,h2])
theorem next_sound {x:Operand}{ty:TypeId}(h:SR C p s a w) {d:Option Nat}{K:AS→Prop}(hK:sNext s d (s.ev x) K) :
 ∃ v w' p' s' y,(Instr.next (a.eval x) false ty).run P w = .ok v w'∧SR C p' s' a w'∧s'.n=s.n∧RV.rel w' p'.R y v∧K (s'.put d (.r y)):=by
 unfold sNext at hK
 split at hK
 ·rename_i k n e1
  split at hK
  ·rename_i n' km nm left cur e2
   obtain⟨hn,hnm,hkk,hK1,hK2⟩:=hK
   have hrow:=h.rw k
   rw[e2] at hrow
   simp only[zrl] at hrow
   obtain⟨r,hβ,_,hi⟩:=hrow
   obtain⟨b,hβ2,es,cl,since,seen,last,hr,hh,hM,hlt,hpw,⟨hsl,hsc⟩,hcur⟩:=hi hnm
   obtain⟨r',hβ',hv⟩:=ev_mi h e1 (by rw[e2];exact hn)
   rw[hβ] at hβ'
   injection hβ' with hβ'
   subst hβ'
   have hbr:b≠r:=fun e=>hkk (h.ij k km r hβ (e▸hβ2))
   rw[hv]
   rcases run_next_at (P:=P) w ty r b since last seen es cl hr hh hlt hsl with⟨h0,hrun⟩|⟨e,he,w1,hw1,hrun⟩
   ·have hl:left=[]:=by
     have h1:=relM_length hM
     have h2:(es.toList.filter fun e=>!seen.contains e.born).length=0:=by
      have:(leftOf es seen).toList=es.toList.filter fun e=>!seen.contains e.born:=by simp [leftOf]
      rw[← this];simpa using h0
     exact List.eq_nil_of_length_eq_zero (by omega)
    exact⟨_,w,p,s,.tu [.bo false],hrun,h,rfl,by simp only[RV.rel,RV.relV];exact⟨_,rfl,_,_,rfl,rfl,rfl⟩,hK1 hl⟩
   ·have he2:e∈es.toList.filter fun e=>!seen.contains e.born:=by
     have:(leftOf es seen).toList=es.toList.filter fun e=>!seen.contains e.born:=by simp [leftOf]
     rw[← this];exact he
    obtain⟨i,hi2⟩:=List.getElem?_of_mem he2
    obtain⟨y,hy,hy1,hy2⟩:=relM_get' hM hi2
    have hees:e∈es.toList:=(List.mem_filter.1 he2).1
    obtain⟨p1,h1,hp1R,hp1β⟩:∃ p1,SR C p1 s a w1∧p1.R=p.R∧p1.β=p.β:=by
     rcases hw1 with rfl|rfl
     ·exact⟨p,h,rfl,rfl⟩
     ·exact⟨_,h.below (w':=w.drew) ((Below.refl _ _).drew) (fun _ h=>h) (fun _ h=>.inl h) h.rb,rfl,rfl⟩
    have hheap:w1.heap=w.heap:=by rcases hw1 with rfl|rfl<;>rfl
    have hcell:∀ ad,w1.cell? ad=w.cell? ad:=by rcases hw1 with rfl|rfl<;>exact fun _=>rfl
    have hrs:r<w1.heap.size:=by rw[hheap];exact (h.bl k r hβ).1
    have hset:=h1.setRow (w':=setBlock w1 r (.mapIter (some b) since (seen.push e.born) cl)) k (.mi km nm (left.eraseIdx i) (some y)) (by rw[e2];rfl)
     (fun km' n'' l' cur' hc hn'=>by
      injection hc with g1 g2 g3 g4
      subst g1
      exact⟨Ne.symm hkk,h.lk k km nm left cur (by rw[e2]) hnm⟩) (by rw[hp1β];exact hβ) rfl rfl rfl (setBlock_size _) (fun i hi=>setBlock_other hi _) (fun hk=>by
     simp only[zrl]
     refine⟨r,by rw[hp1β];exact hβ,Nat.le_of_eq hnm,fun _=>⟨b,by rw[hp1β];exact hβ2,es,cl,since,seen.push e.born,cl,setBlock_same hrs _,?_,?_,hlt,hpw,⟨hsc,hsc⟩,?_⟩⟩
     ·rw[setBlock_other hbr,hheap];exact hh
     ·rw[filter_push hpw hi2,hp1R]
      exact relM_erase (RV.relM_mono (fun _ h=>h) (fun ad hr=>(hk.cell ad (by rw[hp1R];exact hr)).trans (hcell ad)) _ _ hM)
     ·intro x hx
      injection hx with hx
      subst hx
      rw[hp1R]
      have hc2:∀ ad:Addr,p.R ad.block→(setBlock w1 r (.mapIter (some b) since (seen.push e.born) cl)).cell? ad=w.cell? ad:=fun ad hr=>(hk.cell ad (by rw[hp1R];exact hr)).trans (hcell ad)
      exact⟨rfl,e,hees,by simp,RV.rel_mono (fun _ h=>h) hc2 _ _ hy1,RV.rel_mono (fun _ h=>h) hc2 _ _ hy2⟩)
    have hc3:∀ ad:Addr,p.R ad.block→(setBlock w1 r (.mapIter (some b) since (seen.push e.born) cl)).cell? ad=w.cell? ad:=fun ad hr =>
     (World.cell?_of_block (setBlock_other (fun e=>(h.bl k r hβ).2.1 (by rw[← e];exact hr)) _)).trans (hcell ad)
    refine⟨_,_,p1,_,.tu [.bo true,y.1,y.2],hrun,hset,rfl,?_,?_⟩
    ·simp only[RV.rel,RV.relV];rw[hp1R]
     exact⟨_,rfl,_,_,rfl,rfl,_,_,rfl,RV.rel_mono (fun _ h=>h) hc3 _ _ hy1,_,_,rfl,RV.rel_mono (fun _ h=>h) hc3 _ _ hy2,rfl⟩
    ·have:=hK2 i y hy
     rw[show n'=(s.rows k).ver from by rw[e2]] at this
     exact this
  ·exact hK.elim
 ·exact hK.elim
end
end Go.Oc

namespace Go.Oc
open Go Go.RowKit
section
variable {P:Program}{C:Ctx}{p:Plan}{s:AS}{a:Act}{w w':World}{o:Oper}
theorem size_zero (z:Array Value) (n:Nat):(Builtin.zeroCells z n).size=n*z.size:=by simp [Builtin.zeroCells]
theorem append_fresh (h:SR C p s a w) (k:Nat) (hk0:k<1000) {x y:Operand}{t e esz eb:Nat}{ez:List RV}{ssz:Nat}{sagg:Bool}{sz0:List RV}(ho:o.op = .call ⟨.builtin .append,#[x,y],#[t,t]⟩)
 (e1:tyq P t=some ⟨.slice e esz eb ez,ssz,sagg,sz0⟩) {A:Option Addr}(hx:a.eval x = .slice A 0 0) {c:Prop}{sz:Nat}{ns:List (List RV)}(hy:news? s (s.ev y)=some (c,sz,ns)) (hc:c)
 (hsz:sz=esz∨ns=[]) (hpos:0<esz) (hb:ns.length*eb≤140737488355328) (hm:ns.length≤9223372036854775807) :
 ∃ v w' p', (execOp a.eval o).run P w = .ok (.value v) w'∧SR C p' { s with rows:=upd s.rows k ⟨(s.rows k).ver+1, .arr e esz ns⟩ } a w' ∧
   (AV.os k ((s.rows k).ver+1) esz 0 ns.length).rel w' p' (vers (upd s.rows k ⟨(s.rows k).ver+1,.arr e esz ns⟩)) v:=by
 obtain⟨hu,hok,hcs,hby,zv,hzv,hez⟩:=tyq_slice e1
 obtain⟨i,z,hi,hzero,hcells,hz1,hzl⟩:=zeroOf_spec hzv
 obtain⟨B,cB,hyv,hne⟩:=news_rel h hy hc hsz
 have go:∀ {v:Value}{w2:World},(Builtin.append_ #[t,t] o.type #[a.eval x,a.eval y]).run P w = .ok v w2→(execOp a.eval o).run P w = .ok (.value v) w2:=fun hr =>
  run_builtin_of ho (by simp only[builtin,Sem.run_bind,List.map_toArray,List.map_cons,List.map_nil,hr,Result.andThen_ok,Sem.run_pure])
 by_cases hnil:ns=[]
 ·subst hnil
  have hSR:=h.reRow (w':=w) k hk0 (.arr e esz []) rfl none 0 (Nat.zero_le _) rfl rfl rfl (Nat.le_refl _) (fun _ _ _=>rfl) (fun _ h=>by cases h) (fun p' ver' _ hβ hγ _=>by
   simp [zrl,hβ,hγ])
  refine⟨.slice A 0 0,w,_,go ?_,hSR,?_⟩
  ·rw[hx,hyv];exact run_append_zero hu hok (Nat.le_refl _)
  ·simp only[AV.rel,vers,zus];exact⟨Nat.le_refl _,fun _=>.inl ⟨trivial,trivial,trivial,by simp,A,rfl⟩⟩
 ·obtain⟨ad,us,rfl,hlu,hget,hV,h1u,hl⟩:=hne hnil
  have hn0:0<ns.length:=List.length_pos_iff.2 hnil
  rw[zci hi] at hcs
  rw[bytesOf_info hi] at hby
  subst hcs hby
  have hrun:(Builtin.append_ #[t,t] o.type #[.slice A 0 0,.slice (some ad) ns.length cB]).run P w =
   .ok (.slice (some ⟨w.heap.size,0,none⟩) ns.length (grownCap w ns.length 0 e)) (w.drew.alloc (.cells (us.toArray++Builtin.zeroCells z.cells (grownCap w ns.length 0 e-ns.length)) e)):=by
   cases A with
   | none=>exact run_append_nil (P:=P) w t o.type e i z hu hi hzero ad ns.length cB us hlu hget hn0 (by omega) (by omega)
   | some b =>
     have:=run_append_grow (P:=P) w t o.type e i z hu hi hzero b 0 0 [] (by simp) (by simp) ad ns.length cB us hlu hget (by omega) (by omega) (growslice_fits (by omega) (by simpa using hb))
     simpa using this
  have hge:=grownCap_ge w ns.length 0 e
  have hcap:=grownCap_le_maxLen w ns.length 0 e (by simp only[maxLen];omega)
  have hzc:z.cells.size=i.size:=by rw[zci hi] at hzl;rw[← hzl,← hcells];simp
  have hd:SR C p s a w.drew:=h.below (w':=w.drew) ((Below.refl _ _).drew) (fun _ h=>h) (fun _ h=>.inl h) h.rb
  have hn:=hd.newRow k hk0 (.arr e i.size ns) rfl (grownCap w ns.length 0 e) hcap (.cells (us.toArray++Builtin.zeroCells z.cells (grownCap w ns.length 0 e-ns.length)) e) (fun p' ver' _ hβ hγ hk=>by
   simp only[zrl];rw[hγ]
   refine .inr ⟨_,_,hβ,heap_alloc_new w.drew _,?_,hge,?_⟩
   ·rw[Array.size_append,size_zero,hzc,List.size_toArray,hlu,← Nat.add_mul]
    congr 1;omega
   ·refine relE_of_vals hl (RV.relV_mono hk.R hk.cell _ _ (RV.relV_mono (w:=w) (w':=w.drew) (fun _ h=>h) (fun _ _=>rfl) _ _ hV)) h1u (fun j u hj=>?_)
    rw[Nat.zero_add,add_at,Nat.zero_add,World.cell?_alloc_new,Array.getElem?_append_left (by simpa using (List.getElem?_eq_some_iff.1 hj).1)]
    simpa using hj)
  refine⟨_,_,_,go (by rw[hx,hyv];exact hrun),hn,?_⟩
  simp only[AV.rel,vers,zus];exact⟨Nat.le_refl _,fun _=>.inr ⟨_,_,rfl,by simp;rfl,by omega,fun _=>by simp⟩⟩
theorem flatten_take_of {α:Type}{sz:Nat}:∀ {es:List (List α)}(m:Nat),(∀ e∈es,e.length=sz)→(es.take m).flatten=es.flatten.take (m*sz)
 | [],m,_=>by simp
 | e::es,0,_=>by simp
 | e::es, m+1, hl=>by
   have he:=hl e (by simp)
   have h1:e.take (m*sz+sz)=e:=List.take_of_length_le (by rw[he];omega)
   rw[List.take_succ_cons,List.flatten_cons,List.flatten_cons,flatten_take_of m (fun x hx=>hl x (by simp [hx])),List.take_append,he,Nat.add_mul,Nat.one_mul,h1,Nat.add_sub_cancel]
theorem flatten_drop_of {α:Type}{sz:Nat}:∀ {es:List (List α)}(m:Nat),(∀ e∈es,e.length=sz)→(es.drop m).flatten=es.flatten.drop (m*sz)
 | [],m,_=>by simp
 | e::es,0,_=>by simp
 | e::es, m+1, hl=>by
   have he:=hl e (by simp)
   have h1:e.drop (m*sz+sz)=[]:=List.drop_eq_nil_of_le (by rw[he];omega)
   rw[List.drop_succ_cons,List.flatten_cons,flatten_drop_of m (fun x hx=>hl x (by simp [hx])),List.drop_append,he,Nat.add_mul,Nat.one_mul,h1,List.nil_append,Nat.add_sub_cancel]
theorem set_row (h:SR C p s a w) {k b m sz e:Nat}{es ns:List (List RV)}{vs:List Value}(e5:(s.rows k).c = .arr e sz es) (hβ:p.β k=some b) (hle:m+ns.length≤es.length) (hlv:vs.length=ns.length*sz) (hl2:∀ x∈ns,x.length=sz)
 (hV:RV.relV w p.R ns.flatten vs) (h1v:∀ u∈vs,u.oneCell'=true) :
 ∃ cells, w.heap[b]? = some (.cells cells e (0, 0))∧m*sz+vs.length≤cells.size ∧
   SR C p { s with rows:=upd s.rows k ⟨(s.rows k).ver,.arr e sz (es.take m++(ns++es.drop (m+ns.length)))⟩ } a (w.setRow b (cells.toList.take (m*sz)++vs++cells.toList.drop (m*sz+vs.length)).toArray):=by
 have hrow:=h.rw k
 rw[e5] at hrow
 simp only[zrl] at hrow
 rcases hrow with⟨hb0,_⟩|⟨b',cells,hβ',hh,hcs,hle2,hE⟩
 ·rw[hb0] at hβ;cases hβ
 ·rw[hβ] at hβ'
  injection hβ' with hβ'
  subst hβ'
  obtain⟨hl,us,hlu,hget,hVu,h1u⟩:=relE_vals hE
  simp only[Nat.zero_add,add_at] at hget
  have hmul:(m+ns.length)*sz≤es.length*sz:=Nat.mul_le_mul_right _ hle
  have hmul2:es.length*sz≤p.γ k*sz:=Nat.mul_le_mul_right _ hle2
  rw[Nat.add_mul] at hmul
  refine⟨cells,hh,by omega,?_⟩
  refine h.setRow k (.arr e sz (es.take m++(ns++es.drop (m+ns.length)))) (by rw[e5];rfl) (fun _ _ _ _ h=>by cases h) hβ rfl rfl rfl (by simp) (fun j hj=>setRow_other w b j _ hj) (fun hk=>?_)
  simp only[zrl]
  refine .inr ⟨b,_,hβ,setRow_heap w b cells _ e _ hh,?_,by simp;omega,?_⟩
  ·simp;omega
  ·refine relE_of_vals (us:=us.take (m*sz)++(vs++us.drop (m*sz+vs.length))) (fun x hx=>?_) ?_ (fun u hu=>?_) (fun j u hj=>?_)
   ·rcases List.mem_append.1 hx with hx|hx
    ·exact hl x (List.mem_of_mem_take hx)
    ·rcases List.mem_append.1 hx with hx|hx
     ·exact hl2 x hx
     ·exact hl x (List.mem_of_mem_drop hx)
   ·rw[List.flatten_append,List.flatten_append,flatten_take_of m hl,flatten_drop_of _ hl]
    have hk2:∀ b,p.R b→p.R b:=fun _ h=>h
    refine RV.relV_append (RV.relV_take _ (RV.relV_mono hk2 hk.cell _ _ hVu)) (RV.relV_append (RV.relV_mono hk2 hk.cell _ _ hV) ?_)
    have h9:=RV.relV_drop (m*sz+vs.length) (RV.relV_mono hk2 hk.cell _ _ hVu)
    rw[show (m+ns.length)*sz=m*sz+vs.length from by rw[hlv,Nat.add_mul]]
    exact h9
   ·rcases List.mem_append.1 hu with hu|hu
    ·exact h1u u (List.mem_of_mem_take hu)
    ·rcases List.mem_append.1 hu with hu|hu
     ·exact h1v u hu
     ·exact h1u u (List.mem_of_mem_drop hu)
   ·rw[Nat.zero_add,add_at,Nat.zero_add,cell_setRow_same w b j cells _ e _ hh,List.getElem?_toArray,List.append_assoc]
    refine seg_get (A:=us) (B:=cells.toList) (fun i u hi=>?_) (by omega) (by simp;omega) hj
    have:=hget i u hi
    rw[cell_of_row w b i cells e (0,0) hh] at this
    simpa using this
theorem append_in (h:SR C p s a w) {x y:Operand}{t e esz eb:Nat}{ez:List RV}{ssz:Nat}{sagg:Bool}{sz0:List RV}(ho:o.op = .call ⟨.builtin .append,#[x,y],#[t,t]⟩)
 (e1:tyq P t=some ⟨.slice e esz eb ez,ssz,sagg,sz0⟩) {k n m sz:Nat}{c:Prop}{es ns:List (List RV)}(e3:s.ev x = .os k n esz 0 m) (e4:news? s (s.ev y)=some (c,sz,ns)) (e5:s.rows k=⟨n,.arr e esz es⟩) (hc:c)
 (hsz:sz=esz∨ns=[]) (hle:m+ns.length≤es.length) :
 ∃ v w' p', (execOp a.eval o).run P w = .ok (.value v) w'∧SR C p' { s with rows:=upd s.rows k ⟨n, .arr e esz (es.take m++(ns++es.drop (m+ns.length)))⟩ } a w' ∧
   (AV.os k n esz 0 (m+ns.length)).rel w' p' (vers (upd s.rows k ⟨n,.arr e esz (es.take m++(ns++es.drop (m+ns.length)))⟩)) v:=by
 have hn2:n=(s.rows k).ver:=by rw[e5]
 have hver:n=s.ver k:=hn2
 obtain⟨hu,hok,hco,hby,zv,hzv,hez⟩:=tyq_slice e1
 obtain⟨i,z,hi,hzero,hcells,hz1,hzl⟩:=zeroOf_spec hzv
 rw[zci hi] at hco
 obtain⟨B,cB,hyv,hne⟩:=news_rel h e4 hc hsz
 have go:∀ {v:Value}{w2:World},(Builtin.append_ #[t,t] o.type #[a.eval x,a.eval y]).run P w = .ok v w2→(execOp a.eval o).run P w = .ok (.value v) w2:=fun hr =>
  run_builtin_of ho (by simp only[builtin,Sem.run_bind,List.map_toArray,List.map_cons,List.map_nil,hr,Result.andThen_ok,Sem.run_pure])
 have same:ns=[]→upd s.rows k ⟨n,.arr e esz (es.take m++(ns++es.drop (m+ns.length)))⟩=s.rows:=fun h0=>by
  subst h0
  simp only[List.length_nil,Nat.add_zero,List.nil_append,List.take_append_drop]
  funext j
  unfold upd
  split
  ·rename_i e;subst e;exact e5.symm
  ·rfl
 rcases ev_os h e3 hver with⟨hβ,hγ,_,hm0,A,hv⟩|⟨b,A,hβ,hv,hle2,hA⟩
 ·have hrow:=h.rw k
  rw[e5] at hrow
  simp only[zrl] at hrow
  have hes:es=[]:=by
   rcases hrow with⟨_,h2,_⟩|⟨b,_,h2,_⟩
   ·exact h2
   ·rw[hβ] at h2;cases h2
  subst hes hm0
  have hns:ns=[]:=List.eq_nil_of_length_eq_zero (by simp only[List.length_nil] at hle;omega)
  have hs:=same hns
  refine⟨.slice A 0 0,w,p,go ?_,?_,?_⟩
  ·rw[hv,hyv,show ns.length=0 from by rw[hns];rfl];exact run_append_zero hu hok (Nat.le_refl _)
  ·rw[hs];exact h
  ·rw[hs]
   simp only[AV.rel,vers];exact⟨Nat.le_of_eq hn2,fun _=>.inl ⟨hβ,hγ,trivial,by simp [hns],A,rfl⟩⟩
 ·obtain rfl:=hA (.inr rfl)
  simp only[Nat.zero_mul,Nat.sub_zero] at hv
  have hγ2:es.length≤p.γ k:=by
   have hrow:=h.rw k
   rw[e5] at hrow
   simp only[zrl] at hrow
   rcases hrow with⟨h2,_⟩|⟨_,_,_,_,_,h2,_⟩
   ·rw[hβ] at h2;cases h2
   ·exact h2
  by_cases hnil:ns=[]
  ·have hs:=same hnil
   refine⟨.slice (some ⟨b,0,none⟩) m (p.γ k),w,p,go (by rw[hv,hyv,show ns.length=0 from by rw[hnil];rfl];exact run_append_zero hu hok (by omega)),by rw[hs];exact h,?_⟩
   rw[hs]
   simp only[AV.rel,vers];exact⟨Nat.le_of_eq hn2,fun _=>.inr ⟨b,some ⟨b,0,none⟩,hβ,by simp [hnil],by simp only[hnil,List.length_nil];omega,fun _=>by simp⟩⟩
  ·obtain⟨ad,vs,rfl,hlv,hgv,hVv,h1v,hlv2⟩:=hne hnil
   obtain⟨cells,hh,hfit,hset⟩:=set_row (m:=m) h (by rw[e5]) hβ hle hlv hlv2 hVv h1v
   have hr:=run_append_room (P:=P) w t o.type e i hu hi b m (p.γ k) cells hh ad ns.length cB vs (by rw[hlv,hco]) hgv h1v (by omega) (by rw[hco];exact hfit)
   rw[hco] at hr
   have hn3:(s.rows k).ver=n:=hn2.symm
   rw[hn3] at hset
   refine⟨_,_,p,go (by rw[hv,hyv];exact hr),hset,?_⟩
   simp only[AV.rel,vers,zus];exact⟨Nat.le_refl _,fun _=>.inr ⟨b,_,hβ,by simp;rfl,by omega,fun _=>by simp⟩⟩
theorem append_full (h:SR C p s a w) (k:Nat) (hk0:k<1000) {x y:Operand}{t e esz eb:Nat}{ez:List RV}{ssz:Nat}{sagg:Bool}{sz0:List RV}(ho:o.op = .call ⟨.builtin .append,#[x,y],#[t,t]⟩)
 (e1:tyq P t=some ⟨.slice e esz eb ez,ssz,sagg,sz0⟩) {es:List (List RV)}(e3:s.ev x = .r (.sx esz es)) {c:Prop}{sz:Nat}{ns:List (List RV)}(hy:news? s (s.ev y)=some (c,sz,ns)) (hc:c)
 (hsz:sz=esz∨ns=[]) (hnil:ns≠[]) (hpos:0<esz) (hb:(es.length+ns.length)*eb≤140737488355328) (hm:es.length+ns.length≤9223372036854775807) :
 ∃ v w' p', (execOp a.eval o).run P w = .ok (.value v) w'∧SR C p' { s with rows:=upd s.rows k ⟨(s.rows k).ver+1, .arr e esz (es++ns)⟩ } a w' ∧
   (AV.os k ((s.rows k).ver+1) esz 0 (es.length+ns.length)).rel w' p' (vers (upd s.rows k ⟨(s.rows k).ver+1,.arr e esz (es++ns)⟩)) v:=by
 obtain⟨hu,hok,hcs,hby,zv,hzv,hez⟩:=tyq_slice e1
 obtain⟨i,z,hi,hzero,hcells,hz1,hzl⟩:=zeroOf_spec hzv
 obtain⟨B,cB,hyv,hne⟩:=news_rel h hy hc hsz
 have go:∀ {v:Value}{w2:World},(Builtin.append_ #[t,t] o.type #[a.eval x,a.eval y]).run P w = .ok v w2→(execOp a.eval o).run P w = .ok (.value v) w2:=fun hr =>
  run_builtin_of ho (by simp only[builtin,Sem.run_bind,List.map_toArray,List.map_cons,List.map_nil,hr,Result.andThen_ok,Sem.run_pure])
 have hx:=h.ev x
 rw[e3] at hx
 simp only[AV.rel,RV.rel] at hx
 obtain⟨ad0,hxv,hes,hmx,_,hE⟩:=hx
 obtain⟨hl,us,hlu,hget,hVu,h1u⟩:=relE_vals hE
 simp only[Nat.zero_add] at hget
 obtain⟨ad,vs,rfl,hlv,hgv,hVv,h1v,hlv2⟩:=hne hnil
 have hn0:0<ns.length:=List.length_pos_iff.2 hnil
 rw[zci hi] at hcs
 rw[bytesOf_info hi] at hby
 subst hcs hby
 have hr:=run_append_grow (P:=P) w t o.type e i z hu hi hzero ad0 es.length es.length us hlu hget ad ns.length cB vs hlv hgv (by omega) (by omega) (growslice_fits (by omega) hb)
 have hge:=grownCap_ge w (es.length+ns.length) es.length e
 have hcap:=grownCap_le_maxLen w (es.length+ns.length) es.length e (by simp only[maxLen];omega)
 have hzc:z.cells.size=i.size:=by rw[zci hi] at hzl;rw[← hzl,← hcells];simp
 have hd:SR C p s a w.drew:=h.below (w':=w.drew) ((Below.refl _ _).drew) (fun _ h=>h) (fun _ h=>.inl h) h.rb
 have hlen:(es++ns).length=es.length+ns.length:=List.length_append
 have hl2:∀ e∈es++ns,e.length=i.size:=fun e he=>(List.mem_append.1 he).elim (hl e) (hlv2 e)
 have hn:=hd.newRow k hk0 (.arr e i.size (es++ns)) rfl (grownCap w (es.length+ns.length) es.length e) hcap
  (.cells (us.toArray++vs.toArray++Builtin.zeroCells z.cells (grownCap w (es.length+ns.length) es.length e-(es.length+ns.length))) e) (fun p' ver' _ hβ hγ hk=>by
  simp only[zrl];rw[hγ]
  refine .inr ⟨_,_,hβ,heap_alloc_new w.drew _,?_,by omega,?_⟩
  ·rw[Array.size_append,Array.size_append,size_zero,hzc,List.size_toArray,List.size_toArray,hlu,hlv,← Nat.add_mul,← Nat.add_mul]
   congr 1;omega
  ·refine relE_of_vals (us:=us++vs) hl2 ?_ (fun u hu=>(List.mem_append.1 hu).elim (h1u u) (h1v u)) (fun j u hj=>?_)
   ·rw[List.flatten_append]
    exact RV.relV_append (RV.relV_mono hk.R hk.cell _ _ (RV.relV_mono (w:=w) (w':=w.drew) (fun _ h=>h) (fun _ _=>rfl) _ _ hVu)) (RV.relV_mono hk.R hk.cell _ _ (RV.relV_mono (w:=w) (w':=w.drew) (fun _ h=>h) (fun _ _=>rfl) _ _ hVv))
   ·have hj2:=(List.getElem?_eq_some_iff.1 hj).1
    rw[List.length_append] at hj2
    rw[Nat.zero_add,add_at,Nat.zero_add,World.cell?_alloc_new,Array.getElem?_append_left (by simpa using hj2),List.append_toArray,List.getElem?_toArray]
    exact hj)
 refine⟨_,_,_,go (by rw[hxv,hyv];exact hr),hn,?_⟩
 simp only[AV.rel,vers,zus];exact⟨Nat.le_refl _,fun _=>.inr ⟨_,_,rfl,by simp;rfl,by simpa using hge,fun _=>by simp⟩⟩
theorem append_arc (h:SR C p s a w) {x y:Operand}{t e esz eb:Nat}{ez:List RV}{ssz:Nat}{sagg:Bool}{sz0:List RV}(ho:o.op = .call ⟨.builtin .append,#[x,y],#[t,t]⟩)
 (e1:tyq P t=some ⟨.slice e esz eb ez,ssz,sagg,sz0⟩) {k n sz c0:Nat}{c:Prop}{es ns:List (List RV)}(e3:s.ev x = .os k n esz 0 es.length) (e4:news? s (s.ev y)=some (c,sz,ns)) (e5:s.rows k=⟨n,.arc e esz es c0⟩) (hc:c)
 (hsz:sz=esz∨ns=[]) (hnil:ns≠[]) (hle:es.length+ns.length≤c0) :
 ∃ v w' p', (execOp a.eval o).run P w = .ok (.value v) w'∧SR C p' { s with rows:=upd s.rows k ⟨n, .arc e esz (es++ns) c0⟩ } a w' ∧
   (AV.os k n esz 0 (es.length+ns.length)).rel w' p' (vers (upd s.rows k ⟨n,.arc e esz (es++ns) c0⟩)) v:=by
 have hn2:n=(s.rows k).ver:=by rw[e5]
 have hver:n=s.ver k:=hn2
 obtain⟨hu,hok,hco,hby,zv,hzv,hez⟩:=tyq_slice e1
 obtain⟨i,z,hi,hzero,hcells,hz1,hzl⟩:=zeroOf_spec hzv
 rw[zci hi] at hco
 obtain⟨B,cB,hyv,hne⟩:=news_rel h e4 hc hsz
 have go:∀ {v:Value}{w2:World},(Builtin.append_ #[t,t] o.type #[a.eval x,a.eval y]).run P w = .ok v w2→(execOp a.eval o).run P w = .ok (.value v) w2:=fun hr =>
  run_builtin_of ho (by simp only[builtin,Sem.run_bind,List.map_toArray,List.map_cons,List.map_nil,hr,Result.andThen_ok,Sem.run_pure])
 have hrow:=h.rw k
 rw[e5] at hrow
 simp only[zrl] at hrow
 obtain⟨b',cells,hβ',hh,hγ,hcs,hle2,hE⟩:=hrow
 rcases ev_os h e3 hver with⟨hβ,_⟩|⟨b,A,hβ,hv,hle3,hA⟩
 ·rw[hβ] at hβ';cases hβ'
 ·obtain rfl:=hA (.inr rfl)
  rw[hβ] at hβ'
  injection hβ' with hβ'
  subst hβ'
  simp only[Nat.zero_mul,Nat.sub_zero] at hv
  obtain⟨hl,us,hlu,hget,hVu,h1u⟩:=relE_vals hE
  simp only[Nat.zero_add,add_at] at hget
  obtain⟨ad,vs,rfl,hlv,hgv,hVv,h1v,hlv2⟩:=hne hnil
  have hl2:∀ e∈es++ns,e.length=esz:=fun e he=>(List.mem_append.1 he).elim (hl e) (hlv2 e)
  have hfit:es.length*esz+vs.length≤cells.size:=by
   rw[hlv,hcs,← Nat.add_mul];exact Nat.mul_le_mul_right _ hle
  have hr:=run_append_room (P:=P) w t o.type e i hu hi b es.length (p.γ k) cells hh ad ns.length cB vs (by rw[hlv,hco]) hgv h1v (by omega) (by rw[hco];exact hfit)
  rw[hco] at hr
  have hset:=h.setRow (w':=w.setRow b (cells.toList.take (es.length*esz)++vs++cells.toList.drop (es.length*esz+vs.length)).toArray) k (.arc e esz (es++ns) c0) (by rw[e5];rfl) (fun _ _ _ _ h=>by cases h) hβ rfl rfl rfl (by simp) (fun j hj=>setRow_other w b j _ hj) (fun hk=>by
   simp only[zrl]
   refine⟨b,_,hβ,setRow_heap w b cells _ e _ hh,hγ,?_,by rw[List.length_append];exact hle,?_⟩
   ·simp;omega
   ·refine relE_of_vals (us:=us++vs) hl2 ?_ (fun u hu=>(List.mem_append.1 hu).elim (h1u u) (h1v u)) (fun j u hj=>?_)
    ·rw[List.flatten_append]
     have hk2:∀ b,p.R b→p.R b:=fun _ h=>h
     exact RV.relV_append (RV.relV_mono hk2 hk.cell _ _ hVu) (RV.relV_mono hk2 hk.cell _ _ hVv)
    ·rw[Nat.zero_add,add_at,Nat.zero_add,cell_setRow_same w b j cells _ e _ hh,List.getElem?_toArray,List.append_assoc]
     have htk:(cells.toList.take (es.length*esz)).length=es.length*esz:=by simp;omega
     rw[List.getElem?_append] at hj ⊢
     rw[htk]
     rw[hlu] at hj
     split at hj
     ·rename_i h1
      rw[if_pos h1,List.getElem?_take,if_pos h1]
      have:=hget j u hj
      rw[cell_of_row w b j cells e (0,0) hh] at this
      simpa using this
     ·rename_i h1
      rw[if_neg h1,List.getElem?_append_left (List.getElem?_eq_some_iff.1 hj).1]
      exact hj)
  rw[← hn2] at hset
  refine⟨_,_,p,go (by rw[hv,hyv];exact hr),hset,?_⟩
  simp only[AV.rel,vers,zus];exact⟨Nat.le_refl _,fun _=>.inr ⟨b,_,hβ,by simp;rfl,by omega,fun _=>by simp⟩⟩
theorem good_append {x y:Operand}{t t':TypeId}(h:SR C p s a w) (ho:o.op = .call ⟨.builtin .append,#[x,y],#[t,t']⟩) (hp:(sAppend P s (o.dst.getD 0) t t' (s.ev x) (s.ev y)).pre) :
 Done P C o s a w (sAppend P s (o.dst.getD 0) t t' (s.ev x) (s.ev y)):=by
 unfold sAppend at hp ⊢
 split at hp
 ·rename_i e esz eb ez ssz sagg sz0 c sz ns e1 e2 e3 e4
  obtain rfl:t=t':=by simpa using e2
  obtain⟨hc,hsz,hpos,hb,hm,hk0⟩:c∧(sz=esz∨ns=[])∧0<esz∧ns.length*eb≤140737488355328∧ns.length≤9223372036854775807∧o.dst.getD 0<1000:=hp
  obtain⟨A,hv⟩:=ev_ns h e3
  obtain⟨v,w',p',hrun,hSR,hrel⟩:=append_fresh h (o.dst.getD 0) hk0 ho e1 hv e4 hc hsz hpos hb hm
  exact⟨_,v,w',p',hrun,.inl rfl,trivial,by rw[zro];exact hSR,by rw[zro];exact hrel⟩
 ·rename_i e esz eb ez ssz sagg sz0 sz1 es c sz ns e1 e2 e3 e4
  obtain rfl:t=t':=by simpa using e2
  obtain⟨hc,hs1,hsz,hnil,hpos,hb,hm,hk0⟩:c∧sz1=esz∧(sz=esz∨ns=[])∧0<ns.length∧0<esz∧(es.length+ns.length)*eb≤140737488355328∧es.length+ns.length≤9223372036854775807∧o.dst.getD 0<1000:=hp
  subst hs1
  obtain⟨v,w',p',hrun,hSR,hrel⟩:=append_full h (o.dst.getD 0) hk0 ho e1 e3 e4 hc hsz (List.length_pos_iff.1 hnil) hpos hb hm
  exact⟨_,v,w',p',hrun,.inl rfl,trivial,by rw[zro];exact hSR,by rw[zro];exact hrel⟩
 ·rename_i e esz eb ez ssz sagg sz0 k n sz1 off m c sz ns e1 e2 e3 e4
  obtain rfl:t=t':=by simpa using e2
  split at hp
  ·rename_i n' e' sz' es c0 e5
   obtain⟨hc,hn,he',hs1,hs2,hoff,hm,hsz,hnil,hpos,hle⟩:c∧n=n'∧e'=e∧sz1=esz∧sz'=esz∧off=0∧m=es.length∧(sz=esz∨ns=[])∧0<ns.length∧0<esz∧m+ns.length≤c0:=hp
   subst hs1 hs2 hoff he' hn hm
   obtain⟨v,w',p',hrun,hSR,hrel⟩:=append_arc h ho e1 e3 e4 e5 hc hsz (List.length_pos_iff.1 hnil) hle
   exact⟨_,v,w',p',hrun,.inl rfl,trivial,by rw[zro];exact hSR,by rw[zro];exact hrel⟩
  ·rename_i n' e' sz' es e5
   by_cases hif:off=0∧m=es.length
   rotate_left
   ·rw[if_neg hif] at hp ⊢
    obtain⟨hc,hn,he',hs1,hs2,hoff,hsz,hpos,hle⟩:c∧n=n'∧e'=e∧sz1=esz∧sz'=esz∧off=0∧(sz=esz∨ns=[])∧0<esz∧m+ns.length≤es.length:=hp
    subst hs1 hs2 hoff he' hn
    obtain⟨v,w',p',hrun,hSR,hrel⟩:=append_in h ho e1 e3 e4 e5 hc hsz hle
    exact⟨_,v,w',p',hrun,.inl rfl,trivial,by rw[zro];exact hSR,by rw[zro];exact hrel⟩
   rw[if_pos hif] at hp ⊢
   obtain⟨hc,hn,he',hs1,hs2,hoff,hm,hsz,hpos,hb,hmax,hk0⟩:c∧n=n'∧e'=e∧sz1=esz∧sz'=esz∧off=0∧m=es.length∧(sz=esz∨ns=[])∧0<esz ∧
    (m+ns.length)*eb≤140737488355328∧m+ns.length≤9223372036854775807∧k<1000:=hp
   subst hs1 hs2 hoff he' hn
   have hver:n=s.ver k:=by simp [AS.ver,e5]
   have hn2:n=(s.rows k).ver:=hver
   have hrow:=h.rw k
   rw[e5] at hrow
   simp only[zrl] at hrow
   rcases ev_os h e3 hver with⟨hβ,_,_,hm0,A,hv⟩|⟨b,A,hβ,hv,hle,hA⟩
   ·have hes:es=[]:=List.eq_nil_of_length_eq_zero (by omega)
    subst hes hm0
    simp only[Nat.zero_add] at hb hmax
    obtain⟨v,w',p',hrun,hSR,hrel⟩:=append_fresh h k hk0 ho e1 hv e4 hc hsz hpos hb hmax
    refine⟨_,v,w',p',hrun,.inl rfl,trivial,?_,?_⟩
    ·rw[zro,hn2];simpa using hSR
    ·rw[zro,hn2];simpa using hrel
   ·obtain rfl:=hA (.inr rfl)
    rcases hrow with⟨hb0,_⟩|⟨b',cells,hβ',hh,hcs,hle2,hE⟩
    ·rw[hb0] at hβ;cases hβ
    ·rw[hβ] at hβ'
     injection hβ' with hβ'
     subst hβ'
     obtain⟨hu,hok,hco,hby,zv,hzv,hez⟩:=tyq_slice e1
     obtain⟨i,z,hi,hzero,hcells,hz1,hzl⟩:=zeroOf_spec hzv
     rw[zci hi] at hco
     rw[bytesOf_info hi] at hby
     obtain⟨B,cB,hyv,hne⟩:=news_rel h e4 hc hsz
     simp only[Nat.zero_mul,Nat.sub_zero] at hv
     have go:∀ {v:Value}{w2:World},(Builtin.append_ #[t,t] o.type #[a.eval x,a.eval y]).run P w = .ok v w2→(execOp a.eval o).run P w = .ok (.value v) w2:=fun hr =>
      run_builtin_of ho (by simp only[builtin,Sem.run_bind,List.map_toArray,List.map_cons,List.map_nil,hr,Result.andThen_ok,Sem.run_pure])
     obtain⟨hl,us,hlu,hget,hVu,h1u⟩:=relE_vals hE
     simp only[Nat.zero_add,add_at] at hget
     by_cases hnil:ns=[]
     ·subst hnil
      have hSR:=h.reRow (w':=w) k hk0 (.arr e' sz' es) rfl (some b) (p.γ k) (h.cap k) rfl rfl rfl (Nat.le_refl _) (fun _ _ _=>rfl) (fun b2 h2=>by injection h2 with h2;subst h2;exact⟨(h.bl k _ hβ).1,.inl hβ⟩) (fun p' ver' hR' hβ' hγ' hk=>by
       simp only[zrl];rw[hγ',hR']
       exact .inr ⟨b,cells,hβ',hh,hcs,hle2,hE⟩)
      refine⟨_,.slice (some ⟨b,0,none⟩) m (p.γ k),w,{ p with β:=upd p.β k (some b),γ:=upd p.γ k (p.γ k) },go (by rw[hv,hyv];exact run_append_zero hu hok (by omega)),.inl rfl,trivial,?_,?_⟩
      ·rw[zro,hn2];simpa using hSR
      ·rw[zro,hn2]
       simp only[AV.rel,vers,zus];exact⟨Nat.le_refl _,fun _=>.inr ⟨b,_,rfl,by simp;rfl,by simp;omega,fun _=>by simp⟩⟩
     ·obtain⟨ad,vs,rfl,hlv,hgv,hVv,h1v,hlv2⟩:=hne hnil
      have hlen:(es++ns).length=m+ns.length:=by rw[List.length_append,hm]
      have hl2:∀ e∈es++ns,e.length=sz':=fun e he=>(List.mem_append.1 he).elim (hl e) (hlv2 e)
      by_cases hroom:m+ns.length≤p.γ k
      ·have hfit:m*sz'+vs.length≤cells.size:=by
        rw[hlv,hcs,← Nat.add_mul];exact Nat.mul_le_mul_right _ hroom
       have hr:=run_append_room (P:=P) w t o.type e' i hu hi b m (p.γ k) cells hh ad ns.length cB vs (by rw[hlv,hco]) hgv h1v hroom (by rw[hco];exact hfit)
       rw[hco] at hr
       have hSR:=h.reRow (w':=w.setRow b (cells.toList.take (m*sz')++vs++cells.toList.drop (m*sz'+vs.length)).toArray) k hk0 (.arr e' sz' (es++ns)) rfl (some b) (p.γ k) (h.cap k) rfl rfl rfl (by simp)
        (fun j _ hj=>setRow_other w b j _ (fun e=>hj (by rw[e];exact hβ))) (fun b2 h2=>by injection h2 with h2;subst h2;exact⟨by simpa using (h.bl k _ hβ).1,.inl hβ⟩) (fun p' ver' hR' hβ' hγ' hk=>by
        simp only[zrl];rw[hγ']
        refine .inr ⟨b,_,hβ',setRow_heap w b cells _ e' _ hh,?_,by omega,?_⟩
        ·simp;omega
        ·refine relE_of_vals (us:=us++vs) hl2 ?_ (fun u hu=>(List.mem_append.1 hu).elim (h1u u) (h1v u)) (fun j u hj=>?_)
         ·rw[List.flatten_append,hR']
          have hk2:∀ b,p.R b→p.R b:=fun _ h=>h
          exact RV.relV_append (RV.relV_mono hk2 hk.cell _ _ hVu) (RV.relV_mono hk2 hk.cell _ _ hVv)
         ·rw[Nat.zero_add,add_at,Nat.zero_add,cell_setRow_same w b j cells _ e' _ hh,List.getElem?_toArray,List.append_assoc]
          have hul:us.length=m*sz':=by rw[hlu,hm]
          have htk:(cells.toList.take (m*sz')).length=m*sz':=by simp;omega
          rw[List.getElem?_append] at hj ⊢
          rw[htk]
          rw[hul] at hj
          split at hj
          ·rename_i h1
           rw[if_pos h1,List.getElem?_take,if_pos h1]
           have:=hget j u hj
           rw[cell_of_row w b j cells e' (0,0) hh] at this
           simpa using this
          ·rename_i h1
           rw[if_neg h1,List.getElem?_append_left (List.getElem?_eq_some_iff.1 hj).1]
           exact hj)
       refine⟨_,.slice (some ⟨b,0,none⟩) (m+ns.length) (p.γ k),_,{ p with β:=upd p.β k (some b),γ:=upd p.γ k (p.γ k) },go (by rw[hv,hyv];exact hr),.inl rfl,trivial,?_,?_⟩
       ·rw[zro,hn2];exact hSR
       ·rw[zro,hn2]
        simp only[AV.rel,vers,zus];exact⟨Nat.le_refl _,fun _=>.inr ⟨b,_,rfl,by simp;rfl,by simpa using hroom,fun _=>by simp⟩⟩
      ·have holds:∀ j u,us[j]? = some u→w.cell? ((⟨b,0,none⟩:Addr).add j)=some u:=fun j u hj=>by rw[add_at,Nat.zero_add];exact hget j u hj
       have hr:=run_append_grow (P:=P) w t o.type e' i z hu hi hzero ⟨b,0,none⟩ m (p.γ k) us (by rw[hlu,hm,hco]) holds ad ns.length cB vs (by rw[hlv,hco]) hgv (by omega) (by omega)
        (growslice_fits (by omega) (by rw[hby];exact hb))
       have hge:=grownCap_ge w (m+ns.length) (p.γ k) e'
       have hcap:=grownCap_le_maxLen w (m+ns.length) (p.γ k) e' (by simp only[maxLen];omega)
       have hzc:z.cells.size=sz':=by rw[zci hi,hco] at hzl;rw[← hzl,← hcells];simp
       have hd:SR C p s a w.drew:=h.below (w':=w.drew) ((Below.refl _ _).drew) (fun _ h=>h) (fun _ h=>.inl h) h.rb
       have hn:=hd.newRow k hk0 (.arr e' sz' (es++ns)) rfl (grownCap w (m+ns.length) (p.γ k) e') hcap
        (.cells (us.toArray++vs.toArray++Builtin.zeroCells z.cells (grownCap w (m+ns.length) (p.γ k) e'-(m+ns.length))) e') (fun p' ver' _ hβ hγ hk=>by
        simp only[zrl];rw[hγ]
        refine .inr ⟨_,_,hβ,heap_alloc_new w.drew _,?_,by omega,?_⟩
        ·rw[Array.size_append,Array.size_append,size_zero,hzc,List.size_toArray,List.size_toArray,hlu,hlv,← hm,← Nat.add_mul,← Nat.add_mul]
         congr 1;omega
        ·refine relE_of_vals (us:=us++vs) hl2 ?_ (fun u hu=>(List.mem_append.1 hu).elim (h1u u) (h1v u)) (fun j u hj=>?_)
         ·rw[List.flatten_append]
          exact RV.relV_append (RV.relV_mono hk.R hk.cell _ _ (RV.relV_mono (w:=w) (w':=w.drew) (fun _ h=>h) (fun _ _=>rfl) _ _ hVu)) (RV.relV_mono hk.R hk.cell _ _ (RV.relV_mono (w:=w) (w':=w.drew) (fun _ h=>h) (fun _ _=>rfl) _ _ hVv))
         ·have hj2:=(List.getElem?_eq_some_iff.1 hj).1
          rw[List.length_append] at hj2
          rw[Nat.zero_add,add_at,Nat.zero_add,World.cell?_alloc_new,Array.getElem?_append_left (by simpa using hj2),List.append_toArray,List.getElem?_toArray]
          exact hj)
       refine⟨_,_,_,_,go (by rw[hv,hyv];exact hr),.inl rfl,trivial,by rw[zro,hn2];exact hn,?_⟩
       rw[zro,hn2]
       simp only[AV.rel,vers,zus];exact⟨Nat.le_refl _,fun _=>.inr ⟨_,_,rfl,by simp;rfl,by simpa using hge,fun _=>by simp⟩⟩
  ·exact hp.elim
 ·exact hp.elim
theorem relV_rep (W:World) (R:Nat→Prop) (zv:List Value):∀ q:Nat,RV.relV W R (List.replicate q (zv.map RV.ofV1)).flatten (List.replicate q zv).flatten
 | 0=>by simp [RV.relV]
 | q+1=>by simp only[List.replicate_succ,List.flatten_cons];exact RV.relV_append (RV.relV_ofV1 _ _ zv) (relV_rep W R zv q)
theorem good_appendZ {x y:Operand}{t t':TypeId}(h:SR C p s a w) (ho:o.op = .call ⟨.builtin .append,#[x,y],#[t,t']⟩) (hp:(sAppendZ P s (o.dst.getD 0) t t' (s.ev x) (s.ev y)).pre) :
 Done P C o s a w (sAppendZ P s (o.dst.getD 0) t t' (s.ev x) (s.ev y)):=by
 unfold sAppendZ at hp ⊢
 split at hp
 ·rename_i e esz eb ez _ _ _ kt _ _ _ k n e1 e2 e3 e4
  obtain⟨hk,hn0,hpos,hb,hmax,hd0⟩:k = .i64∧0<n∧0<esz∧n.toNat*eb≤140737488355328∧n≤9223372036854775807∧o.dst.getD 0<1000:=hp
  obtain⟨hu,hok,hcs,hby,zv,hzv,hez⟩:=tyq_slice e1
  obtain⟨i,z,hi,hzero,hcells,hz1,hzl⟩:=zeroOf_spec hzv
  obtain⟨A,hv⟩:=ev_ns h e3
  have hy:=ev_it h e4
  obtain⟨q,rfl⟩:=Int.eq_ofNat_of_zero_le (Int.le_of_lt hn0)
  simp only[Int.toNat_natCast] at hb ⊢
  rw[zci hi] at hcs
  rw[bytesOf_info hi] at hby
  subst hcs hby
  have hq0:0<q:=by omega
  have hfc:(Builtin.firstCells i.size 0 (.slice A 0 0)).run P w.drew = .ok ([]:List Value).toArray w.drew:=by
   cases A<;>simp [Builtin.firstCells,loadCells,loadCellsFrom]
  have hr:=Go.Lib.run_append_grow_zeros w t t' o.type e i z k kt hu (tyq_int e2) hi hzero A 0 0 [] hfc q hq0 hpos (by omega) (by simpa using hmax) (by omega) (by
   exact growslice_fits (need:=0+q) (old:=0) (by omega) (by simpa using hb))
  have hge:=grownCap_ge w q 0 e
  have hcap:=grownCap_le_maxLen w q 0 e (by simp only[maxLen];omega)
  have hzc:z.cells.size=i.size:=by rw[zci hi] at hzl;rw[← hzl,← hcells];simp
  have hzl':zv.length=i.size:=by rw[hzl,zci hi]
  have hdr:SR C p s a w.drew:=h.below (w':=w.drew) ((Below.refl _ _).drew) (fun _ h=>h) (fun _ h=>.inl h) h.rb
  have hzlist:(Builtin.zeroCells z.cells q).toList=(List.replicate q zv).flatten:=by
   show (madeCells z.cells (q*z.cells.size)).toList=_
   rw[madeCells_list,hcells]
  have hn:=hdr.newRow (o.dst.getD 0) hd0 (.arr e i.size (List.replicate q ez)) rfl (grownCap w q 0 e) hcap (.cells (Builtin.zeroCells z.cells q++Builtin.zeroCells z.cells (grownCap w q 0 e-q)) e) (fun p' ver' _ hβ hγ hk=>by
   simp only[zrl];rw[hγ]
   refine .inr ⟨_,_,hβ,heap_alloc_new w.drew _,?_,by simpa using hge,?_⟩
   ·rw[Array.size_append,size_zero,size_zero,hzc,← Nat.add_mul]
    congr 1;omega
   ·refine relE_of_vals (us:=(List.replicate q zv).flatten) (fun e he=>by rw[List.eq_of_mem_replicate he,hez,List.length_map,hzl']) ?_ ?_ (fun j u hj=>?_)
    ·rw[hez]
     exact relV_rep _ _ zv q
    ·intro u hu
     obtain⟨l,hl,hul⟩:=List.mem_flatten.1 hu
     rw[List.eq_of_mem_replicate hl] at hul
     exact hz1 u hul
    ·rw[add_at]
     simp only[Nat.zero_add,World.cell?_alloc_new]
     rw[Array.getElem?_append_left (by rw[← Array.length_toList,hzlist];exact (List.getElem?_eq_some_iff.1 hj).1),← Array.getElem?_toList,hzlist]
     exact hj)
  refine⟨_,.slice (some ⟨w.heap.size,0,none⟩) q (grownCap w q 0 e),_,_,?_,.inl rfl,trivial,by rw[zro];exact hn,?_⟩
  ·refine run_builtin_of ho ?_
   simp only[builtin,Sem.run_bind,List.map_toArray,List.map_cons,List.map_nil,hv,hy,hr,Result.andThen_ok,Sem.run_pure]
   simp
  ·rw[zro]
   simp only[AV.rel,vers,zus];exact⟨Nat.le_refl _,fun _=>.inr ⟨_,_,rfl,by simp;rfl,by simpa using hge,fun _=>by simp⟩⟩
 ·exact hp.elim
theorem good_cap {x:Operand}{t:TypeId}(h:SR C p s a w) (ho:o.op = .call ⟨.builtin .cap,#[x],#[t]⟩) (hp:(sCap P t (s.ev x)).pre):Done P C o s a w (sCap P t (s.ev x)):=by
 unfold sCap at hp ⊢
 split at hp
 ·rename_i e esz eb ez _ _ _ e1 e2
  obtain⟨hu,_⟩:=tyq_slice e1
  obtain⟨A,hv⟩:=ev_ns h e2
  refine done_v h (v:=.int .i64 0) (run_builtin_of ho ?_) (by simp [AV.rel,RV.rel])
  simp [builtin,Builtin.cap_,run_underlying hu,hv,goInt]
 ·exact hp.elim
theorem good_clear {x:Operand}{t:TypeId}(h:SR C p s a w) (ho:o.op = .call ⟨.builtin .clear,#[x],#[t]⟩) (hp:(sClear P s t (s.ev x)).pre):Done P C o s a w (sClear P s t (s.ev x)):=by
 unfold sClear at hp ⊢
 split at hp
 ·rename_i e esz eb zr _ _ _ k n sz off m e1 e2
  split at hp
  ·rename_i n' e' sz' es e5
   obtain⟨hn,h1,h2,h3,he',hm,hle⟩:n=n'∧esz=1∧sz=1∧sz'=1∧e'=e∧0<m∧off+m≤es.length:=hp
   subst hn h1 h2 h3 he'
   have hn2:n=(s.rows k).ver:=by rw[e5]
   obtain⟨hu,hok,hco,hby,zv,hzv,hez⟩:=tyq_slice e1
   obtain⟨i,z,hi,hzero,hcells,hz1,hzl⟩:=zeroOf_spec hzv
   obtain⟨u,hu1,hur⟩:∃ u,zv=[u]∧zr=RV.ofV1 u:=by
    match zv,hez with
    | [u],hez=>simp at hez;exact⟨u,rfl,hez⟩
   subst hu1
   have hu1:u.oneCell'=true:=hz1 u (by simp)
   rcases ev_os h e2 (by rw[hn2];rfl) with⟨_,_,_,rfl,A,hv⟩|⟨b,A,hβ,hv,hle2,hA⟩
   ·omega
   ·obtain rfl:=hA (.inl hm)
    obtain⟨cells,hh,hfit,hset⟩:=set_row (m:=off) (ns:=List.replicate m [zr]) (vs:=List.replicate m u) h (by rw[e5]) hβ (by simpa using hle) (by simp) (fun x hx=>by rw[List.eq_of_mem_replicate hx];rfl) (by
     rw[hur]
     clear hle hm hv hle2 hA e2
     induction m with
     | zero=>simp [RV.relV]
     | succ m ih=>simp only[List.replicate_succ,List.flatten_cons,List.singleton_append,RV.relV];exact⟨u,_,rfl,RV.rel_ofV1 w p.R u,ih⟩) (fun x hx=>by rw[List.eq_of_mem_replicate hx];exact hu1)
    simp only[List.length_replicate,Nat.mul_one] at hset hfit
    have hst:=run_storeCells_at P b off e' (List.replicate m u) 0 cells w hh (by simpa using hfit) (fun x hx=>by rw[List.eq_of_mem_replicate hx];exact hu1)
    have hzlist:(Builtin.zeroCells z.cells m).toList=List.replicate m u:=by
     show (madeCells z.cells (m*z.cells.size)).toList=_
     rw[madeCells_list,hcells]
     clear hle hm hv hle2 hA e2 hset hfit hst
     induction m with
     | zero=>rfl
     | succ m ih=>simp only[List.replicate_succ,List.flatten_cons,List.singleton_append,ih]
    have hrun:(Builtin.clear_ #[t] o.type #[.slice (some ⟨b,off*1,none⟩) m (p.γ k-off)]).run P w = .ok (.tuple #[]) (w.setRow b (cells.toList.take off++List.replicate m u++cells.toList.drop (off+m)).toArray):=by
     obtain⟨q,rfl⟩:∃ q,m=q+1:=⟨m-1,by omega⟩
     have hz0:(zeroValue e').run P w = .ok z w:=by simp [zeroValue,typeInfo,hi,hzero]
     simp only[Nat.mul_one,Nat.add_zero,List.length_replicate] at hst ⊢
     simp [Builtin.clear_,run_underlying hu,hz0,hzlist,hst]
    have hn3:(s.rows k).ver=n:=hn2.symm
    rw[hn3] at hset
    refine⟨.value (.tuple #[]),.tuple #[],w.setRow b (cells.toList.take off++List.replicate m u++cells.toList.drop (off+m)).toArray,p,run_builtin_of ho (by simp only[builtin,Sem.run_bind,List.map_toArray,List.map_cons,List.map_nil,hv,hrun,Result.andThen_ok,Sem.run_pure]),.inl rfl,trivial,by rw[zro];simpa using hset,AV.rel_un _ _ _ _⟩
  ·exact hp.elim
 ·exact hp.elim
theorem step_sound (h:SR C p s a w) (hp:(step P o s).pre):Done P C o s a w (step P o s):=by
 unfold step at hp ⊢
 split at hp
 ·rename_i e;exact good_move h e
 ·rename_i e;exact good_assign h e
 ·rename_i e;exact good_pick h e hp
 ·rename_i e;exact good_bin h e hp
 ·rename_i e;exact good_un h e hp
 ·rename_i e;exact good_conv h e hp
 ·rename_i e;exact good_load h e hp
 ·rename_i e;exact good_store h e hp
 ·rename_i e;exact good_box h e hp
 ·rename_i e;exact good_alloc h e hp
 ·rename_i e;exact good_field h e hp
 ·rename_i e;exact good_fieldV h e hp
 ·rename_i e;exact good_index h e hp
 ·rename_i e;exact good_indexV h e hp
 ·rename_i e;exact good_slice h e hp
 ·rename_i e;exact good_build h e hp
 ·rename_i e;exact good_buildSlice h e hp
 ·rename_i e;exact good_makeSlice h e hp
 ·rename_i e;exact good_makeFunc h e hp
 ·rename_i e;exact good_extract h e hp
 ·rename_i e;exact good_nil h e hp
 ·rename_i e;exact good_makeMap h e hp
 ·rename_i e;exact good_lookup h e hp
 ·rename_i e;exact good_mapUpdate h e hp
 ·rename_i e;exact good_mapEntry h e hp
 ·rename_i e;exact good_entryStore h e hp
 ·rename_i e;exact good_range h e hp
 ·rename_i e;exact good_entry h e hp
 ·rename_i b args ts e
  unfold sBuiltin at hp ⊢
  split at hp
  ·rename_i t x e2 e3
   obtain⟨x',hx,hxe⟩:=arr1 e3
   obtain rfl:ts = #[t]:=by cases ts;simpa using e2
   subst hx hxe
   exact good_len h e hp
  ·exact good_min h e hp
  ·exact good_max h e hp
  ·rename_i t t' x y e2 e3
   obtain⟨x',y',hx,hxe,hye⟩:=arr2 e3
   obtain rfl:ts = #[t,t']:=by cases ts;simpa using e2
   subst hx hxe hye
   by_cases htt:t=t'
   ·rw[if_pos htt] at hp ⊢;exact good_append h e hp
   ·rw[if_neg htt] at hp ⊢;exact good_appendZ h e hp
  ·rename_i t x e2 e3
   obtain⟨x',hx,hxe⟩:=arr1 e3
   obtain rfl:ts = #[t]:=by cases ts;simpa using e2
   subst hx hxe
   exact good_cap h e hp
  ·rename_i t x e2 e3
   obtain⟨x',hx,hxe⟩:=arr1 e3
   obtain rfl:ts = #[t]:=by cases ts;simpa using e2
   subst hx hxe
   exact good_clear h e hp
  ·exact hp.elim
 ·exact hp.elim
end
end Go.Oc

namespace Go.Oc
open Go Go.RowKit
def callable (P:Program) (f:FuncId):Bool :=
 match P.funcs[f]? with
 | some fn=>fn.body.isSome && fn.name != "runtime.NumGoroutine"
 | none=>false
def ACalls (P:Program) (f:FuncId) (args:List RV) (r:RV):Prop :=
 callable P f=true∧∀ (w:World) (R:Nat→Prop) (vs:Array Value),(∀ b,R b→b<w.heap.size)→RV.relV w R args vs.toList →
  Calls P f vs w fun e w'=>∃ v R',e = .returned v∧Below w.heap.size w w'∧(∀ b,R b→R' b)∧(∀ b,R' b→R b∨w.heap.size≤b)∧(∀ b,R' b→b<w'.heap.size)∧r.rel w' R' v
def snap1V (rows:Nat→Row):AV→RV
 | .r v=>v
 | .os k _ sz off m=>match (rows k).c with | .arr _ _ es=>.sl sz ((es.drop off).take m) | .arc _ _ es _=>.sl sz ((es.drop off).take m)|_=>.un
 | _=>.un
def snap1P (rows:Nat→Row):AV→Prop
 | .r _=>True
 | .os k n sz off m=>n=(rows k).ver∧match (rows k).c with | .arr _ sz' es=>sz=sz'∧off+m≤es.length | .arc _ sz' es _=>sz=sz'∧off+m≤es.length|_=>False
 | _=>True
def snap1PL (rows:Nat→Row):List AV→Prop
 | []=>True
 | x::xs=>snap1P rows x∧snap1PL rows xs
mutual
def snapV (rows:Nat→Row):AV→RV
 | .r v=>v
 | .os k _ sz off m=>match (rows k).c with | .arr _ _ es=>.sl sz ((es.drop off).take m) | .arc _ _ es _=>.sl sz ((es.drop off).take m) | .ara _ _ cs=>.sl 1 (((cs.drop off).take m).map fun c=>[snap1V rows c])|_=>.un
 | .pt k _ off=>match (rows k).c with | .box cs=>.rp ((cs.drop off).map (snap1V rows))|_=>.un
 | .pe k _ _ idx off=>match (rows k).c with | .arr _ _ es=>.rp ((es.getD idx []).drop off)|_=>.un
 | .fn f cs=>.fn f (snapVL rows cs)
 | .ag cs=>.ag (snapVL rows cs)
 | .tu cs=>.tu (snapVL rows cs)
 | .mp _ _=>.un
 | .mi _ _=>.un
 | .pu _ _ u=>.vl u
def snapVL (rows:Nat→Row):List AV→List RV
 | []=>[]
 | x::xs=>snapV rows x::snapVL rows xs
end
mutual
def snapP (rows:Nat→Row):AV→Prop
 | .r _=>True
 | .os k n sz off m=>n=(rows k).ver∧match (rows k).c with | .arr _ sz' es=>sz=sz'∧off+m≤es.length | .arc _ sz' es _=>sz=sz'∧off+m≤es.length | .ara _ _ cs=>sz=1∧off+m≤cs.length∧snap1PL rows ((cs.drop off).take m)|_=>False
 | .pt k n off=>n=(rows k).ver∧match (rows k).c with | .box cs=>snap1PL rows (cs.drop off)|_=>False
 | .pe k n sz idx _=>n=(rows k).ver∧match (rows k).c with | .arr _ sz' es=>sz=sz'∧idx<es.length|_=>False
 | .fn _ cs=>snapPL rows cs
 | .ag cs=>snapPL rows cs
 | .tu cs=>snapPL rows cs
 | .mp _ _=>False
 | .mi _ _=>False
 | .pu _ _ _=>True
def snapPL (rows:Nat→Row):List AV→Prop
 | []=>True
 | x::xs=>snapP rows x∧snapPL rows xs
end
mutual
def AV.pure:AV→Bool
 | .r _=>true
 | .pu _ _ _=>true
 | .fn _ cs=>AV.pureL cs
 | .ag cs=>AV.pureL cs
 | .tu cs=>AV.pureL cs
 | _=>false
def AV.pureL:List AV→Bool
 | []=>true
 | x::xs=>x.pure&&AV.pureL xs
end
mutual
def RV.flatB:RV→Bool
 | .bo _ | .it _ _ | .np | .nf | .st _ | .ud | .nz=>true
 | .ag cs=>RV.flatL cs
 | .tu cs=>RV.flatL cs
 | .ns=>true
 | .sl _ []=>true
 | _=>false
def RV.flatL:List RV→Bool
 | []=>true
 | x::xs=>x.flatB&&RV.flatL xs
end
mutual
def RV.le:RV→RV→Prop
 | x,.sl sz es=>x = .sl sz es∨(x = .ns∧es=[])
 | .ag xs,.ag ys=>RV.leL xs ys
 | .fn f xs,.fn g ys=>f=g∧RV.leL xs ys
 | .rp xs,.rp ys=>RV.leL xs ys
 | x,y=>x=y
def RV.leL:List RV→List RV→Prop
 | [],[]=>True
 | x::xs,y::ys=>RV.le x y∧RV.leL xs ys
 | _,_=>False
end
section
variable {w:World}{R R':Nat→Prop}
mutual
theorem flat_rel:∀ (x:RV) (v:Value),x.flatB=true→x.rel w R v→x.rel w R' v
 | .bo _,_,_,h=>by simpa only[RV.rel] using h
 | .it _ _,_,_,h=>by simpa only[RV.rel] using h
 | .np,_,_,h=>by simpa only[RV.rel] using h
 | .nf,_,_,h=>by simpa only[RV.rel] using h
 | .nz,_,_,h=>by simpa only[RV.rel] using h
 | .st _,_,_,h=>by simpa only[RV.rel] using h
 | .ud,_,_,h=>by simpa only[RV.rel] using h
 | .ag cs, v, hf, h=>by
   simp only[RV.flatB] at hf
   simp only[RV.rel] at h ⊢
   obtain⟨vs,e,h1,hV⟩:=h
   exact⟨vs,e,h1,flat_relV cs _ hf hV⟩
 | .tu cs, v, hf, h=>by
   simp only[RV.flatB] at hf
   simp only[RV.rel] at h ⊢
   obtain⟨vs,e,hV⟩:=h
   exact⟨vs,e,flat_relV cs _ hf hV⟩
 | .un,_,_,_=>by simp only[RV.rel]
 | .ns,_,_,h=>by simpa only[RV.rel] using h
 | .sl _ [], _, _, h=>by
   simp only[RV.rel] at h ⊢
   obtain⟨A,c,e,h1,h2,_⟩:=h
   exact⟨A,c,e,h1,h2,fun hn=>absurd rfl hn⟩
 | .sl _ (_::_),_,hf,_=>by simp [RV.flatB] at hf
 | .rp _,_,hf,_=>by simp [RV.flatB] at hf
 | .fn _ _,_,hf,_=>by simp [RV.flatB] at hf
theorem flat_relV:∀ (xs:List RV) (vs:List Value),RV.flatL xs=true→RV.relV w R xs vs→RV.relV w R' xs vs
 | [],_,_,h=>by simpa only[RV.relV] using h
 | x::xs, vs, hf, h=>by
   simp only[RV.flatL,Bool.and_eq_true] at hf
   simp only[RV.relV] at h ⊢
   obtain⟨u,us,e,h1,h2⟩:=h
   exact⟨u,us,e,flat_rel x u hf.1 h1,flat_relV xs us hf.2 h2⟩
end
theorem le_sl {sz:Nat}{es:List (List RV)}{x:RV}{v:Value}(hx:x = .sl sz es∨(x = .ns∧es=[])) (h:x.rel w R v):(RV.sl sz es).rel w R v:=by
 rcases hx with rfl|⟨rfl,rfl⟩
 ·exact h
 ·simp only[RV.rel] at h ⊢
  obtain⟨A,rfl⟩:=h
  exact⟨A,0,rfl,Nat.le_refl _,Nat.zero_le _,fun h=>absurd rfl h⟩
mutual
theorem le_rel:∀ (x y:RV) (v:Value),RV.le x y→x.rel w R v→y.rel w R v:=fun x y v hle h=>by
 cases y with
 | sl sz es=>exact le_sl (by cases x<;>simpa only[RV.le] using hle) h
 | ag ys =>
   cases x with
   | ag xs =>
     simp only[RV.le] at hle
     simp only[RV.rel] at h ⊢
     obtain⟨vs,e,h1,hV⟩:=h
     exact⟨vs,e,h1,le_relV xs ys _ hle hV⟩
   | _=>simp [RV.le] at hle
 | fn g ys =>
   cases x with
   | fn f xs =>
     simp only[RV.le] at hle
     simp only[RV.rel] at h ⊢
     obtain⟨vs,e,hV⟩:=h
     exact⟨vs,by rw[← hle.1];exact e,le_relV xs ys _ hle.2 hV⟩
   | _=>simp [RV.le] at hle
 | rp ys =>
   cases x with
   | rp xs =>
     simp only[RV.le] at hle
     simp only[RV.rel] at h ⊢
     obtain⟨ad,e,hR,hC⟩:=h
     exact⟨ad,e,hR,le_relC xs ys _ _ hle hC⟩
   | _=>simp [RV.le] at hle
 | _ =>
   have he:=hle
   cases x<;>simp only[RV.le,reduceCtorEq] at he<;>first|exact h|(rw[← he];exact h)
theorem le_relV:∀ (xs ys:List RV) (vs:List Value),RV.leL xs ys→RV.relV w R xs vs→RV.relV w R ys vs
 | [],[],_,_,h=>h
 | x::xs, y::ys, vs, hle, h=>by
   simp only[RV.leL] at hle
   simp only[RV.relV] at h ⊢
   obtain⟨u,us,e,h1,h2⟩:=h
   exact⟨u,us,e,le_rel x y u hle.1 h1,le_relV xs ys us hle.2 h2⟩
 | [],_::_,_,hle,_=>by simp [RV.leL] at hle
 | _::_,[],_,hle,_=>by simp [RV.leL] at hle
theorem le_relC:∀ (xs ys:List RV) (ad:Addr) (j:Nat),RV.leL xs ys→RV.relC w R xs ad j→RV.relC w R ys ad j
 | [],[],_,_,_,h=>h
 | x::xs, y::ys, ad, j, hle, h=>by
   simp only[RV.leL] at hle
   simp only[RV.relC] at h ⊢
   obtain⟨⟨u,hu,ho,h1⟩,h2⟩:=h
   exact⟨⟨u,hu,ho,le_rel x y u hle.1 h1⟩,le_relC xs ys ad (j+1) hle.2 h2⟩
 | [],_::_,_,_,hle,_=>by simp [RV.leL] at hle
 | _::_,[],_,_,hle,_=>by simp [RV.leL] at hle
end
end
end Go.Oc

namespace Go.Oc
open Go Go.RowKit
def Plan.all (p:Plan):Nat→Prop:=fun b=>p.R b∨∃ k,p.β k=some b
section
variable {P:Program}{C:Ctx}{p:Plan}{s:AS}{a:Act}{w w':World}{o:Oper}
theorem snap_os (h:SR C p s a w) {k n sz off m:Nat}{v:Value}(hn:n=s.ver k) (hc:match (s.rows k).c with | .arr _ sz' es=>sz=sz'∧off+m≤es.length | .arc _ sz' es _=>sz=sz'∧off+m≤es.length|_=>False)
 (hv:(AV.os k n sz off m).rel w p s.ver v) {R':Nat→Prop}(hR:∀ b,p.R b→R' b) (hR2:∀ b,p.β k=some b→R' b):(match (s.rows k).c with | .arr _ _ es=>RV.sl sz ((es.drop off).take m) | .arc _ _ es _=>RV.sl sz ((es.drop off).take m)|_=>.un).rel w R' v:=by
 have hrow:=h.rw k
 split at hc
 ·rename_i t sz' es e
  obtain⟨rfl,hle⟩:=hc
  rw[e] at hrow
  simp only[AV.rel] at hv
  simp only[zrl] at hrow
  have hlen:((es.drop off).take m).length=m:=by simp;omega
  rcases hv.2 hn with⟨hβ,hγ,h0,hm,A,rfl⟩|⟨b,A,hβ,rfl,hle2,hA⟩
  ·subst hm
   simp only[RV.rel];exact⟨A,0,by simp,by simp,Nat.zero_le _,fun hn=>absurd (by simp) hn⟩
  ·simp only[RV.rel]
   refine⟨A,p.γ k-off,by rw[hlen],by rw[hlen];omega,by have:=h.cap k;omega,fun hne=>?_⟩
   have hm:0<m:=by
    rcases Nat.eq_zero_or_pos m with h0|h0
    ·exact absurd (by rw[h0];simp) hne
    ·exact h0
   refine⟨_,hA (.inl hm),hR2 _ hβ,?_⟩
   rcases hrow with⟨hb,_⟩|⟨b',cells,hβ',hh,hcs,hle3,hE⟩
   ·rw[hb] at hβ;cases hβ
   ·rw[hβ] at hβ'
    injection hβ' with hβ'
    subst hβ'
    have hE2:=relE_cut hE off (off+m)
    rw[add_at,Nat.zero_add,List.take_drop.symm] at hE2
    exact RV.relE_mono hR (fun _ _=>rfl) _ _ _ _ (fun _=>rfl) hE2
 ·rename_i t sz' es c0 e
  obtain⟨rfl,hle⟩:=hc
  rw[e] at hrow
  simp only[AV.rel] at hv
  simp only[zrl] at hrow
  have hlen:((es.drop off).take m).length=m:=by simp;omega
  obtain⟨b',cells,hβ',hh,hγ',hcs,hle3,hE⟩:=hrow
  rcases hv.2 hn with⟨hβ,hγ,h0,hm,A,rfl⟩|⟨b,A,hβ,rfl,hle2,hA⟩
  ·rw[hβ] at hβ';cases hβ'
  ·simp only[RV.rel]
   refine⟨A,p.γ k-off,by rw[hlen],by rw[hlen];omega,by have:=h.cap k;omega,fun hne=>?_⟩
   have hm:0<m:=by
    rcases Nat.eq_zero_or_pos m with h0|h0
    ·exact absurd (by rw[h0];simp) hne
    ·exact h0
   refine⟨_,hA (.inl hm),hR2 _ hβ,?_⟩
   rw[hβ] at hβ'
   injection hβ' with hβ'
   subst hβ'
   have hE2:=relE_cut hE off (off+m)
   rw[add_at,Nat.zero_add,List.take_drop.symm] at hE2
   exact RV.relE_mono hR (fun _ _=>rfl) _ _ _ _ (fun _=>rfl) hE2
 ·exact hc.elim
theorem snap1_rel (h:SR C p s a w) {x:AV}{v:Value}(hp:snap1P s.rows x) (hv:x.rel w p s.ver v):(snap1V s.rows x).rel w p.all v:=by
 cases x with
 | r x=>simp only[AV.rel] at hv;exact RV.rel_mono (fun _ h=>.inl h) (fun _ _=>rfl) _ _ hv
 | os k n sz off m=>exact snap_os h hp.1 hp.2 hv (fun _ h=>.inl h) (fun b hb=>.inr ⟨_,hb⟩)
 | _=>simp only[snap1V,RV.rel]
theorem snap1L_rel (h:SR C p s a w) {b:Nat}{cells:Array Value}{ty:TypeId}(hh:w.heap[b]? = some (.cells cells ty (0,0))) (h1:∀ u∈cells.toList,u.oneCell'=true) :
 ∀ (cs:List AV) (us:List Value) (off:Nat),(∀ i u,us[i]? = some u→cells[off+i]? = some u)→snap1PL s.rows cs→AV.relV w p s.ver cs us→∀ j,RV.relC w p.all (cs.map (snap1V s.rows)) ⟨b,off-j,none⟩ j∨off<j
 | [],_,_,_,_,_,_=>by simp [RV.relC]
 | c::cs, us, off, hget, hp, hV, j=>by
   by_cases hj:off<j
   ·exact .inr hj
   simp only[snap1PL] at hp
   simp only[AV.relV] at hV
   obtain⟨u,us,rfl,hu,hV⟩:=hV
   refine .inl ?_
   simp only[List.map_cons,RV.relC]
   have hc0:cells[off]? = some u:=by simpa using hget 0 u (by simp)
   refine⟨⟨u,?_,h1 u (by simpa using List.mem_of_getElem? (by simpa using hc0:cells.toList[off]? = some u)),snap1_rel h hp.1 hu⟩,?_⟩
   ·rw[add_at,show off-j+j=off by omega,cell_of_row w b off cells ty (0,0) hh];exact hc0
   ·have:=snap1L_rel h hh h1 cs us (off+1) (fun i u hi=>by
     have:=hget (i+1) u (by simpa using hi)
     rwa [show off+1+i=off+(i+1) by omega]) hp.2 hV (j+1)
    rcases this with h2|h2
    ·rwa [show off+1-(j+1)=off-j by omega] at h2
    ·omega
theorem snap1L_rel' (h:SR C p s a w) {b:Nat}{cells:Array Value}{ty:TypeId}(hh:w.heap[b]? = some (.cells cells ty (0,0))) :
 ∀ (cs:List AV) (us:List Value) (off:Nat),(∀ i u,us[i]? = some u→cells[off+i]? = some u)→(∀ u∈us,u.oneCell'=true)→snap1PL s.rows cs→AV.relV w p s.ver cs us→∀ j,RV.relC w p.all (cs.map (snap1V s.rows)) ⟨b,off-j,none⟩ j∨off<j
 | [],_,_,_,_,_,_,_=>by simp [RV.relC]
 | c::cs, us, off, hget, h1, hp, hV, j=>by
   by_cases hj:off<j
   ·exact .inr hj
   simp only[snap1PL] at hp
   simp only[AV.relV] at hV
   obtain⟨u,us,rfl,hu,hV⟩:=hV
   refine .inl ?_
   simp only[List.map_cons,RV.relC]
   have hc0:cells[off]? = some u:=by simpa using hget 0 u (by simp)
   refine⟨⟨u,?_,h1 u (by simp),snap1_rel h hp.1 hu⟩,?_⟩
   ·rw[add_at,show off-j+j=off by omega,cell_of_row w b off cells ty (0,0) hh];exact hc0
   ·have:=snap1L_rel' h hh cs us (off+1) (fun i u hi=>by
     have:=hget (i+1) u (by simpa using hi)
     rwa [show off+1+i=off+(i+1) by omega]) (fun x hx=>h1 x (by simp [hx])) hp.2 hV (j+1)
    rcases this with h2|h2
    ·rwa [show off+1-(j+1)=off-j by omega] at h2
    ·omega
theorem relE_one {w:World}{R:Nat→Prop}:∀ (cs:List RV) (ad:Addr) (j:Nat),RV.relC w R cs ad j→RV.relE w R 1 (cs.map fun c=>[c]) ad j
 | [],_,_,_=>by simp [RV.relE]
 | c::cs, ad, j, h=>by
   simp only[RV.relC] at h
   simp only[List.map_cons,RV.relE,RV.relC,List.length_singleton,true_and,and_true];exact⟨h.1,relE_one cs ad (j+1) h.2⟩
theorem osP {rows:Nat→Row}{k sz off m:Nat}(h:match (rows k).c with | .arr _ sz' es=>sz=sz'∧off+m≤es.length | .arc _ sz' es _=>sz=sz'∧off+m≤es.length|_=>False) :
 match (rows k).c with | .arr _ sz' es=>sz=sz'∧off+m≤es.length | .arc _ sz' es _=>sz=sz'∧off+m≤es.length | .ara _ _ cs=>sz=1∧off+m≤cs.length∧snap1PL rows ((cs.drop off).take m)|_=>False:=by
 generalize (rows k).c=c at h ⊢
 cases c<;>first|exact h|exact h.elim
theorem snap_osB (h:SR C p s a w) {k n off m ty sz:Nat}{v:Value}{cs:List AV}(hn:n=s.ver k) (e:(s.rows k).c = .ara ty sz cs) (hle:off+m≤cs.length) (hs:snap1PL s.rows ((cs.drop off).take m))
 (hv:(AV.os k n 1 off m).rel w p s.ver v):(RV.sl 1 (((cs.drop off).take m).map fun c=>[snap1V s.rows c])).rel w p.all v:=by
 have hrow:=h.rw k
 rw[e] at hrow
 simp only[zrl] at hrow
 obtain⟨b',cells,hβ',hh,_,l,rest,hl,hV,h1⟩:=hrow
 simp only[AV.rel] at hv
 have hlen:(((cs.drop off).take m).map fun c=>[snap1V s.rows c]).length=m:=by simp;omega
 rcases hv.2 hn with⟨hβ,_⟩|⟨b,A,hβ,rfl,hle2,hA⟩
 ·rw[hβ] at hβ';cases hβ'
 ·rw[hβ] at hβ'
  injection hβ' with hβ'
  subst hβ'
  simp only[RV.rel]
  refine⟨A,p.γ k-off,by rw[hlen],by rw[hlen];omega,by have:=h.cap k;omega,fun hne=>?_⟩
  have hm:0<m:=by
   rcases Nat.eq_zero_or_pos m with h0|h0
   ·exact absurd (by rw[h0];simp) hne
   ·exact h0
  refine⟨_,hA (.inl hm),.inr ⟨k,hβ⟩,?_⟩
  rw[Nat.mul_one]
  have:=snap1L_rel' h hh ((cs.drop off).take m) ((l.drop off).take m) off (fun i u hi=>by
   rw[List.getElem?_take] at hi
   split at hi
   ·rw[List.getElem?_drop] at hi
    rw[← Array.getElem?_toList,hl,List.getElem?_append_left (List.getElem?_eq_some_iff.1 hi).1]
    exact hi
   ·cases hi) (fun u hu=>h1 u (List.mem_of_mem_drop (List.mem_of_mem_take hu))) hs (AV.relV_take m (AV.relV_drop off hV)) 0
  rcases this with h2|h2
  ·have:=relE_one _ _ _ (by simpa using h2:RV.relC w p.all (((cs.drop off).take m).map (snap1V s.rows)) ⟨b,off,none⟩ 0)
   rwa [List.map_map] at this
  ·omega
mutual
theorem snap_rel (h:SR C p s a w):∀ (x:AV) (v:Value),snapP s.rows x→x.rel w p s.ver v→(snapV s.rows x).rel w p.all v
 | .r x,v,_,hv=>by simp only[AV.rel] at hv;simp only[snapV];exact RV.rel_mono (fun _ h=>.inl h) (fun _ _=>rfl) _ _ hv
 | .os k n sz off m, v, hp, hv=>by
   simp only[snapP] at hp
   simp only[snapV]
   obtain⟨hp1,hp2⟩:=hp
   cases e:(s.rows k).c with
   | ara ty2 sz2 cs =>
     rw[e] at hp2
     obtain⟨rfl,q1,q2⟩:=hp2
     exact snap_osB h hp1 e q1 q2 hv
   | arr t2 sz2 es2 =>
     have:=snap_os (R':=p.all) h hp1 (by rw[e] at hp2 ⊢;exact hp2) hv (fun _ h=>.inl h) (fun b hb=>.inr ⟨_,hb⟩)
     rwa [e] at this
   | arc t2 sz2 es2 c2 =>
     have:=snap_os (R':=p.all) h hp1 (by rw[e] at hp2 ⊢;exact hp2) hv (fun _ h=>.inl h) (fun b hb=>.inr ⟨_,hb⟩)
     rwa [e] at this
   | _=>rw[e] at hp2;exact hp2.elim
 | .pt k n off, v, hp, hv=>by
   simp only[snapP] at hp
   simp only[snapV]
   have hrow:=h.rw k
   obtain⟨hn,hc⟩:=hp
   split at hc
   ·rename_i cs e
    rw[e] at hrow
    simp only[zrl] at hrow
    obtain⟨b,cells,ty,hβ,hh,hV,h1⟩:=hrow
    simp only[AV.rel] at hv
    obtain⟨b',hβ',rfl⟩:=hv.2 hn
    rw[hβ] at hβ'
    injection hβ' with hβ'
    subst hβ'
    simp only[RV.rel]
    refine⟨_,rfl,.inr ⟨k,hβ⟩,?_⟩
    have:=snap1L_rel h hh h1 (cs.drop off) (cells.toList.drop off) off (fun i u hi=>by rw[List.getElem?_drop] at hi;simpa using hi) hc (AV.relV_drop off hV) 0
    rcases this with h2|h2
    ·simpa using h2
    ·omega
   ·exact hc.elim
 | .pe k n sz idx off, v, hp, hv=>by
   simp only[snapP] at hp
   simp only[snapV]
   have hrow:=h.rw k
   obtain⟨hn,hc⟩:=hp
   split at hc
   ·rename_i t sz' es e
    obtain⟨rfl,hidx⟩:=hc
    rw[e] at hrow
    simp only[zrl] at hrow
    simp only[AV.rel] at hv
    obtain⟨b',hβ',rfl⟩:=hv.2 hn
    rcases hrow with⟨hb,_⟩|⟨b,cells,hβ,hh,hcs,hle3,hE⟩
    ·rw[hb] at hβ';cases hβ'
    ·rw[hβ] at hβ'
     injection hβ' with hβ'
     subst hβ'
     simp only[RV.rel]
     refine⟨_,rfl,.inr ⟨k,hβ⟩,?_⟩
     have hx:es[idx]? = some (es.getD idx []):=by simp [List.getD,hidx]
     have h1:=RV.relC_base (j:=0) (idx*sz) (by simpa using (RV.relE_get hE hx).2)
     have h2:=RV.relC_drop off h1
     rw[add_at,add_at,Nat.zero_add] at h2
     exact RV.relC_mono (fun _ h=>.inl h) (fun _ _=>rfl) _ _ _ (fun _=>rfl) h2
   ·exact hc.elim
 | .fn f cs, v, hp, hv=>by
   simp only[snapP] at hp
   simp only[AV.rel] at hv
   simp only[snapV,RV.rel]
   obtain⟨vs,e,hV⟩:=hv
   exact⟨vs,e,snap_relV h cs _ hp hV⟩
 | .ag cs, v, hp, hv=>by
   simp only[snapP] at hp
   simp only[AV.rel] at hv
   simp only[snapV,RV.rel]
   obtain⟨vs,e,h1,hV⟩:=hv
   exact⟨vs,e,h1,snap_relV h cs _ hp hV⟩
 | .tu cs, v, hp, hv=>by
   simp only[snapP] at hp
   simp only[AV.rel] at hv
   simp only[snapV,RV.rel]
   obtain⟨vs,e,hV⟩:=hv
   exact⟨vs,e,snap_relV h cs _ hp hV⟩
 | .mp _ _,_,hp,_=>by simp [snapP] at hp
 | .mi _ _,_,hp,_=>by simp [snapP] at hp
 | .pu _ _ _,_,_,hv=>by simp only[AV.rel] at hv;simp only[snapV,RV.rel];exact hv.1
theorem snap_relV (h:SR C p s a w):∀ (xs:List AV) (vs:List Value),snapPL s.rows xs→AV.relV w p s.ver xs vs→RV.relV w p.all (snapVL s.rows xs) vs
 | [],_,_,hV=>by simp only[AV.relV] at hV;simp only[snapVL,RV.relV];exact hV
 | x::xs, vs, hp, hV=>by
   simp only[snapPL] at hp
   simp only[AV.relV] at hV
   obtain⟨u,us,e,h1,h2⟩:=hV
   simp only[snapVL,RV.relV];exact⟨u,us,e,snap_rel h x u hp.1 h1,snap_relV h xs us hp.2 h2⟩
end
mutual
theorem pure_rel {rows:Nat→Row}{ver:Nat→Nat}:∀ (x:AV) (v:Value),x.pure=true→x.rel w p ver v→(snapV rows x).rel w p.R v
 | .r x,v,_,hv=>by simp only[AV.rel] at hv;simp only[snapV];exact hv
 | .pu _ _ _,v,hp,hv=>by simp only[AV.rel] at hv;simp only[snapV,RV.rel];exact hv.1
 | .fn f cs, v, hp, hv=>by
   simp only[AV.pure] at hp
   simp only[AV.rel] at hv
   simp only[snapV,RV.rel]
   obtain⟨vs,e,hV⟩:=hv
   exact⟨vs,e,pure_relV cs _ hp hV⟩
 | .ag cs, v, hp, hv=>by
   simp only[AV.pure] at hp
   simp only[AV.rel] at hv
   simp only[snapV,RV.rel]
   obtain⟨vs,e,h1,hV⟩:=hv
   exact⟨vs,e,h1,pure_relV cs _ hp hV⟩
 | .tu cs, v, hp, hv=>by
   simp only[AV.pure] at hp
   simp only[AV.rel] at hv
   simp only[snapV,RV.rel]
   obtain⟨vs,e,hV⟩:=hv
   exact⟨vs,e,pure_relV cs _ hp hV⟩
 | .os ..,_,hp,_=>by simp [AV.pure] at hp
 | .pt ..,_,hp,_=>by simp [AV.pure] at hp
 | .pe ..,_,hp,_=>by simp [AV.pure] at hp
 | .mp ..,_,hp,_=>by simp [AV.pure] at hp
 | .mi ..,_,hp,_=>by simp [AV.pure] at hp
theorem pure_relV {rows:Nat→Row}{ver:Nat→Nat}:∀ (xs:List AV) (vs:List Value),AV.pureL xs=true→AV.relV w p ver xs vs→RV.relV w p.R (snapVL rows xs) vs
 | [],_,_,hV=>by simp only[AV.relV] at hV;simp only[snapVL,RV.relV];exact hV
 | x::xs, vs, hp, hV=>by
   simp only[AV.pureL,Bool.and_eq_true] at hp
   simp only[AV.relV] at hV
   obtain⟨u,us,e,h1,h2⟩:=hV
   simp only[snapVL,RV.relV];exact⟨u,us,e,pure_rel x u hp.1 h1,pure_relV xs us hp.2 h2⟩
end
def callee? : AV→Option (FuncId × List AV)
 | .r (.fn f cs)=>some (f,cs.map .r)
 | .fn f cs=>some (f,cs)
 | _=>none
def ACallOk (P:Program) (s:AS) (f:AV) (xs:List AV) (r:RV):Prop :=
 ∃ F cs args',callee? f=some (F,cs)∧snapPL s.rows (xs++cs)∧RV.leL (snapVL s.rows (xs++cs)) args'∧ACalls P F args' r∧(r.flatB=true∨AV.pureL (xs++cs)=true)
mutual
def AV.nr (d nv:Nat):AV→Prop
 | .r _=>True
 | .pt k n _=>¬ (k=d∧n=nv)
 | .pe k n _ _ _=>¬ (k=d∧n=nv)
 | .os k n _ _ _=>¬ (k=d∧n=nv)
 | .mp k n=>¬ (k=d∧n=nv)
 | .mi k n=>¬ (k=d∧n=nv)
 | .pu k n _=>¬ (k=d∧n=nv)
 | .fn _ cs=>AV.nrL d nv cs
 | .ag cs=>AV.nrL d nv cs
 | .tu cs=>AV.nrL d nv cs
def AV.nrL (d nv:Nat):List AV→Prop
 | []=>True
 | x::xs=>AV.nr d nv x∧AV.nrL d nv xs
end
def CSound (P:Program) (s:AS) (f:AV) (xs:List AV) (r:RV):Prop :=
 ∀ (C:Ctx) (p:Plan) (a:Act) (w:World) (o:Oper) (g:Operand) (args:Array Operand) (ts:Array TypeId), SR C p s a w→o.op = .call ⟨.value g, args, ts⟩→s.ev g=f→args.toList.map s.ev=xs→(∀ t, o.dst=some t→t<s.n) →
   ∀ (K:Act→World→Prop) (Q:Exit→Act→World→Prop),(∀ a' w' p',SR C p' (s.app o.dst ⟨.r r,[]⟩) a' w'→K a' w')→o.wp P a w K Q
def BCallOk (P:Program) (s:AS) (f:AV) (xs:List AV) (r:RV):Prop :=
 ∃ D:Nat→Prop,(∀ k,D k→¬ AV.nrL k (s.ver k) (f::xs)∨∃ j cs,D j∧¬ AV.nrL j (s.ver j) (f::xs)∧(s.rows j).c = .box cs∧¬ AV.nrL k (s.ver k) cs)∧∀ s':AS,(∀ k,D k→s'.rows k=s.rows k)→CSound P s' f xs r
def vcall (o:Oper):Bool:=match o.op with | .call ⟨.value _,_,_⟩=>true|_=>false
def OCalls (P:Program) (f:FuncId) (args:List RV) (t sz:Nat) (es:List (List RV)) (m:Nat):Prop :=
 callable P f=true∧∀ (w:World) (R:Nat→Prop) (vs:Array Value),(∀ b,R b→b<w.heap.size)→RV.relV w R args vs.toList →
  Calls P f vs w fun e w'=>∃ v β g,e = .returned v∧Below w.heap.size w w'∧g≤maxLen∧(∀ b,β=some b→w.heap.size≤b∧b<w'.heap.size) ∧
   ((β=none∧es=[]∧g=0∧m=0∧∃ A, v = .slice A 0 0) ∨
     ∃ b cells A,β=some b∧w'.heap[b]? = some (.cells cells t (0,0))∧cells.size=g*sz∧es.length≤g∧RV.relE w' (fun _=>False) sz es ⟨b,0,none⟩ 0∧v = .slice A m g∧m≤g∧A=some ⟨b,0,none⟩)
def OCallY (P:Program) (s:AS) (d:Option Nat) (f:AV) (xs:List AV) (y:Yi):Prop :=
 ∃ F cs args t sz es m dd, callee? f=some (F, cs)∧snapPL s.rows (xs++cs)∧RV.leL (snapVL s.rows (xs++cs)) args∧OCalls P F args t sz es m∧d=some dd∧dd<1000 ∧
   y=⟨.os dd ((s.rows dd).ver+1) sz 0 m,[(dd,⟨(s.rows dd).ver+1,.arr t sz es⟩)]⟩
end
section
variable {C:Ctx}{p:Plan}{s:AS}{a:Act}{w:World}
theorem SR.publish (h:SR C p s a w) {b:Nat}(hb:b<w.heap.size) (hnew:C.w0.heap.size≤b∨C.own b) (hno:∀ k,p.β k≠some b) (hex:Ext C { p with R:=fun x=>p.R x∨x=b } a.defers w):SR C { p with R:=fun x=>p.R x∨x=b } s a w:=by
 have hk:Kept w w p { p with R:=fun x=>p.R x∨x=b } s.ver s.ver:=⟨fun _ h=>.inl h,fun _ _=>rfl,fun _=>Nat.le_refl _,fun _ _=>⟨rfl,rfl⟩⟩
 exact {
  base:=h.base
  r0:=fun b hr=>.inl (h.r0 b hr)
  rn:=fun x hr=>hr.elim (h.rn x) (fun e=>.inr (e▸hnew))
  rb:=fun x hr=>hr.elim (h.rb x) (fun e=>e▸hb)
  tm:=fun t=>AV.rel_mono hk _ _ (h.tm t)
  sz:=h.sz
  ex:=hex
  rw:=fun k=>rowRel_mono hk (.inr ⟨rfl,rfl,rfl,rfl,rfl,rfl,Nat.le_refl _,fun _ _=>rfl⟩) rfl rfl (fun _ _=>rfl) _ (fun _ _ _ _ _ _ _ _=>rfl) (h.rw k)
  bl:=fun k x hx=>⟨(h.bl k x hx).1,fun hr=>hr.elim (h.bl k x hx).2.1 (fun e=>hno k (e▸hx)),(h.bl k x hx).2.2⟩
  ij:=h.ij
  cap:=h.cap
  pn:=h.pn
  lk:=h.lk }
end
theorem Ext.publish {C:Ctx}{p:Plan}{ds:List Deferred}{w:World}(h:Ext C p ds w) {k b g:Nat}(hβ:p.β k=some b) :
 Ext C { p with β:=upd p.β k none,γ:=upd p.γ k g,R:=fun x=>p.R x∨x=b } ds w :=
 h.mono rfl rfl rfl (Nat.le_refl _) (fun j x hj=>by
  have hj':upd p.β k none j=some x:=hj
  by_cases e:j=k
  ·subst e;rw[zus] at hj';cases hj'
  ·rw[zuo _ _ e] at hj';exact .inl ⟨j,hj'⟩) (fun x hx=>by
  rcases hx with hx|rfl
  ·exact .inl hx
  ·exact .inr (.inl ⟨k,hβ⟩)) fun _ _ _=>rfl
theorem SR.freeze {C:Ctx}{p:Plan}{s:AS}{a:Act}{w:World}(hp:SR C p s a w) (t k v sz off m:Nat) (hk0:k<1000) (ht:s.tm t = .os k v sz off m) (hv:v=s.ver k) (hc:match (s.rows k).c with | .arr _ sz' es=>sz=sz'∧off+m≤es.length | .arc _ sz' es _=>sz=sz'∧off+m≤es.length|_=>False) :
 ∃ p2,SR C p2 { s with tm:=upd s.tm t (.r (match (s.rows k).c with | .arr _ _ es=>RV.sl sz ((es.drop off).take m) | .arc _ _ es _=>RV.sl sz ((es.drop off).take m)|_=>.un)),rows:=upd s.rows k ⟨(s.rows k).ver+1,.dead⟩ } a w:=by
 have h1:=hp.reRow (w':=w) k hk0 .dead rfl none 1 (by simp [maxLen]) rfl rfl rfl (Nat.le_refl _) (fun _ _ _=>rfl) (fun _ h=>by cases h) (fun p' ver' _ hβ hγ _=>by simp only[zrl];exact⟨hβ,hγ⟩)
 have hval:=hp.tm t
 rw[ht] at hval
 have put:∀ {p2:Plan},SR C p2 { s with rows:=upd s.rows k ⟨(s.rows k).ver+1,.dead⟩ } a w→(∀ b,p.R b→p2.R b)→(∀ b,p.β k=some b→p2.R b) →
  ∃ p2,SR C p2 { s with tm:=upd s.tm t (.r (match (s.rows k).c with | .arr _ _ es=>RV.sl sz ((es.drop off).take m) | .arc _ _ es _=>RV.sl sz ((es.drop off).take m)|_=>.un)),rows:=upd s.rows k ⟨(s.rows k).ver+1,.dead⟩ } a w:=fun {p2} h2 hR hR2=>by
  refine⟨p2,{ h2 with tm:=fun j=>?_ }⟩
  show AV.rel w _ _ (upd s.tm t _ j) _
  by_cases hj:j=t
  ·subst hj
   rw[zus]
   simp only[AV.rel];exact snap_os hp hv hc hval hR hR2
  ·rw[zuo _ _ hj]
   exact h2.tm j
 cases hβ:p.β k with
 | none=>exact put h1 (fun _ h=>h) (fun b hb=>by rw[hβ] at hb;cases hb)
 | some b =>
   obtain⟨g1,_,g2⟩:=hp.bl k b hβ
   have h2:=h1.publish (b:=b) g1 (g2.imp id fun h=>h.resolve_left (fun h=>by omega)) (fun j hj=>by
    have hj':upd p.β k none j=some b:=hj
    by_cases e:j=k
    ·subst e;rw[zus] at hj';cases hj'
    ·rw[zuo _ _ e] at hj';exact e (hp.ij j k b hj' hβ)) (hp.ex.publish hβ)
   exact put h2 (fun _ h=>.inl h) (fun b' hb'=>by rw[hβ] at hb';injection hb' with e;exact .inr e.symm)
def frz (P:Program) (o:Oper) (s:AS) (x z:Operand) (t d:Nat) (rv:RV):Prop :=
 ((step P o s).pre∧s.ev x = .r .ns∧∃ e sz es,(step P o s).y=⟨.os d ((s.rows d).ver+1) sz 0 es.length,[(d,⟨(s.rows d).ver+1,.arr e sz es⟩)]⟩∧rv = .sl sz es) ∨
 ∃ e esz eb ez ssz sagg sz0 es c sz ns, s.ev x = .r (.sx esz es)∧tyq P t=some ⟨.slice e esz eb ez, ssz, sagg, sz0⟩∧news? s (s.ev z)=some (c, sz, ns)∧c∧(sz=esz∨ns=[])∧0<esz∧(es.length+ns.length)*eb≤140737488355328 ∧
   es.length+ns.length≤9223372036854775807∧rv = .sl esz (es++ns)
def AYf (P:Program) (o:Oper) (s:AS) (y:Yi):Prop :=
 ∃ x z t d rv,o.op = .call ⟨.builtin .append,#[x,z],#[t,t]⟩∧o.dst=some d∧d<1000∧(∃ b,s.ev x = .r b)∧y=⟨.r rv,[(d,⟨(s.rows d).ver+2,.dead⟩)]⟩∧frz P o s x z t d rv
def isBS (o:Oper):Bool:=match o.op with | .buildSlice _ _ _=>true|_=>false
def rx (o:Oper) (r:Res) (y:Yi):Prop:=r.pre∧(y=r.y∨(isBS o=true∧∃ sz es,es≠[]∧r.y=⟨.r (.sl sz es),[]⟩∧y=⟨.r (.sx sz es),[]⟩))
theorem rx_no {o:Oper}{r:Res}{y:Yi}(h:rx o r y) (ho:isBS o=false):r.pre∧y=r.y:=by
 obtain⟨h1,h2|⟨h2,_⟩⟩:=h
 ·exact⟨h1,h2⟩
 ·rw[ho] at h2;cases h2
def isApp (o:Oper):Bool:=match o.op with | .call ⟨.builtin .append,_,_⟩=>true|_=>false
theorem AYf.no {P:Program}{o:Oper}{s:AS}{y:Yi}(h:AYf P o s y) (ho:isApp o=false):False:=by
 obtain⟨x,z,t,d,rv,h1,_⟩:=h
 simp [isApp,h1] at ho
section
variable {P:Program}{C:Ctx}{p:Plan}{s:AS}{a:Act}{w w':World}{o:Oper}
def AY (P:Program) (o:Oper) (s:AS) (y:Yi):Prop :=
 match o.op with
 | .call ⟨.value f,args,_⟩=>(∃ r,(ACallOk P s (s.ev f) (args.toList.map s.ev) r∨BCallOk P s (s.ev f) (args.toList.map s.ev) r)∧y=⟨.r r,[]⟩)∨OCallY P s o.dst (s.ev f) (args.toList.map s.ev) y
 | _=>rx o (step P o s) y∨AYf P o s y
theorem run_callFunc {f:FuncId}(hc:callable P f=true) (args:Array Value) (w:World):(callFunc f args).run P w = .ok (.enter f args) w:=by
 unfold callable at hc
 split at hc
 ·rename_i fn hf
  simp only[Bool.and_eq_true,bne_iff_ne,ne_eq] at hc
  unfold callFunc
  have h1 : (fn.name == "runtime.NumGoroutine") = false:=by simpa using hc.2
  have h2:fn.body.isNone=false:=by simpa using hc.1
  simp only[Sem.run_bind,run_program,Result.andThen_ok,hf,h1,h2,Bool.false_eq_true,if_false,Sem.run_pure]
 ·cases hc
theorem call_sound (h:SR C p s a w) {f:Operand}{args:Array Operand}{ts:Array TypeId}(ho:o.op = .call ⟨.value f,args,ts⟩) {r:RV}(hr:ACallOk P s (s.ev f) (args.toList.map s.ev) r)
 {K:Act→World→Prop}{Q:Exit→Act→World→Prop}(hK:∀ v w' p',SR C p' s a w'→r.rel w' p'.R v→K (a.put o.dst v) w'):o.wp P a w K Q:=by
 obtain⟨F,cs,args',hF,hsn,hle,⟨hcal,hcalls⟩,hfl⟩:=hr
 have hargs:=relV_ev h args.toList
 obtain⟨vs,hfv,hcs⟩:∃ vs:Array Value,a.eval f = .func (.func F) #[] vs∧AV.relV w p s.ver cs vs.toList:=by
  have hx:=h.ev f
  unfold callee? at hF
  split at hF
  ·rename_i g cs' e
   injection hF with hF
   injection hF with h1 h2
   subst h1 h2
   rw[e] at hx
   simp only[AV.rel,RV.rel] at hx
   obtain⟨vs,hv,hV⟩:=hx
   exact⟨vs,hv,AV.relV_map_r hV⟩
  ·rename_i g cs' e
   injection hF with hF
   injection hF with h1 h2
   subst h1 h2
   rw[e] at hx
   simp only[AV.rel] at hx
   exact hx
  ·cases hF
 have hall:=AV.relV_append hargs hcs
 have hlist:(args.map a.eval++vs).toList=args.toList.map a.eval++vs.toList:=by simp
 have hrun:(execOp a.eval o).run P w = .ok (.enter F (args.map a.eval++vs)) w:=by
  simp only[execOp,ho,Sem.run_bind,resolve,hfv,Deferred.ofValue,Sem.run_pure,Result.andThen_ok,invoke]
  simpa using run_callFunc hcal (args.map a.eval++vs) w
 unfold Oper.wp
 rw[hrun,Oper.upon_enter]
 rcases hfl with hfl|hfl
 ·have hV:=le_relV _ _ _ hle (snap_relV h _ _ hsn (by rw[← hlist] at hall;exact hall))
  refine (hcalls w p.all _ (fun b hb=>hb.elim (h.rb b) (fun ⟨k,hk⟩=>(h.bl k b hk).1)) hV).mono ?_
  rintro e w' ⟨v,R',rfl,hb,hR1,hR2,hR3,hrel⟩
  exact hK v w' _ (h.below hb (fun _ h=>h) (fun _ h=>.inl h) (fun b hb'=>Nat.lt_of_lt_of_le (h.rb b hb') hb.size)) (flat_rel r v hfl hrel)
 ·have hV:=le_relV _ _ _ hle (pure_relV (rows:=s.rows) _ _ hfl (by rw[← hlist] at hall;exact hall))
  refine (hcalls w p.R _ h.rb hV).mono ?_
  rintro e w' ⟨v,R',rfl,hb,hR1,hR2,hR3,hrel⟩
  exact hK v w' _ (h.below hb hR1 hR2 hR3) hrel
def ocall (P:Program) (s:AS) (d:Option Nat) (f:AV) (xs:List AV) (K:AS→Prop):Prop :=
 ∃ F cs args t sz es m dd, callee? f=some (F, cs)∧snapPL s.rows (xs++cs)∧RV.leL (snapVL s.rows (xs++cs)) args∧OCalls P F args t sz es m∧d=some dd∧dd<1000 ∧
   K (AS.put (s.row dd ⟨(s.rows dd).ver+1,.arr t sz es⟩) d (.os dd ((s.rows dd).ver+1) sz 0 m))
theorem ocall_sound (h:SR C p s a w) {f:Operand}{args:Array Operand}{ts:Array TypeId}(ho:o.op = .call ⟨.value f,args,ts⟩) {KA:AS→Prop}(hm:ocall P s o.dst (s.ev f) (args.toList.map s.ev) KA)
 (hd:∀ t,o.dst=some t→t<s.n) {K:Act→World→Prop}{Q:Exit→Act→World→Prop}(hK:∀ a' w' p' s',SR C p' s' a' w'→s'.n=s.n→KA s'→K a' w'):o.wp P a w K Q:=by
 obtain⟨F,cs,args',t,sz,es,m,dd,hF,hsn,hle,⟨hcal,hcalls⟩,hdd,hd0,hKA⟩:=hm
 have hargs:=relV_ev h args.toList
 obtain⟨vs,hfv,hcs⟩:∃ vs:Array Value,a.eval f = .func (.func F) #[] vs∧AV.relV w p s.ver cs vs.toList:=by
  have hx:=h.ev f
  unfold callee? at hF
  split at hF
  ·rename_i g cs' e
   injection hF with hF
   injection hF with h1 h2
   subst h1 h2
   rw[e] at hx
   simp only[AV.rel,RV.rel] at hx
   obtain⟨vs,hv,hV⟩:=hx
   exact⟨vs,hv,AV.relV_map_r hV⟩
  ·rename_i g cs' e
   injection hF with hF
   injection hF with h1 h2
   subst h1 h2
   rw[e] at hx
   simp only[AV.rel] at hx
   exact hx
  ·cases hF
 have hall:=AV.relV_append hargs hcs
 have hlist:(args.map a.eval++vs).toList=args.toList.map a.eval++vs.toList:=by simp
 have hrun:(execOp a.eval o).run P w = .ok (.enter F (args.map a.eval++vs)) w:=by
  simp only[execOp,ho,Sem.run_bind,resolve,hfv,Deferred.ofValue,Sem.run_pure,Result.andThen_ok,invoke]
  simpa using run_callFunc hcal (args.map a.eval++vs) w
 unfold Oper.wp
 rw[hrun,Oper.upon_enter]
 have hV:=le_relV _ _ _ hle (snap_relV h _ _ hsn (by rw[← hlist] at hall;exact hall))
 refine (hcalls w p.all _ (fun b hb=>hb.elim (h.rb b) (fun ⟨k,hk⟩=>(h.bl k b hk).1)) hV).mono ?_
 rintro e w' ⟨v,β,g,rfl,hb,hg,hβ,hrow⟩
 have hSR:=h.reRow (w':=w') dd hd0 (.arr t sz es) rfl β g hg hb.os hb.tape hb.output hb.size (fun i hi _=>hb.block i hi) (fun b hb'=>⟨(hβ b hb').2,.inr (hβ b hb').1⟩) (fun p' ver' _ hβ' hγ' _=>by
  simp only[zrl];rw[hβ',hγ']
  rcases hrow with⟨h1,h2,h3,_⟩|⟨b,cells,A,h1,h2,h3,h4,h5,_⟩
  ·exact .inl ⟨h1,h2,h3⟩
  ·exact .inr ⟨b,cells,h1,h2,h3,h4,RV.relE_mono (fun _ h=>h.elim) (fun _ _=>rfl) _ _ _ _ (fun _=>rfl) h5⟩)
 have hput:=hSR.put' (d:=o.dst) (av:=.os dd ((s.rows dd).ver+1) sz 0 m) (v:=v) (by
  simp only[AV.rel,AS.ver,zus]
  refine⟨Nat.le_refl _,fun _=>?_⟩
  rcases hrow with⟨h1,h2,h3,h4,A,h5⟩|⟨b,cells,A,h1,h2,h3,h4,h5,h6,h7,h8⟩
  ·exact .inl ⟨h1,h3,trivial,h4,A,h5⟩
  ·exact .inr ⟨b,A,h1,by simpa using h6,by omega,fun _=>by simpa using h8⟩) hd
 refine hK _ _ _ _ hput ?_ hKA
 cases o.dst<;>rfl
theorem AY_sound (h:SR C p s a w) {y:Yi}(hy:AY P o s y) (hd:∀ t,o.dst=some t→t<s.n) {K:Act→World→Prop}{Q:Exit→Act→World→Prop}
 (hK:∀ a' w' p',SR C p' (s.app o.dst y) a' w'→K a' w'):o.wp P a w K Q:=by
 unfold AY at hy
 split at hy
 ·rename_i f args ts ho
  rcases hy with⟨r,hr|⟨D,_,hB⟩,rfl⟩|hy
  rotate_left
  ·exact hB s (fun _ _=>rfl) C p a w o f args ts h ho rfl rfl hd K Q hK
  rotate_right
  ·refine call_sound h ho hr fun v w' p' hSR hrel=>hK _ _ p' ?_
   have:=hSR.put' (d:=o.dst) (av:=.r r) (v:=v) (by simpa only[AV.rel] using hrel) hd
   exact this
  ·obtain⟨F,cs,args',t,sz,es,m,dd,h1,h2,h3,h4,h5,h6,rfl⟩:=hy
   refine ocall_sound h ho (KA:=fun s'=>s'=s.app o.dst ⟨.os dd ((s.rows dd).ver+1) sz 0 m,[(dd,⟨(s.rows dd).ver+1,.arr t sz es⟩)]⟩) ⟨F,cs,args',t,sz,es,m,dd,h1,h2,h3,h4,h5,h6,rfl⟩ hd fun a' w' p' s' hs' _ he=>?_
   subst he
   exact hK a' w' p' hs'
 ·rcases hy with⟨hpre,rfl|⟨hbs,sz,es,hne,h1,rfl⟩⟩|⟨x,z,t,d,rv,h1,h2,h3,_,rfl,⟨hpre,h4,e,sz,es,h5,rfl⟩|⟨e,esz,eb,ez,ssz,sagg,sz0,es,c,sz,ns,e3,e1,hny,hc,hsz,hpos,hb,hm,rfl⟩⟩
  rotate_left
  ·unfold isBS at hbs
   split at hbs
   ·rename_i t n ps ho
    have hst:step P o s=sBuildSlice P s t n (ps.toList.map fun (i,x)=>(i,s.ev x)):=by simp only[step,ho]
    rw[hst] at hpre h1
    obtain⟨v,w',p',hrun,hSR,hrel⟩:=buildSlice_sx h ho hpre h1 hne
    unfold Oper.wp
    rw[hrun]
    have:=hSR.put' (d:=o.dst) hrel hd
    exact hK _ _ p' this
   ·cases hbs
  rotate_right
  ·obtain⟨nx,v,w',p',hrun,hnx,_,hSR,hrel⟩:=step_sound h hpre
   unfold Oper.wp
   rw[hrun]
   have hput:=hSR.put' (d:=o.dst) hrel hd
   rcases hnx with rfl|⟨rfl,rfl⟩
   ·exact hK _ _ p' hput
   ·exact hK _ _ p' hput
  ·obtain⟨nx,v,w',p',hrun,hnx,_,hSR,hrel⟩:=step_sound h hpre
   unfold Oper.wp
   rw[hrun]
   have hput:=hSR.put' (d:=o.dst) hrel hd
   have go:∀ {a':Act},SR C p' (AS.put { s with rows:=(step P o s).y.rows s.rows } o.dst (step P o s).y.av) a' w'→K a' w':=fun {a'} hp'=>by
    rw[h5,h2] at hp'
    simp only[Yi.rows,List.foldl_cons,List.foldl_nil,AS.put] at hp'
    obtain⟨p2,h6⟩:=hp'.freeze d d ((s.rows d).ver+1) sz 0 es.length h3 (zus _ _ _) (by simp [AS.ver,zus]) (by simp [zus])
    refine hK _ _ p2 ?_
    have e:AS.app s o.dst ⟨.r (.sl sz es),[(d,⟨(s.rows d).ver+2,.dead⟩)]⟩=⟨s.n,upd (upd s.tm d (AV.os d ((s.rows d).ver+1) sz 0 es.length)) d (.r (.sl sz es)),upd (upd s.rows d ⟨(s.rows d).ver+1,.arr e sz es⟩) d ⟨(s.rows d).ver+2,.dead⟩⟩:=by
     simp only[AS.app,Yi.rows,List.foldl_cons,List.foldl_nil,h2,AS.put]
     congr 1
     ·funext j;unfold upd;split<;>rfl
     ·funext j;unfold upd;split<;>rfl
    rw[e]
    simp only[zus,List.drop_zero,List.take_length] at h6
    exact h6
   rcases hnx with rfl|⟨rfl,rfl⟩
   ·exact go hput
   ·exact go hput
  ·by_cases hnil:ns=[]
   ·subst hnil
    obtain⟨hu,hok,_⟩:=tyq_slice e1
    obtain⟨B,cB,hyv,_⟩:=news_rel h hny hc hsz
    have hx:=h.ev x
    rw[e3] at hx
    have hx2:=hx
    simp only[AV.rel,RV.rel] at hx2
    obtain⟨ad0,hxv,hes,hmx,_,_⟩:=hx2
    have hrun:(execOp a.eval o).run P w = .ok (.value (a.eval x)) w:=by
     refine run_builtin_of h1 ?_
     have:(Builtin.append_ #[t,t] o.type #[a.eval x,a.eval z]).run P w = .ok (a.eval x) w:=by
      rw[hxv,hyv];exact run_append_zero hu hok (Nat.le_refl _)
     simp only[builtin,Sem.run_bind,List.map_toArray,List.map_cons,List.map_nil,this,Result.andThen_ok,Sem.run_pure]
    unfold Oper.wp
    rw[hrun]
    have hk1:=h.reRow (w':=w) d h3 .dead rfl none 1 (by simp [maxLen]) rfl rfl rfl (Nat.le_refl _) (fun _ _ _=>rfl) (fun _ h=>by cases h) (fun p' ver' _ hβ hγ _=>by simp only[zrl];exact⟨hβ,hγ⟩)
    have hk2:=hk1.reRow (w':=w) d h3 .dead rfl none 1 (by simp [maxLen]) rfl rfl rfl (Nat.le_refl _) (fun _ _ _=>rfl) (fun _ h=>by cases h) (fun p' ver' _ hβ hγ _=>by simp only[zrl];exact⟨hβ,hγ⟩)
    have hput:=hk2.put' (d:=o.dst) (av:=.r (.sl esz es)) (v:=a.eval x) (by
     simp only[AV.rel,RV.rel] at hx ⊢
     obtain⟨ad,h6,h7,h8,h9,h10⟩:=hx
     exact⟨_,es.length,h6,Nat.le_refl _,h8,fun _=>⟨ad,rfl,h9,h10⟩⟩) hd
    have e:AS.app s o.dst ⟨.r (.sl esz (es++[])),[(d,⟨(s.rows d).ver+2,.dead⟩)]⟩=AS.put { s with rows:=upd (upd s.rows d ⟨(s.rows d).ver+1,.dead⟩) d ⟨(upd s.rows d ⟨(s.rows d).ver+1,.dead⟩ d).ver+1,.dead⟩ } o.dst (.r (.sl esz es)):=by
     simp only[AS.app,Yi.rows,List.foldl_cons,List.foldl_nil,h2,AS.put,List.append_nil,zus]
     congr 1
     funext j;unfold upd;split<;>rfl
    rw[← e] at hput
    exact hK _ _ _ hput
   ·obtain⟨v,w',p',hrun,hSR,hrel⟩:=append_full h d h3 h1 e1 e3 hny hc hsz hnil hpos hb hm
    unfold Oper.wp
    rw[hrun]
    have hput:=hSR.put' (d:=o.dst) hrel hd
    rw[h2] at hput
    simp only[AS.put] at hput
    obtain⟨p2,h6⟩:=hput.freeze d d ((s.rows d).ver+1) esz 0 (es.length+ns.length) h3 (zus _ _ _) (by simp [AS.ver,zus]) (by simp [zus])
    refine hK _ _ p2 ?_
    have e:AS.app s o.dst ⟨.r (.sl esz (es++ns)),[(d,⟨(s.rows d).ver+2,.dead⟩)]⟩=⟨s.n,upd (upd s.tm d (AV.os d ((s.rows d).ver+1) esz 0 (es.length+ns.length))) d (.r (.sl esz (es++ns))),upd (upd s.rows d ⟨(s.rows d).ver+1,.arr e esz (es++ns)⟩) d ⟨(s.rows d).ver+2,.dead⟩⟩:=by
     simp only[AS.app,Yi.rows,List.foldl_cons,List.foldl_nil,h2,AS.put]
     congr 1
     ·funext j;unfold upd;split<;>rfl
     ·funext j;unfold upd;split<;>rfl
    rw[e]
    simp only[zus,List.drop_zero] at h6
    rw[List.take_of_length_le (by simp)] at h6
    rw[h2]
    exact h6
end
end Go.Oc
