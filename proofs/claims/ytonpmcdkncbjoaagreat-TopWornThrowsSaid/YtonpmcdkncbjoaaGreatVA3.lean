/- Part 3 of the texts of this claim. -/
import Derived.Test.YtonpmcdkncbjoaaGreatVA2
import Derived.Orders
import Derived.TacticsIn
set_option linter.unusedVariables false
namespace Go.Oc
open Go Go.RowKit
theorem nr_map_r (d nv:Nat):∀ cs:List RV,AV.nrL d nv (cs.map .r)
 | []=>by simp [AV.nrL]
 | c::cs=>by simp only[List.map_cons,AV.nrL,AV.nr];exact⟨trivial,nr_map_r d nv cs⟩
theorem nrL_append {d nv:Nat}:∀ {xs ys:List AV},AV.nrL d nv xs→AV.nrL d nv ys→AV.nrL d nv (xs++ys)
 | [],_,_,h=>by simpa using h
 | x::xs,ys,h,h'=>by simp only[List.cons_append,AV.nrL] at h ⊢;exact⟨h.1,nrL_append h.2 h'⟩
theorem nrL_take {d nv:Nat}:∀ {xs:List AV}(n:Nat),AV.nrL d nv xs→AV.nrL d nv (xs.take n)
 | _,0,_=>by simp [AV.nrL]
 | [],_+1,h=>by simp [AV.nrL]
 | x::xs,n+1,h=>by simp only[AV.nrL] at h;simp only[List.take_succ_cons,AV.nrL];exact⟨h.1,nrL_take n h.2⟩
theorem nrL_drop {d nv:Nat}:∀ {xs:List AV}(n:Nat),AV.nrL d nv xs→AV.nrL d nv (xs.drop n)
 | [],n,_=>by simp [AV.nrL]
 | x::xs,0,h=>h
 | x::xs,n+1,h=>by simp only[AV.nrL] at h;exact nrL_drop n h.2
section
variable {w:World}{p:Plan}{ver:Nat→Nat}{d nv:Nat}
mutual
theorem rel_nr (hn:nv=ver d+1∨(nv=ver d∧p.β d=none∧p.γ d=1)):∀ (x:AV) (v:Value),x.rel w p ver v→x.nr d nv
 | .r _,_,_=>by simp only[AV.nr]
 | .pt k n off, v, h=>by
   simp only[AV.rel] at h;simp only[AV.nr]
   rintro ⟨rfl,rfl⟩
   rcases hn with hn|⟨hn,hβ,_⟩
   ·omega
   ·obtain⟨b,hb,_⟩:=h.2 hn;rw[hβ] at hb;cases hb
 | .pe k n sz idx off, v, h=>by
   simp only[AV.rel] at h;simp only[AV.nr]
   rintro ⟨rfl,rfl⟩
   rcases hn with hn|⟨hn,hβ,_⟩
   ·omega
   ·obtain⟨b,hb,_⟩:=h.2 hn;rw[hβ] at hb;cases hb
 | .os k n sz off m, v, h=>by
   simp only[AV.rel] at h;simp only[AV.nr]
   rintro ⟨rfl,rfl⟩
   rcases hn with hn|⟨hn,hβ,hγ⟩
   ·omega
   ·rcases h.2 hn with⟨_,h0,_⟩|⟨b,A,hb,_⟩
    ·omega
    ·rw[hβ] at hb;cases hb
 | .mp k n, v, h=>by
   simp only[AV.rel] at h;simp only[AV.nr]
   rintro ⟨rfl,rfl⟩
   rcases hn with hn|⟨hn,hβ,_⟩
   ·omega
   ·obtain⟨b,hb,_⟩:=h.2 hn;rw[hβ] at hb;cases hb
 | .mi k n, v, h=>by
   simp only[AV.rel] at h;simp only[AV.nr]
   rintro ⟨rfl,rfl⟩
   rcases hn with hn|⟨hn,hβ,_⟩
   ·omega
   ·obtain⟨b,hb,_⟩:=h.2 hn;rw[hβ] at hb;cases hb
 | .pu k n u, v, h=>by
   simp only[AV.rel] at h;simp only[AV.nr]
   rintro ⟨rfl,rfl⟩
   rcases hn with hn|⟨hn,hβ,_⟩
   ·omega
   ·obtain⟨b,hb,_⟩:=h.2.2 hn;rw[hβ] at hb;cases hb
 | .fn f cs, v, h=>by
   simp only[AV.rel] at h;simp only[AV.nr]
   obtain⟨vs,_,hV⟩:=h
   exact rel_nrL hn cs _ hV
 | .ag cs, v, h=>by
   simp only[AV.rel] at h;simp only[AV.nr]
   obtain⟨vs,_,_,hV⟩:=h
   exact rel_nrL hn cs _ hV
 | .tu cs, v, h=>by
   simp only[AV.rel] at h;simp only[AV.nr]
   obtain⟨vs,_,hV⟩:=h
   exact rel_nrL hn cs _ hV
theorem rel_nrL (hn:nv=ver d+1∨(nv=ver d∧p.β d=none∧p.γ d=1)):∀ (xs:List AV) (vs:List Value),AV.relV w p ver xs vs→AV.nrL d nv xs
 | [],_,_=>by simp only[AV.nrL]
 | x::xs, vs, h=>by
   simp only[AV.relV] at h
   obtain⟨u,us,_,h1,h2⟩:=h
   simp only[AV.nrL];exact⟨rel_nr hn x u h1,rel_nrL hn xs us h2⟩
end
end
def cls (o:Oper):Nat :=
 match o.op with
 | .move _ | .assign _ | .pick .. | .binOp .. | .unOp .. | .convert .. | .field .. | .index .. | .makeFunc .. | .extract ..=>0
 | .call ⟨.builtin .min,_,_⟩ | .call ⟨.builtin .max,_,_⟩=>0
 | .load .. | .fieldAddr .. | .indexAddr .. | .slice .. | .build .. | .buildSlice .. | .nilCheck _ | .lookup ..=>1
 | .call ⟨.builtin .len,_,_⟩=>1
 | .call ⟨.value _,_,_⟩=>1
 | .box .. | .alloc _ | .makeSlice .. | .makeMap ..=>2
 | _=>3
section
variable {P:Program}{s:AS}{rows':Nat→Row}{d:Nat}
theorem cells_indep {ver ver':Nat→Nat}{nv:Nat}(hnv:nv=ver d) (hv:∀ k,k≠d→ver' k=ver k) {x:AV}(hx:x.nr d nv) {xs:List AV}(h:x.cells? ver=some xs):x.cells? ver'=some xs:=by
 unfold AV.cells? at h ⊢
 split at h<;>first
  | exact h
  | (split at h
     ·rename_i e
      simp only[AV.nr] at hx
      have hk:∀ k,¬ (k=d∧ver k=nv)→k≠d:=fun k hk e=>hk ⟨e,by rw[e,hnv]⟩
      subst e
      rw[if_pos (hv _ (hk _ hx)).symm];exact h
     ·cases h)
theorem lay_indep {ver ver':Nat→Nat}{nv:Nat}(hnv:nv=ver d) (hv:∀ k,k≠d→ver' k=ver k) (place:Nat→Option (Nat × Nat)):∀ (parts:List (Nat × AV)) (cs cs':List AV),(∀ p∈parts,p.2.nr d nv) →
 lay ver place cs parts=some cs'→lay ver' place cs parts=some cs'
 | [],_,_,_,h=>h
 | (i, x)::rest, cs, cs', hp, h=>by
   simp only[lay] at h ⊢
   split at h
   ·rename_i o sz xs e1 e2
    rw[e1,cells_indep hnv hv (hp (i,x) (by simp)) e2]
    dsimp only
    split at h
    ·rename_i hc
     rw[if_pos hc]
     exact lay_indep hnv hv place rest _ _ (fun p hp'=>hp p (by simp [hp'])) h
    ·cases h
   ·cases h
theorem layE_indep {ver ver':Nat→Nat}{nv:Nat}(hnv:nv=ver d) (hv:∀ k,k≠d→ver' k=ver k) (esz:Nat):∀ (parts:List (Nat × AV)) (es es':List (List RV)),(∀ p∈parts,p.2.nr d nv) →
 layE ver esz es parts=some es'→layE ver' esz es parts=some es'
 | [],_,_,_,h=>h
 | (i, x)::rest, es, es', hp, h=>by
   simp only[layE] at h ⊢
   split at h
   ·rename_i xs e1
    cases e2:x.cells? ver with
    | none=>simp [e2] at e1
    | some ys =>
      simp only[e2,Option.bind_some] at e1
      rw[cells_indep hnv hv (hp (i,x) (by simp)) e2,Option.bind_some,e1]
      dsimp only
      split at h
      ·rename_i hc
       rw[if_pos hc]
       exact layE_indep hnv hv esz rest _ _ (fun p hp'=>hp p (by simp [hp'])) h
      ·cases h
   ·cases h
theorem snap1_indep (hr:∀ k,k≠d→rows' k=s.rows k) {x:AV}(hx:x.nr d (s.rows d).ver) (h:snap1P s.rows x):snap1P rows' x∧snap1V rows' x=snap1V s.rows x:=by
 cases x with
 | r x=>exact⟨trivial,rfl⟩
 | os k n sz off m =>
   have hk:k≠d:=fun e=>by simp only[AV.nr] at hx;exact hx ⟨e,by rw[h.1,e]⟩
   simp only[snap1P,snap1V,hr k hk] at h ⊢
   exact⟨h,trivial⟩
 | _=>exact⟨trivial,rfl⟩
theorem snap1L_indep (hr:∀ k,k≠d→rows' k=s.rows k):∀ {xs:List AV},AV.nrL d (s.rows d).ver xs→snap1PL s.rows xs→snap1PL rows' xs∧xs.map (snap1V rows')=xs.map (snap1V s.rows)
 | [],_,_=>⟨trivial,rfl⟩
 | x::xs, hx, h=>by
   simp only[AV.nrL] at hx
   simp only[snap1PL] at h ⊢
   obtain⟨h1,h2⟩:=snap1_indep hr hx.1 h.1
   obtain⟨h3,h4⟩:=snap1L_indep hr hx.2 h.2
   exact⟨⟨h1,h3⟩,by simp only[List.map_cons,h2,h4]⟩
mutual
theorem snap_indep (hr:∀ k,k≠d→rows' k=s.rows k) (hbox:∀ k cs,(s.rows k).c.boxOf=some cs→AV.nrL d (s.rows d).ver cs):∀ (x:AV),x.nr d (s.rows d).ver→snapP s.rows x→snapP rows' x∧snapV rows' x=snapV s.rows x
 | .r _,_,_=>by simp [snapP,snapV]
 | .os k n sz off m, hx, h=>by
   simp only[snapP] at h
   have hk:k≠d:=fun e=>by simp only[AV.nr] at hx;exact hx ⟨e,by rw[h.1,e]⟩
   simp only[snapP,snapV,hr k hk]
   obtain⟨h0,h⟩:=h
   cases e:(s.rows k).c with
   | ara ty2 sz2 cs =>
     rw[e] at h
     obtain⟨q0,q1,q2⟩:=h
     obtain⟨h3,h4⟩:=snap1L_indep hr (nrL_take m (nrL_drop off (hbox k cs (by rw[e];rfl)))) q2
     refine⟨⟨h0,q0,q1,h3⟩,?_⟩
     have:=congrArg (List.map fun x:RV=>[x]) h4
     simp only[List.map_map] at this
     simpa only[Function.comp_def] using congrArg (RV.sl 1) this
   | _=>rw[e] at h;first|exact⟨⟨h0,h⟩,rfl⟩|exact h.elim
 | .pt k n off, hx, h=>by
   simp only[snapP] at h
   have hk:k≠d:=fun e=>by simp only[AV.nr] at hx;exact hx ⟨e,by rw[h.1,e]⟩
   simp only[snapP,snapV,hr k hk]
   obtain⟨h0,h⟩:=h
   split at h
   ·rename_i cs e
    obtain⟨h3,h4⟩:=snap1L_indep hr (nrL_drop off (hbox k cs (by rw[e];rfl))) h
    exact⟨⟨h0,h3⟩,by rw[h4]⟩
   ·exact h.elim
 | .pe k n sz idx off, hx, h=>by
   simp only[snapP] at h
   have hk:k≠d:=fun e=>by simp only[AV.nr] at hx;exact hx ⟨e,by rw[h.1,e]⟩
   simp only[snapP,snapV,hr k hk];exact⟨h,trivial⟩
 | .fn f cs, hx, h=>by
   simp only[AV.nr] at hx
   simp only[snapP,snapV] at h ⊢
   obtain⟨h1,h2⟩:=snapL_indep hr hbox cs hx h
   exact⟨h1,by rw[h2]⟩
 | .ag cs, hx, h=>by
   simp only[AV.nr] at hx
   simp only[snapP,snapV] at h ⊢
   obtain⟨h1,h2⟩:=snapL_indep hr hbox cs hx h
   exact⟨h1,by rw[h2]⟩
 | .tu cs, hx, h=>by
   simp only[AV.nr] at hx
   simp only[snapP,snapV] at h ⊢
   obtain⟨h1,h2⟩:=snapL_indep hr hbox cs hx h
   exact⟨h1,by rw[h2]⟩
 | .mp _ _,_,h=>by simp [snapP] at h
 | .mi _ _,_,h=>by simp [snapP] at h
 | .pu _ _ _,_,_=>by simp only[snapP,snapV];exact⟨trivial,trivial⟩
theorem snapL_indep (hr:∀ k,k≠d→rows' k=s.rows k) (hbox:∀ k cs,(s.rows k).c.boxOf=some cs→AV.nrL d (s.rows d).ver cs):∀ (xs:List AV),AV.nrL d (s.rows d).ver xs→snapPL s.rows xs→snapPL rows' xs∧snapVL rows' xs=snapVL s.rows xs
 | [],_,_=>by simp [snapPL,snapVL]
 | x::xs, hx, h=>by
   simp only[AV.nrL] at hx
   simp only[snapPL,snapVL] at h ⊢
   obtain⟨h1,h2⟩:=snap_indep hr hbox x hx.1 h.1
   obtain⟨h3,h4⟩:=snapL_indep hr hbox xs hx.2 h.2
   exact⟨⟨h1,h3⟩,by rw[h2,h4]⟩
end
theorem zer (x:Operand):({ s with rows:=rows' }:AS).ev x=s.ev x:=by cases x<;>rfl
theorem ev_rows':({ s with rows:=rows' }:AS).ev=s.ev:=funext zer
theorem nr_evs (hnr:∀ x:Operand,(s.ev x).nr d (s.rows d).ver):∀ l:List Operand,AV.nrL d (s.rows d).ver (l.map s.ev)
 | []=>by simp [AV.nrL]
 | x::l=>by simp only[List.map_cons,AV.nrL];exact⟨hnr x,nr_evs hnr l⟩
theorem AY_indep {o:Oper}{y:Yi}(hr:∀ k,k≠d→rows' k=s.rows k) (hnr:∀ x:Operand,(s.ev x).nr d (s.rows d).ver) (hbox:∀ k cs,(s.rows k).c.boxOf=some cs→AV.nrL d (s.rows d).ver cs)
 (hc:cls o≠3) (hd:cls o=2∨y.eff≠[]→o.dst.getD 0≠d) (h:AY P o s y):AY P o { s with rows:=rows' } y:=by
 have hv:∀ k,k≠d→(rows' k).ver=(s.rows k).ver:=fun k hk=>by rw[hr k hk]
 have hvv:∀ k,k≠d→({ s with rows:=rows' }:AS).ver k=s.ver k:=hv
 unfold AY at h ⊢
 split at h
 ·rename_i f args ts ho
  have nrc:∀ {F:FuncId}{cs:List AV},callee? (s.ev f)=some (F,cs)→AV.nrL d (s.rows d).ver cs:=fun {F cs} hF=>by
   have hx:=hnr f
   unfold callee? at hF
   split at hF
   ·injection hF with hF;injection hF with h1 h2;subst h2;exact nr_map_r _ _ _
   ·rename_i e;injection hF with hF;injection hF with h1 h2;subst h2;rw[e] at hx;simpa only[AV.nr] using hx
   ·cases hF
  rcases h with⟨r,⟨F,cs,args',hF,hsn,hle,hA,hfl⟩|⟨D,hB1,hB2⟩,rfl⟩|⟨F,cs,args',t,sz,es,m,dd,hF,hsn,hle,hO,hdd,hd0,rfl⟩
  rotate_left
  ·have hall:AV.nrL d (s.rows d).ver (s.ev f::args.toList.map s.ev):=by
    simp only[AV.nrL];exact⟨hnr f,nr_evs hnr args.toList⟩
   have hD:∀ k,D k→k≠d:=fun k hk e=>by
    subst e
    rcases hB1 k hk with h1|⟨j,cs,_,_,h2,h3⟩
    ·exact h1 hall
    ·exact h3 (hbox j cs (by rw[h2];rfl))
   refine .inl ⟨r,.inr ⟨D,fun k hk=>?_,fun s' hs'=>?_⟩,rfl⟩
   ·rw[zer,ev_rows']
    have hk':=hD k hk
    rcases hB1 k hk with h1|⟨j,cs,hj,h1,h2,h3⟩
    ·exact .inl (by rw[hvv k hk'];exact h1)
    ·have hj':=hD j hj
     refine .inr ⟨j,cs,hj,by rw[hvv j hj'];exact h1,?_,by rw[hvv k hk'];exact h3⟩
     show (rows' j).c=_
     rw[hr j hj'];exact h2
   ·rw[zer,ev_rows']
    exact hB2 s' fun k hk=>(hs' k hk).trans (hr k (hD k hk))
  rotate_right
  ·obtain⟨h1,h2⟩:=snapL_indep hr hbox _ (nrL_append (nr_evs hnr args.toList) (nrc hF)) hsn
   refine .inl ⟨r,.inl ⟨F,cs,args',by rw[zer];exact hF,by rw[ev_rows'];exact h1,?_,hA,by rw[ev_rows'];exact hfl⟩,rfl⟩
   rw[ev_rows']
   show RV.leL (snapVL rows' _) _
   rw[h2];exact hle
  ·obtain⟨h1,h2⟩:=snapL_indep hr hbox _ (nrL_append (nr_evs hnr args.toList) (nrc hF)) hsn
   have hne:dd≠d:=by have:=hd (.inr (by simp));rwa [hdd,Option.getD_some] at this
   refine .inr ⟨F,cs,args',t,sz,es,m,dd,by rw[zer];exact hF,by rw[ev_rows'];exact h1,?_,hO,hdd,hd0,?_⟩
   ·rw[ev_rows']
    show RV.leL (snapVL rows' _) _
    rw[h2];exact hle
   ·show _=(⟨.os dd ((rows' dd).ver+1) sz 0 m,[(dd,⟨(rows' dd).ver+1,.arr t sz es⟩)]⟩:Yi)
    rw[hr dd hne]
 ·rename_i hncall
  rcases h with h|⟨x,z,t,d,rv,h1,_⟩
  case inr=>simp [cls,h1] at hc
  refine .inl ?_
  have hpre:=h.1
  have hd:cls o=2∨(step P o s).y.eff≠[]→o.dst.getD 0≠d:=by
   obtain⟨_,h2|⟨_,_,_,_,h2,_⟩⟩:=h
   ·rw[← h2];exact hd
   ·rw[h2];exact fun hq=>hd (hq.imp id fun hq=>absurd rfl hq)
  suffices hs:step P o { s with rows:=rows' }=step P o s by rw[hs];exact h
  clear h
  unfold step at hpre ⊢
  rw[ev_rows']
  have nrparts:∀ ps:List (Nat × Operand),∀ q∈ps.map (fun x=>(x.1,s.ev x.2)),q.2.nr d (s.rows d).ver:=fun ps q hq=>by
   obtain⟨x,_,rfl⟩:=List.mem_map.1 hq
   exact hnr x.2
  split at hpre
  ·rfl
  ·rfl
  ·rfl
  ·rfl
  ·rfl
  ·rfl
  ·skip
   rename_i t x ho
   have hx:=hnr x
   unfold sLoad at hpre ⊢
   split at hpre
   ·rfl
   ·rename_i T k n off e1 e2
    rw[e2] at hx
    dsimp only
    split at hpre
    ·rename_i n' cs e3
     have hk:k≠d:=fun e=>by simp only[AV.nr] at hx;exact hx ⟨e,by rw[hpre.1,← e,e3]⟩
     rw[hr k hk,e3]
    ·exact hpre.elim
   ·rename_i T k n sz idx off e1 e2
    rw[e2] at hx
    dsimp only
    split at hpre
    ·rename_i n' t' sz' es e3
     have hk:k≠d:=fun e=>by simp only[AV.nr] at hx;exact hx ⟨e,by rw[hpre.1,← e,e3]⟩
     rw[hr k hk,e3]
    ·rename_i n' t' sz' cs e3
     have hk:k≠d:=fun e=>by simp only[AV.nr] at hx;exact hx ⟨e,by rw[hpre.1,← e,e3]⟩
     rw[hr k hk,e3]
    ·exact hpre.elim
   ·exact hpre.elim
  ·rename_i ho;simp [cls,ho] at hc
  ·skip
   rename_i t x ho
   have hdd:=hd (.inl (by simp [cls,ho]))
   unfold sBox at hpre ⊢
   split at hpre
   ·rename_i cs e
    rw[cells_indep (ver':=AS.ver { s with rows:=rows' }) (d:=d) rfl hvv (hnr x) e]
    dsimp only
    rw[hr _ hdd]
   ·exact hpre.elim
  ·rename_i t ho
   have hdd:=hd (.inl (by simp [cls,ho]))
   unfold sAlloc
   dsimp only
   rw[hr _ hdd]
  ·skip
   rename_i t x f ho
   have hx:=hnr x
   unfold sField at hpre ⊢
   split at hpre
   ·split at hpre
    ·split at hpre
     ·rfl
     ·rename_i k n off e
      rw[e] at hx
      have hk:k≠d:=fun e2=>by simp only[AV.nr] at hx;exact hx ⟨e2,by rw[show n=s.ver k from hpre,e2];rfl⟩
      try dsimp only
      rw[hvv k hk]
     ·rename_i k n sz idx off e
      rw[e] at hx
      have hk:k≠d:=fun e2=>by simp only[AV.nr] at hx;exact hx ⟨e2,by rw[show n=s.ver k from hpre,e2];rfl⟩
      try dsimp only
      rw[hvv k hk]
     ·exact hpre.elim
    ·exact hpre.elim
   ·exact hpre.elim
  ·rfl
  ·skip
   rename_i t x i ho
   have hx:=hnr x
   unfold sIndex at hpre ⊢
   split at hpre
   ·split at hpre
    ·rfl
    ·rename_i k n sz off m e
     rw[e] at hx
     have hk:k≠d:=fun e2=>by simp only[AV.nr] at hx;exact hx ⟨e2,by rw[show n=s.ver k from hpre.1,e2];rfl⟩
     try dsimp only
     rw[hvv k hk]
    ·exact hpre.elim
   ·split at hpre
    ·rfl
    ·rename_i k n off e
     rw[e] at hx
     have hk:k≠d:=fun e2=>by simp only[AV.nr] at hx;exact hx ⟨e2,by rw[show n=s.ver k from hpre.1,e2];rfl⟩
     try dsimp only
     rw[hvv k hk]
    ·rename_i k n sz idx off e
     rw[e] at hx
     have hk:k≠d:=fun e2=>by simp only[AV.nr] at hx;exact hx ⟨e2,by rw[show n=s.ver k from hpre.1,e2];rfl⟩
     try dsimp only
     rw[hvv k hk]
    ·exact hpre.elim
   ·exact hpre.elim
  ·rfl
  ·skip
   rename_i t x lo hi mx ho
   have hx:=hnr x
   unfold sSlice at hpre ⊢
   split at hpre
   ·split at hpre
    ·rfl
    ·rename_i k n sz off m e
     rw[e] at hx
     split at hpre
     ·rename_i l q e4 e5
      have hk:k≠d:=fun e2=>by simp only[AV.nr] at hx;exact hx ⟨e2,by rw[show n=s.ver k from hpre.1,e2];rfl⟩
      try dsimp only
      rw[hvv k hk,hr k hk]
     ·exact hpre.elim
    ·rfl
    ·exact hpre.elim
   ·try dsimp only
    unfold sSlice3 at hpre ⊢
    have hl:∀ c m,lenA s (s.ev x)=some (c,m)→c→lenA { s with rows:=rows' } (s.ev x)=some (c,m):=fun c m hl hc=>by
     unfold lenA at hl ⊢
     split at hl
     ·exact hl
     ·exact hl
     ·rename_i k n _ _ _ e
      rw[e] at hx
      injection hl with hl;injection hl with h1 h2
      have hn:n=s.ver k:=by rw[← h1] at hc;exact hc
      have hk:k≠d:=fun e2=>by simp only[AV.nr] at hx;exact hx ⟨e2,by rw[hn,e2];rfl⟩
      rw[hvv k hk,h1,h2]
     ·cases hl
    split at hpre
    ·rename_i c m l q km z g1 g2 g3 g4
     rw[hl c m g1 hpre.1]
     have g2':bound (lo.map s.ev) 0=some l:=g2
     have g3':bound (hi.map s.ev) (-1)=some q:=g3
     rw[g2',g3']
    ·exact hpre.elim
   ·rfl
   ·exact hpre.elim
  ·skip
   rename_i t ps ho
   have hq:=nrparts ps.toList
   unfold sBuild at hpre ⊢
   split at hpre
   ·split at hpre
    ·rename_i cs e
     try dsimp only
     rw[lay_indep (ver':=AS.ver { s with rows:=rows' }) (d:=d) rfl hvv _ _ _ _ hq e]
    ·exact hpre.elim
   ·split at hpre
    ·rename_i cs e
     try dsimp only
     rw[lay_indep (ver':=AS.ver { s with rows:=rows' }) (d:=d) rfl hvv _ _ _ _ hq e]
    ·exact hpre.elim
   ·exact hpre.elim
  ·skip
   rename_i t n ps ho
   have hq:=nrparts ps.toList
   unfold sBuildSlice at hpre ⊢
   split at hpre
   ·split at hpre
    ·rename_i h0;dsimp only;rw[if_pos h0,if_pos h0]
    ·rename_i h0
     try dsimp only
     rw[if_neg h0,if_neg h0]
     split at hpre
     ·rename_i es e
      rw[layE_indep (ver':=AS.ver { s with rows:=rows' }) (d:=d) rfl hvv _ _ _ _ hq e]
      have e':layE s.ver _ _ (List.map (fun x=>(x.1,s.ev x.2)) ps.toList)=some es:=e
      rw[e']
     ·exact hpre.elim
   ·exact hpre.elim
  ·rename_i t l c ho
   have hdd:=hd (.inl (by simp [cls,ho]))
   unfold sMakeSlice
   try dsimp only
   rw[hr _ hdd]
  ·rfl
  ·rfl
  ·skip
   rename_i x ho
   have hx:=hnr x
   unfold sNil at hpre ⊢
   split at hpre
   ·rfl
   ·rename_i k n off e
    rw[e] at hx
    have hk:k≠d:=fun e2=>by simp only[AV.nr] at hx;exact hx ⟨e2,by rw[show n=s.ver k from hpre,e2];rfl⟩
    try dsimp only
    rw[hvv k hk]
   ·rename_i k n sz idx off e
    rw[e] at hx
    have hk:k≠d:=fun e2=>by simp only[AV.nr] at hx;exact hx ⟨e2,by rw[show n=s.ver k from hpre,e2];rfl⟩
    try dsimp only
    rw[hvv k hk]
   ·rfl
   ·rfl
   ·exact hpre.elim
  ·rename_i t ho
   have hdd:=hd (.inl (by simp [cls,ho]))
   unfold sMakeMap
   try dsimp only
   rw[hr _ hdd]
  ·skip
   rename_i t x i ok ho
   have hx:=hnr x
   unfold sLookup at hpre ⊢
   split at hpre
   ·rename_i ke e k n key e1 e2 e3
    rw[e2] at hx
    try dsimp only
    split at hpre
    ·rename_i m z e4 e5
     have hn:n=(s.rows k).ver:=by
      split at hpre
      ·exact hpre.1
      ·exact hpre.1
      ·exact hpre.elim
     have hk:k≠d:=fun e2=>by simp only[AV.nr] at hx;exact hx ⟨e2,by rw[hn,e2]⟩
     rw[hr k hk,e4,e5]
    ·exact hpre.elim
   ·exact hpre.elim
  ·rename_i ho;simp [cls,ho] at hc
  ·rename_i ho;simp [cls,ho] at hc
  ·rename_i ho;simp [cls,ho] at hc
  ·rename_i ho;simp [cls,ho] at hc
  ·rename_i ho;simp [cls,ho] at hc
  ·skip
   rename_i b args ts ho
   unfold sBuiltin at hpre ⊢
   split at hpre
   ·rename_i t x e2 e3
    obtain⟨x',hx',hxe⟩:=arr1 e3
    have hx:=hnr x'
    rw[← hxe] at hx
    try dsimp only
    unfold sLen at hpre ⊢
    split at hpre
    ·rfl
    ·rfl
    ·rename_i k n _ _ m e4
     have hk:k≠d:=fun e2=>by simp only[AV.nr] at hx;exact hx ⟨e2,by rw[show n=s.ver k from hpre,e2];rfl⟩
     try dsimp only
     rw[hvv k hk]
    ·rename_i k n e4
     try dsimp only
     split at hpre
     ·rename_i m e6
      have hk:k≠d:=fun e2=>by simp only[AV.nr] at hx;exact hx ⟨e2,by rw[show n=(s.rows k).ver from hpre,e2]⟩
      rw[hr k hk,e6]
     ·exact hpre.elim
    ·rfl
    ·rfl
    ·exact hpre.elim
   ·rfl
   ·rfl
   ·simp [cls,ho] at hc
   ·simp [cls,ho] at hc
   ·simp [cls,ho] at hc
   ·exact hpre.elim
  ·exact hpre.elim
end
end Go.Oc

namespace Go.Oc
open Go Go.RowKit
def wantA (ops:Array Oper) (s:AS) (o:Oper):Option Bool :=
 match o.guard with
 | none=>some true
 | some (g, want) =>
   match ((ops[g]?).bind (·.dst):Option Nat) with
   | none=>some false
   | some t =>
     match s.tm t with
     | .r (.bo b)=>some (b == want)
     | .r .ud=>some false
     | _=>none
def ysk:Yi:=⟨.r .ud,[]⟩
def mk (o:Oper) (y:Yi):Prop:=cls o=2∨(vcall o=true∧y.eff≠[])
def AYD (P:Program) (o:Oper) (s:AS) (y:Yi):Prop:=AY P o s y∧(mk o y→(s.rows (o.dst.getD 0)).c = .dead∧o.dst.isSome=true)
def YieldsA (P:Program) (ops:Array Oper) (o:Oper) (y:Yi) (s:AS):Prop:=(wantA ops s o=some true∧AYD P o s y)∨(wantA ops s o=some false∧y=ysk)
def qA (P:Program) (ops:Array Oper) (i:Nat) (K:AS→Prop) (s:AS):Prop :=
 match ops[i]? with
 | none=>K s
 | some o=>∃ y,YieldsA P ops o y s∧K (s.app o.dst y)
def anyA (P:Program) (ops:Array Oper) (Q:AS→Prop):Nat→Array Bool→AS→Prop
 | 0,listed,s=>Region.ready .any ops listed=[]∧Q s
 | fuel+1,listed,s=>(Region.ready .any ops listed=[]→Q s)∧∀ i∈Region.ready .any ops listed,qA P ops i (anyA P ops Q fuel (listed.setIfInBounds i true)) s
def NE (s:AS):Prop:=∃ C p a w,SR C p s a w
def noDefer:Op→Bool
 | .defer _=>false
 | _=>true
def dstOk (ops:Array Oper) (n:Nat):Bool:=ops.all fun o=>(match o.dst with|some d=>decide (d<n)|none=>true)&&noDefer o.op
section
variable {P:Program}{C:Ctx}{p:Plan}{s:AS}{a:Act}{w w':World}{o:Oper}{ops:Array Oper}
theorem app_n (s:AS) (d:Option Nat) (y:Yi):(s.app d y).n=s.n:=by cases d<;>rfl
theorem dstOk_get {n i:Nat}(h:dstOk ops n=true) (ho:ops[i]? = some o):∀ t,o.dst=some t→t<n:=by
 intro t ht
 unfold dstOk at h
 have:=Array.all_eq_true_iff_forall_mem.1 h o (Array.mem_of_getElem? ho)
 rw[ht] at this
 simp only[Bool.and_eq_true,decide_eq_true_eq] at this
 exact this.1
theorem noDefer_ne {x:Op}(h:noDefer x=true):∀ c,x ≠ .defer c:=fun c e=>by subst e;cases h
theorem dstOk_nd {n i:Nat}(h:dstOk ops n=true) (ho:ops[i]? = some o):∀ c,o.op ≠ .defer c:=by
 unfold dstOk at h
 have:=Array.all_eq_true_iff_forall_mem.1 h o (Array.mem_of_getElem? ho)
 simp only[Bool.and_eq_true] at this
 exact noDefer_ne this.2
def fnc (rd:Option Nat):Fence:={ Fence.wide with round:=rd }
theorem wpIn_of_wp {rd:Option Nat}{o:Oper}{a:Act}{w:World}{K:Act→World→Prop}{Q:Exit→Act→World→Prop}(hnd:∀ c,o.op ≠ .defer c) (h:o.wp P a w K Q):o.wpIn (fnc rd) 0 P a w K Q:=by
 refine⟨fun _ _=>trivial,?_⟩
 rw[Oper.semAt_eq _ _ _ hnd]
 unfold Oper.wp at h
 generalize (execOp a.eval o).run P w=r at h ⊢
 have nd:(fnc rd).depth.isSome=true→1≤0:=fun h=>by cases h
 cases r with
 | ok x w' =>
   cases x with
   | value v=>exact h
   | skip=>exact h
   | defer d=>exact h
   | enter f args=>exact⟨nd,(callsIn_wide (n:=0-1)).2 h⟩
   | row row args =>
     refine⟨nd,fun c cs _=>?_⟩
     obtain⟨v,w',hr,hs⟩:=h c cs
     exact⟨v,w',hr,stepsIn_wide.2 hs⟩
   | _=>exact h.elim
 | halt x w'=>cases x<;>first|exact h|exact h.elim
theorem wantA_sound (h:SR C p s a w) {b:Bool}(hw:wantA ops s o=some b):Region.wanted o (yielded ops a.tmps)=b:=by
 unfold wantA at hw
 unfold Region.wanted
 split at hw
 ·rename_i e;simp only[e];injection hw
 ·rename_i g want e
  simp only[e]
  unfold yielded
  split at hw
  ·rename_i e2
   rw[e2]
   cases hw;rfl
  ·rename_i t e2
   rw[e2]
   have ht:=h.tm t
   split at hw
   ·rename_i b' e3
    rw[e3] at ht
    simp only[AV.rel,RV.rel] at ht
    have hs:a.tmps[t]? = some (.bool b'):=by
     rw[Array.getD_eq_getD_getElem?] at ht
     cases hx:a.tmps[t]? with
     | none=>rw[hx] at ht<;>simp [undef] at ht
     | some u=>rw[hx] at ht;simp at ht;rw[ht]
    simp only[Option.bind_some,hs]
    cases hw
    cases b'<;>cases want<;>rfl
   ·rename_i e3
    rw[e3] at ht
    simp only[AV.rel,RV.rel] at ht
    cases hw
    rw[Array.getD_eq_getD_getElem?] at ht
    cases hx:a.tmps[t]? with
    | none=>simp only[Option.bind_some,hx];rfl
    | some u =>
      rw[hx] at ht
      have hu:u=undef:=ht
      subst hu
      simp only[Option.bind_some,hx,undef];rfl
   ·cases hw
theorem anyA_sound {Q:AS→Prop}{Q':Exit→Act→World→Prop}(hQ:∀ s a w,Q s→SRel C s a w→Q' .normal a w):∀ (fuel:Nat) (listed:Array Bool) (s:AS) (a:Act) (w:World) (p:Plan),dstOk ops s.n=true →
 anyA P ops Q fuel listed s→SR C p s a w→wpAnyIn (fnc C.rd) 0 P .any ops Q' fuel listed a w
 | 0,_,s,a,w,p,_,h,hs=>⟨h.1,hQ s a w h.2 ⟨p,hs⟩⟩
 | fuel+1, listed, s, a, w, p, hd, h, hs=>by
   refine⟨fun h0=>hQ s a w (h.1 h0) ⟨p,hs⟩,fun i hi=>?_⟩
   have hq:=h.2 i hi
   unfold qA at hq
   unfold wpOpIn
   split at hq
   ·rename_i e
    simp only[e];exact anyA_sound hQ fuel _ s a w p hd hq hs
   ·rename_i o e
    simp only[e]
    obtain⟨y,hy,hK⟩:=hq
    rcases hy with⟨hw,hy,_⟩|⟨hw,rfl⟩
    ·rw[if_pos (wantA_sound hs hw)]
     refine wpIn_of_wp (dstOk_nd hd e) (AY_sound hs hy (dstOk_get hd e) fun a' w' p' hs'=>?_)
     exact anyA_sound hQ fuel _ _ a' w' p' (by rw[app_n];exact hd) hK hs'
    ·rw[wantA_sound hs hw]
     simp only[Bool.false_eq_true,if_false]
     have:=hs.put' (d:=o.dst) (av:=.r .ud) (v:=undef) (by simp only[AV.rel,RV.rel]) (dstOk_get hd e)
     refine⟨fun _ _=>trivial,?_⟩
     exact anyA_sound hQ fuel _ _ _ w p (by rw[app_n];exact hd) hK this
theorem ev_put {d:Option Nat}{v:AV}{x:Operand}(h:∀ t,d=some t→x ≠ .tmp t):(s.put d v).ev x=s.ev x:=by
 cases d with
 | none=>rfl
 | some d =>
   cases x with
   | tmp t=>exact zuo _ _ (fun e=>h d rfl (by rw[e]))
   | _=>rfl
theorem step_congr {s':AS}(hr:s'.rows=s.rows) (he:∀ x∈o.op.operands,s'.ev x=s.ev x):step P o s'=step P o s:=by
 have pairs:∀ ps:Array (Nat × Operand),(∀ x∈(ps.toList.map (·.2)).toArray,s'.ev x=s.ev x)→(ps.toList.map fun (x:Nat × Operand)=>(x.1,s'.ev x.2))=ps.toList.map fun x=>(x.1,s.ev x.2):=fun ps hp =>
  List.map_congr_left fun q hm=>by rw[hp q.2 (by simpa using ⟨q.1,Array.mem_toList_iff.1 hm⟩)]
 have lists:∀ l:Array Operand,(∀ x∈l,s'.ev x=s.ev x)→l.toList.map s'.ev=l.toList.map s.ev:=fun l hl=>List.map_congr_left fun x hx=>hl x (by simpa using hx)
 have hv:s'.ver=s.ver:=by funext k;simp [AS.ver,hr]
 unfold step
 split<;>rename_i ho<;>(try rw[ho] at he)<;>(try simp only[Op.operands,Call.operands] at he)
 ·rw[he _ (by simp)]
 ·rw[he _ (by simp)]
 ·rw[he _ (by simp),he _ (by simp),he _ (by simp)]
 ·rw[he _ (by simp),he _ (by simp)]
 ·rw[he _ (by simp)]
 ·rw[he _ (by simp)]
 ·rw[he _ (by simp)];unfold sLoad;rw[hr]
 ·rw[he _ (by simp),he _ (by simp)];unfold sStore;rw[hr,hv]
 ·rw[he _ (by simp)];unfold sBox;rw[hr,hv]
 ·unfold sAlloc;rw[hr]
 ·rw[he _ (by simp)];unfold sField;rw[hv]
 ·rw[he _ (by simp)]
 ·rw[he _ (by simp),he _ (by simp)];unfold sIndex;rw[hv]
 ·rw[he _ (by simp),he _ (by simp)]
 ·rename_i t x lo hi mx
  rw[he _ (by simp)]
  have h1:lo.map s'.ev=lo.map s.ev:=by cases lo with|none=>rfl|some y=>simp only[Option.map_some];rw[he y (by simp)]
  have h2:hi.map s'.ev=hi.map s.ev:=by cases hi with|none=>rfl|some y=>simp only[Option.map_some];rw[he y (by simp)]
  have h3:mx.map s'.ev=mx.map s.ev:=by cases mx with|none=>rfl|some y=>simp only[Option.map_some];rw[he y (by simp)]
  rw[h1,h2,h3];unfold sSlice sSlice3 lenA;rw[hv,hr]
 ·rename_i t ps
  have:=pairs ps he
  rw[this];unfold sBuild;rw[hv]
 ·rename_i t n ps
  have:=pairs ps he
  rw[this];unfold sBuildSlice;rw[hv]
 ·rw[he _ (by simp),he _ (by simp)];unfold sMakeSlice;rw[hr]
 ·rename_i f first caps
  rw[lists caps (fun x hx=>he x (by simp [hx]))]
 ·rw[he _ (by simp)]
 ·rw[he _ (by simp)];unfold sNil;rw[hv]
 ·unfold sMakeMap;rw[hr]
 ·rw[he _ (by simp),he _ (by simp)];unfold sLookup;rw[hr]
 ·rw[he _ (by simp),he _ (by simp),he _ (by simp)];unfold sMapUpdate;rw[hr]
 ·rw[he _ (by simp),he _ (by simp)];unfold sMapEntry;rw[hr]
 ·rw[he _ (by simp),he _ (by simp),he _ (by simp)];unfold sEntryStore;rw[hr]
 ·rw[he _ (by simp)];unfold sRange;rw[hr]
 ·rw[he _ (by simp)];unfold sEntry;rw[hr]
 ·rename_i b args ts
  rw[lists args (fun x hx=>he x (by simpa using hx))]
  unfold sBuiltin
  split
  ·unfold sLen;rw[hv,hr]
  ·rfl
  ·rfl
  ·rename_i t t' x y _ _
   have hn:news? s' y=news? s y:=by unfold news?;rw[hr]
   unfold sAppend sAppendZ;rw[hr,hn]
  ·rfl
  ·unfold sClear;rw[hr]
  ·rfl
 ·rfl
theorem AY_congr {s':AS}(hr:s'.rows=s.rows) (he:∀ x∈o.op.operands,s'.ev x=s.ev x) {y:Yi}(h:AY P o s y):AY P o s' y:=by
 unfold AY at h ⊢
 split at h
 ·rename_i f args ts ho
  rw[ho] at he
  simp only[Op.operands,Call.operands] at he
  have h1:s'.ev f=s.ev f:=he f (by simp)
  have h2:args.toList.map s'.ev=args.toList.map s.ev:=List.map_congr_left fun x hx=>he x (by simp at hx;simp [hx])
  rcases h with⟨r,⟨F,cs,args',hF,hsn,hle,hA,hfl⟩|⟨D,hB1,hB2⟩,rfl⟩|⟨F,cs,args',t,sz,es,m,dd,hF,hsn,hle,hO,hdd,hd0,rfl⟩
  rotate_left
  ·have hv:s'.ver=s.ver:=by funext k;show (s'.rows k).ver=_;rw[hr];rfl
   exact .inl ⟨r,.inr ⟨D,by rw[h1,h2,hv,hr];exact hB1,by rw[h1,h2,hr];exact hB2⟩,rfl⟩
  rotate_right
  ·exact .inl ⟨r,.inl ⟨F,cs,args',by rw[h1];exact hF,by rw[h2,hr];exact hsn,by rw[h2,hr];exact hle,hA,by rw[h2];exact hfl⟩,rfl⟩
  ·exact .inr ⟨F,cs,args',t,sz,es,m,dd,by rw[h1];exact hF,by rw[h2,hr];exact hsn,by rw[h2,hr];exact hle,hO,hdd,hd0,by rw[hr]⟩
 ·rcases h with h|⟨x,z,t,d,rv,h1,h2,h3,h4,h5,h6⟩
  ·rw[step_congr hr he];exact .inl h
  ·have hx:=he x (by rw[h1];simp [Op.operands,Call.operands])
   have hz:=he z (by rw[h1];simp [Op.operands,Call.operands])
   have hn:∀ y,news? s' y=news? s y:=fun y=>by unfold news?;rw[hr]
   refine .inr ⟨x,z,t,d,rv,h1,h2,h3,by rw[hx];exact h4,by rw[hr];exact h5,?_⟩
   unfold frz at h6 ⊢
   rw[step_congr hr he,hx,hz,hn,hr]
   exact h6
theorem wantA_put {d:Option Nat}{v:AV}(h:∀ t,d=some t→t ∉ o.looksAt ops) (rows:Nat→Row):wantA ops (({ s with rows:=rows }:AS).put d v) o=wantA ops s o:=by
 unfold wantA
 cases hg:o.guard with
 | none=>rfl
 | some gw =>
   obtain⟨g,want⟩:=gw
   dsimp only
   cases ht:((ops[g]?).bind (·.dst):Option Nat) with
   | none=>rfl
   | some t =>
     dsimp only
     have:(({ s with rows:=rows }:AS).put d v).tm t=s.tm t:=by
      cases d with
      | none=>rfl
      | some d=>exact zuo _ _ (fun e=>h d rfl (by subst e;simp [Oper.looksAt,hg,ht]))
     rw[this]
theorem AY_eff {y:Yi}(h:AY P o s y) (hc:cls o≠3):(¬ mk o y∧y.eff=[])∨(mk o y∧∃ c,y.eff=[(o.dst.getD 0,⟨(s.rows (o.dst.getD 0)).ver+1,c⟩)] ∧
 ∀ cs,c.boxOf=some cs→(∃ x:Operand,(s.ev x).cells? s.ver=some cs)∨∃ z:List RV,cs=z.map .r):=by
 unfold AY at h
 split at h
 ·rename_i f args ts ho
  rcases h with⟨r,_,rfl⟩|⟨F,cs,args',t,sz,es,m,dd,hF,hsn,hle,hO,hdd,hd0,rfl⟩
  ·exact .inl ⟨by simp [mk,cls,vcall,ho],rfl⟩
  ·refine .inr ⟨.inr ⟨by simp [vcall,ho],by simp⟩,_,by rw[hdd,Option.getD_some],fun cs h=>by cases h⟩
 ·rcases h with h|⟨x,z,t,d,rv,h1,_⟩
  case inr=>simp [cls,h1] at hc
  rcases h with⟨hp,rfl|⟨hbs,sz,es,hne,h1,rfl⟩⟩
  rotate_left
  ·unfold isBS at hbs
   split at hbs
   ·rename_i ho;exact .inl ⟨by simp [mk,cls,vcall,ho],rfl⟩
   ·cases hbs
  unfold step at hp ⊢
  split at hp<;>rename_i ho
  ·exact .inl ⟨by simp [mk,cls,vcall,ho],rfl⟩
  ·exact .inl ⟨by simp [mk,cls,vcall,ho],rfl⟩
  ·refine .inl ⟨by simp [mk,cls,vcall,ho],?_⟩;unfold sPick at hp ⊢;split at hp<;>first|rfl|exact hp.elim
  ·refine .inl ⟨by simp [mk,cls,vcall,ho],?_⟩;unfold sBin sEq at hp ⊢;(repeat' split at hp)<;>first|rfl|exact hp.elim
  ·refine .inl ⟨by simp [mk,cls,vcall,ho],?_⟩;unfold sUn at hp ⊢;split at hp<;>first|rfl|exact hp.elim
  ·refine .inl ⟨by simp [mk,cls,vcall,ho],?_⟩;unfold sConv at hp ⊢;split at hp<;>first|rfl|exact hp.elim
  ·refine .inl ⟨by simp [mk,cls,vcall,ho],?_⟩;unfold sLoad at hp ⊢;(repeat' split at hp)<;>first|rfl|exact hp.elim
  ·simp [cls,ho] at hc
  ·refine .inr ⟨by simp [mk,cls,vcall,ho],?_⟩
   rename_i t x
   unfold sBox at hp ⊢
   split at hp
   ·rename_i cs e
    exact⟨_,rfl,fun cs' h=>by injection h with h;subst h;exact .inl ⟨x,e⟩⟩
   ·exact hp.elim
  ·refine .inr ⟨by simp [mk,cls,vcall,ho],?_⟩
   unfold sAlloc at hp ⊢
   split at hp
   ·exact⟨_,rfl,fun cs' h=>by injection h with h;subst h;exact .inr ⟨_,rfl⟩⟩
   ·exact hp.elim
  ·refine .inl ⟨by simp [mk,cls,vcall,ho],?_⟩;unfold sField at hp ⊢;(repeat' split at hp)<;>first|rfl|exact hp.elim
  ·refine .inl ⟨by simp [mk,cls,vcall,ho],?_⟩;unfold sFieldV sPart at hp ⊢;(repeat' split at hp)<;>first|rfl|exact hp.elim
  ·refine .inl ⟨by simp [mk,cls,vcall,ho],?_⟩;unfold sIndex at hp ⊢;(repeat' split at hp)<;>first|rfl|exact hp.elim
  ·refine .inl ⟨by simp [mk,cls,vcall,ho],?_⟩;unfold sIndexV sPart at hp ⊢;(repeat' split at hp)<;>first|rfl|exact hp.elim
  ·refine .inl ⟨by simp [mk,cls,vcall,ho],?_⟩;unfold sSlice sSlice3 sSliceA at hp ⊢;(repeat' split at hp)<;>first|rfl|exact hp.elim
  ·refine .inl ⟨by simp [mk,cls,vcall,ho],?_⟩;unfold sBuild at hp ⊢;(repeat' split at hp)<;>first|rfl|exact hp.elim
  ·refine .inl ⟨by simp [mk,cls,vcall,ho],?_⟩
   unfold sBuildSlice at hp ⊢
   split at hp
   ·rename_i n _ _ _ _ _ _ _ _ _ _ _
    split
    ·rfl
    ·split<;>rfl
   ·exact hp.elim
  ·refine .inr ⟨by simp [mk,cls,vcall,ho],?_⟩
   unfold sMakeSlice at hp ⊢
   split at hp
   ·exact⟨_,rfl,fun cs' h=>by cases h⟩
   ·exact hp.elim
  ·refine .inl ⟨by simp [mk,cls,vcall,ho],?_⟩;split<;>rfl
  ·refine .inl ⟨by simp [mk,cls,vcall,ho],?_⟩;unfold sExtract at hp ⊢;(repeat' split at hp)<;>first|rfl|exact hp.elim
  ·refine .inl ⟨by simp [mk,cls,vcall,ho],?_⟩;unfold sNil at hp ⊢;(repeat' split at hp)<;>first|rfl|exact hp.elim
  ·refine .inr ⟨by simp [mk,cls,vcall,ho],?_⟩
   unfold sMakeMap at hp ⊢
   split at hp
   ·exact⟨_,rfl,fun cs' h=>by cases h⟩
   ·exact hp.elim
  ·refine .inl ⟨by simp [mk,cls,vcall,ho],?_⟩;unfold sLookup at hp ⊢;(repeat' split at hp)<;>first|rfl|exact hp.elim
  ·simp [cls,ho] at hc
  ·simp [cls,ho] at hc
  ·simp [cls,ho] at hc
  ·simp [cls,ho] at hc
  ·simp [cls,ho] at hc
  ·rename_i b args ts
   unfold sBuiltin at hp ⊢
   split at hp
   ·refine .inl ⟨by simp [mk,cls,vcall,ho],?_⟩;unfold sLen at hp ⊢;(repeat' split at hp)<;>first|rfl|exact hp.elim
   ·refine .inl ⟨by simp [mk,cls,vcall,ho],?_⟩;unfold sMinMax at hp ⊢;split at hp<;>first|rfl|exact hp.elim
   ·refine .inl ⟨by simp [mk,cls,vcall,ho],?_⟩;unfold sMinMax at hp ⊢;split at hp<;>first|rfl|exact hp.elim
   ·simp [cls,ho] at hc
   ·simp [cls,ho] at hc
   ·simp [cls,ho] at hc
   ·exact hp.elim
  ·exact hp.elim
theorem AY_cls0 {y:Yi}{rows:Nat→Row}(h:AY P o s y) (hc:cls o=0):AY P o { s with rows:=rows } y:=by
 unfold AY at h ⊢
 split at h
 ·rename_i ho;simp [cls,ho] at hc
 ·rcases h with h|⟨x,z,t,d,rv,h1,_⟩
  case inr=>simp [cls,h1] at hc
  refine .inl ?_
  suffices hs:step P o { s with rows:=rows }=step P o s by rw[hs];exact h
  unfold step
  rw[ev_rows']
  split<;>rename_i ho<;>first
   | rfl
   | (simp [cls,ho] at hc;done)
   | skip
  rename_i b args ts
  unfold sBuiltin
  split<;>first
   | rfl
   | (simp [cls,ho] at hc;done)
end
end Go.Oc

namespace Go.Oc
open Go Go.RowKit
theorem cells_nr {ver:Nat→Nat}{d nv:Nat}{x:AV}{cs:List AV}(h:x.cells? ver=some cs) (hx:x.nr d nv):AV.nrL d nv cs:=by
 have one:∀ y:AV,y.nr d nv→AV.nrL d nv [y]:=fun y hy=>by simp only[AV.nrL];exact⟨hy,trivial⟩
 unfold AV.cells? at h
 split at h
 ·injection h with h;subst h;exact nr_map_r _ _ _
 ·split at h
  ·injection h with h;subst h;exact one _ hx
  ·cases h
 ·injection h with h;subst h;simpa only[AV.nr] using hx
 ·cases h
 ·injection h with h;subst h;exact one _ hx
 all_goals
  split at h
  ·injection h with h;subst h;exact one _ hx
  ·cases h
def okPair (ops:Array Oper) (x y:Oper):Bool:=x.apart ops y&&((cls x != 3&&cls y != 3) || cls x == 0 || cls y == 0)
section
variable {P:Program}{s:AS}{ops:Array Oper}
theorem NE.nr (h:NE s) {d nv:Nat}(hn:nv=s.ver d+1∨(nv=s.ver d∧(s.rows d).c = .dead)):(∀ x:Operand,(s.ev x).nr d nv)∧∀ k cs,(s.rows k).c.boxOf=some cs→AV.nrL d nv cs:=by
 obtain⟨C,p,a,w,hs⟩:=h
 have hn':nv=s.ver d+1∨(nv=s.ver d∧p.β d=none∧p.γ d=1):=by
  refine hn.imp id fun ⟨h1,h2⟩=>⟨h1,?_⟩
  have:=hs.rw d
  rw[h2] at this
  simpa only[zrl] using this
 refine⟨fun x=>rel_nr hn' _ _ (hs.ev x),fun k cs e=>?_⟩
 have:=hs.rw k
 cases hc:(s.rows k).c with
 | box cs' =>
   rw[hc] at this e
   injection e with e
   subst e
   simp only[zrl] at this
   obtain⟨b,cells,t,_,_,hV,_⟩:=this
   exact rel_nrL hn' _ _ hV
 | ara t2 sz2 cs' =>
   rw[hc] at this e
   injection e with e
   subst e
   simp only[zrl] at this
   obtain⟨b,cells,_,_,_,l,rest,_,hV,_⟩:=this
   exact rel_nrL hn' _ _ hV
 | _=>rw[hc] at e;cases e
theorem wp_exists {o:Oper}{a:Act}{w:World}{K:Act→World→Prop}(h:o.wp P a w K (fun _ _ _=>False)):∃ a' w',K a' w':=by
 unfold Oper.wp at h
 cases hr:(execOp a.eval o).run P w with
 | ok n w' =>
   rw[hr] at h
   cases n<;>simp only[Oper.upon] at h
   case value v=>exact⟨_,_,h⟩
   case skip=>exact⟨_,_,h⟩
   case defer d=>exact⟨_,_,h⟩
   case enter f args =>
    obtain⟨e,w'',fr,hR,_⟩:=h []
    cases e with
    | returned v=>exact⟨_,_,hR⟩
    | panicked c=>exact hR.elim
    | outgrown=>obtain⟨_,_,hf⟩:=hR;exact hf.elim
   case row row args =>
    obtain⟨v,w'',hR,_⟩:=h default []
    exact⟨_,_,hR⟩
 | halt x w' =>
   rw[hr] at h
   cases x<;>simp only[Oper.upon] at h
theorem NE.app (h:NE s) {o:Oper}{y:Yi}(hy:YieldsA P ops o y s) (hd:∀ t,o.dst=some t→t<s.n):NE (s.app o.dst y):=by
 obtain⟨C,p,a,w,hs⟩:=h
 rcases hy with⟨_,hy,_⟩|⟨_,rfl⟩
 ·obtain⟨a',w',p',hs'⟩:=wp_exists (AY_sound (K:=fun a' w'=>∃ p',SR C p' (s.app o.dst y) a' w') (Q:=fun _ _ _=>False) hs hy hd fun a' w' p' h=>⟨p',h⟩)
  exact⟨C,p',a',w',hs'⟩
 ·exact⟨C,p,_,w,hs.put' (av:=.r .ud) (v:=undef) (by simp only[AV.rel,RV.rel]) hd⟩
theorem zar (s:AS) (d:Option Nat) (y:Yi):(s.app d y).rows=y.rows s.rows:=by cases d<;>rfl
theorem app_tm (s:AS) (d:Option Nat) (y:Yi):(s.app d y).tm=(match d with|some d=>upd s.tm d y.av|none=>s.tm):=by cases d<;>rfl
theorem AS.ext {s s':AS}(h1:s.n=s'.n) (h2:s.tm=s'.tm) (h3:s.rows=s'.rows):s=s':=by
 cases s;cases s';simp only at h1 h2 h3;subst h1 h2 h3;rfl
theorem upd_comm {α:Type}(f:Nat→α) {j k:Nat}(h:j≠k) (x y:α):upd (upd f j x) k y=upd (upd f k y) j x:=by
 funext i
 unfold upd
 by_cases h1:i=k<;>by_cases h2:i=j
 ·exact absurd (h2.symm.trans h1) h
 ·simp [h1,Ne.symm h]
 ·simp [h2,h]
 ·simp [h1,h2]
theorem vcall_cls {o:Oper}(h:vcall o=true):cls o=1:=by
 unfold vcall at h
 split at h
 ·rename_i ho;simp [cls,ho]
 ·cases h
theorem mk_cls {o:Oper}{y:Yi}(h:mk o y):cls o=2∨cls o=1:=by
 rcases h with h|⟨h,_⟩
 ·exact .inl h
 ·exact .inr (vcall_cls h)
theorem mk_of {o:Oper}{y:Yi}{s:AS}(hc:cls o≠3) (h:AY P o s y) (h2:cls o=2∨y.eff≠[]):mk o y:=by
 rcases h2 with h2|h2
 ·exact .inl h2
 ·rcases AY_eff h hc with⟨_,h3⟩|⟨h3,_⟩
  ·exact absurd h3 h2
  ·exact h3
theorem exchange {oi oj:Oper}{y z:Yi}(hp:okPair ops oi oj=true) (hne:NE s) (hy:YieldsA P ops oi y s) (hz:YieldsA P ops oj z (s.app oi.dst y)) :
 YieldsA P ops oj z s∧YieldsA P ops oi y (s.app oj.dst z)∧(s.app oj.dst z).app oi.dst y=(s.app oi.dst y).app oj.dst z:=by
 unfold okPair at hp
 simp only[Bool.and_eq_true] at hp
 obtain⟨hap,hcls⟩:=hp
 have hcls:(cls oi≠3∧cls oj≠3)∨cls oi=0∨cls oj=0:=by simpa [or_assoc] using hcls
 obtain⟨hap1,hap2,hap3⟩:=Oper.apart_spec hap
 have effi:(¬ mk oi y→cls oi≠3→y.eff=[])∧(mk oi y→y.eff=[]∨∃ d c,oi.dst=some d∧y.eff=[(d,⟨s.ver d+1,c⟩)]∧((s.rows d).c = .dead) ∧
  ∀ cs,c.boxOf=some cs→(∃ x:Operand,(s.ev x).cells? s.ver=some cs)∨∃ z:List RV,cs=z.map .r):=by
  rcases hy with⟨_,hy,hdead⟩|⟨_,rfl⟩
  ·refine⟨fun h2 h3=>?_,fun h2=>?_⟩
   ·rcases AY_eff hy h3 with⟨_,h⟩|⟨h,_⟩
    ·exact h
    ·exact absurd h h2
   ·have h3:cls oi≠3:=by
     rcases h2 with h2|⟨h2,_⟩
     ·omega
     ·rw[vcall_cls h2];omega
    rcases AY_eff hy h3 with⟨h,_⟩|⟨_,c,he,hbx⟩
    ·exact absurd h2 h
    ·obtain⟨hd1,hd2⟩:=hdead h2
     obtain⟨d,hd⟩:=Option.isSome_iff_exists.1 hd2
     rw[hd] at he hd1
     exact .inr ⟨d,c,hd,he,hd1,hbx⟩
  ·exact⟨fun _ _=>rfl,fun _=>.inl rfl⟩
 have wj:wantA ops (s.app oi.dst y) oj=wantA ops s oj:=wantA_put hap1 _
 have wi:wantA ops (s.app oj.dst z) oi=wantA ops s oi:=wantA_put hap3 _
 have tmj:∀ x∈oj.op.operands,(s.app oi.dst y).ev x=s.ev x:=fun x hx=>by
  show (AS.put { s with rows:=y.rows s.rows } oi.dst y.av).ev x=s.ev x
  rw[ev_put (fun t ht e=>hap1 t ht (by subst e;exact List.mem_append_left _ (List.mem_filterMap.2 ⟨.tmp t,by simpa using hx,rfl⟩)))]
  exact zer x
 have hz':YieldsA P ops oj z s:=by
  rcases hz with⟨hw,hz,hdead⟩|⟨hw,hz⟩
  ·refine .inl ⟨by rw[← wj];exact hw,?_,?_⟩
   ·skip
    have h1:AY P oj { s with rows:=y.rows s.rows } z:=AY_congr (s:=s.app oi.dst y) (by rw[zar]) (fun x hx=>by rw[tmj x hx];exact zer x) hz
    by_cases h0:cls oj=0
    ·exact AY_cls0 (s:={ s with rows:=y.rows s.rows }) (rows:=s.rows) h1 h0
    ·by_cases h2:mk oi y
     ·rcases effi.2 h2 with he|⟨d,c,hd,he,_,hbx⟩
      ·have:y.rows s.rows=s.rows:=by simp [Yi.rows,he]
       rw[this] at h1;exact h1
      ·have hrows:y.rows s.rows=upd s.rows d ⟨s.ver d+1,c⟩:=by simp [Yi.rows,he]
       rw[hrows] at h1
       obtain⟨hnr,hbox⟩:=hne.nr (d:=d) (nv:=s.ver d+1) (.inl rfl)
       have hcj:cls oj≠3:=by have hk:=mk_cls h2;rcases hcls with⟨_,h⟩|h|h<;>omega
       refine AY_indep (s:={ s with rows:=upd s.rows d ⟨s.ver d+1,c⟩ }) (rows':=s.rows) (d:=d) (fun k hk=>(zuo _ _ hk).symm) (fun x=>?_) (fun k cs hk=>?_) hcj (fun hc2=>?_) h1
       ·rw[zer];simp only[zus];exact hnr x
       ·simp only[zus]
        by_cases e:k=d
        ·subst e
         simp only[zus] at hk
         rcases hbx cs hk with⟨x,hx⟩|⟨zs,rfl⟩
         ·exact cells_nr hx (hnr x)
         ·exact nr_map_r _ _ _
        ·simp only[zuo _ _ e] at hk
         exact hbox k cs hk
       ·intro e
        obtain⟨_,hs2⟩:=hdead (mk_of hcj h1 hc2)
        obtain⟨d',hd'⟩:=Option.isSome_iff_exists.1 hs2
        rw[hd'] at e
        simp only[Option.getD_some] at e
        exact hap2 d hd (by rw[hd',e])
     ·have:y.rows s.rows=s.rows:=by
       have hc3:cls oi≠3:=by rcases hcls with⟨h,_⟩|h|h<;>omega
       simp [Yi.rows,effi.1 h2 hc3]
      rw[this] at h1;exact h1
   ·intro hc2
    obtain⟨h1,h2⟩:=hdead hc2
    refine⟨?_,h2⟩
    rw[zar] at h1
    obtain⟨d',hd'⟩:=Option.isSome_iff_exists.1 h2
    rw[hd'] at h1 ⊢
    simp only[Option.getD_some] at h1 ⊢
    by_cases hi2:mk oi y
    ·rcases effi.2 hi2 with he|⟨d,c,hd,he,_⟩
     ·simpa [Yi.rows,he] using h1
     ·have:d'≠d:=fun e=>hap2 d hd (by rw[hd',e])
      simpa [Yi.rows,he,zuo _ _ this] using h1
    ·have hc3:cls oi≠3:=by have hk:=mk_cls hc2;rcases hcls with⟨h,_⟩|h|h<;>omega
     simpa [Yi.rows,effi.1 hi2 hc3] using h1
  ·exact .inr ⟨by rw[← wj];exact hw,hz⟩
 have effj:(¬ mk oj z→cls oj≠3→z.eff=[])∧(mk oj z→z.eff=[]∨∃ d c,oj.dst=some d∧z.eff=[(d,⟨s.ver d+1,c⟩)]∧((s.rows d).c = .dead)):=by
  rcases hz' with⟨_,hz,hdead⟩|⟨_,rfl⟩
  ·refine⟨fun h2 h3=>?_,fun h2=>?_⟩
   ·rcases AY_eff hz h3 with⟨_,h⟩|⟨h,_⟩
    ·exact h
    ·exact absurd h h2
   ·have h3:cls oj≠3:=by
     rcases h2 with h2|⟨h2,_⟩
     ·omega
     ·rw[vcall_cls h2];omega
    rcases AY_eff hz h3 with⟨h,_⟩|⟨_,c,he,_⟩
    ·exact absurd h2 h
    ·obtain⟨hd1,hd2⟩:=hdead h2
     obtain⟨d,hd⟩:=Option.isSome_iff_exists.1 hd2
     rw[hd] at he hd1
     exact .inr ⟨d,c,hd,he,hd1⟩
  ·exact⟨fun _ _=>rfl,fun _=>.inl rfl⟩
 refine⟨hz',?_,?_⟩
 ·skip
  rcases hy with⟨hw,hy,hdead⟩|⟨hw,hy⟩
  ·refine .inl ⟨by rw[wi];exact hw,?_,?_⟩
   ·have tmi:∀ x∈oi.op.operands,(s.app oj.dst z).ev x=s.ev x:=fun x hx=>by
     show (AS.put { s with rows:=z.rows s.rows } oj.dst z.av).ev x=s.ev x
     rw[ev_put (fun t ht e=>hap3 t ht (by subst e;exact List.mem_append_left _ (List.mem_filterMap.2 ⟨.tmp t,by simpa using hx,rfl⟩)))]
     exact zer x
    have h1:AY P oi { s with rows:=z.rows s.rows } y:=by
     by_cases h0:cls oi=0
     ·exact AY_cls0 hy h0
     ·by_cases h2:mk oj z
      ·rcases effj.2 h2 with he|⟨d,c,hd,he,hdd⟩
       ·have:z.rows s.rows=s.rows:=by simp [Yi.rows,he]
        rw[this];exact hy
       ·have hrows:z.rows s.rows=upd s.rows d ⟨s.ver d+1,c⟩:=by simp [Yi.rows,he]
        rw[hrows]
        obtain⟨hnr,hbox⟩:=hne.nr (d:=d) (nv:=s.ver d) (.inr ⟨rfl,hdd⟩)
        have hci:cls oi≠3:=by have hk:=mk_cls h2;rcases hcls with⟨h,_⟩|h|h<;>omega
        refine AY_indep (d:=d) (fun k hk=>zuo _ _ hk) hnr hbox hci (fun hc2 e=>?_) hy
        obtain⟨_,hs2⟩:=hdead (mk_of hci hy hc2)
        obtain⟨d',hd'⟩:=Option.isSome_iff_exists.1 hs2
        rw[hd'] at e
        simp only[Option.getD_some] at e
        exact hap2 d' hd' (by rw[hd,e])
      ·have hc3:cls oj≠3:=by rcases hcls with⟨_,h⟩|h|h<;>omega
       have:z.rows s.rows=s.rows:=by simp [Yi.rows,effj.1 h2 hc3]
       rw[this];exact hy
    exact AY_congr (s:={ s with rows:=z.rows s.rows }) (by rw[zar]) (fun x hx=>by rw[tmi x hx];exact (zer x).symm) h1
   ·intro hc2
    obtain⟨h1,h2⟩:=hdead hc2
    refine⟨?_,h2⟩
    rw[zar]
    obtain⟨d',hd'⟩:=Option.isSome_iff_exists.1 h2
    rw[hd'] at h1 ⊢
    simp only[Option.getD_some] at h1 ⊢
    by_cases hj2:mk oj z
    ·rcases effj.2 hj2 with he|⟨d,c,hd,he,_⟩
     ·simpa [Yi.rows,he] using h1
     ·have:d'≠d:=fun e=>hap2 d' hd' (by rw[hd,e])
      simpa [Yi.rows,he,zuo _ _ this] using h1
    ·have hc3:cls oj≠3:=by have hk:=mk_cls hc2;rcases hcls with⟨_,h⟩|h|h<;>omega
     simpa [Yi.rows,effj.1 hj2 hc3] using h1
  ·exact .inr ⟨by rw[wi];exact hw,hy⟩
 ·skip
  refine AS.ext (by simp only[app_n]) ?_ ?_
  ·rw[app_tm,app_tm,app_tm,app_tm]
   cases hi:oi.dst with
   | none=>cases oj.dst<;>rfl
   | some d =>
     cases hj:oj.dst with
     | none=>rfl
     | some d' =>
       have:d≠d':=fun e=>hap2 d hi (by rw[hj,e])
       exact upd_comm _ (Ne.symm this) _ _
  ·rw[zar,zar,zar,zar]
   by_cases hi:y.eff=[]
   ·simp [Yi.rows,hi]
   ·by_cases hj:z.eff=[]
    ·simp [Yi.rows,hj]
    ·have hi2:mk oi y:=by
      refine Classical.byContradiction fun h2=>hi ?_
      by_cases h3:cls oi=3
      ·have hj0:cls oj=0:=by rcases hcls with⟨h,_⟩|h|h<;>omega
       exact absurd (effj.1 (fun h=>by rcases h with h|⟨h,_⟩;omega;rw[vcall_cls h] at hj0;omega) (by omega)) hj
      ·exact effi.1 h2 h3
     have hj2:mk oj z:=by
      refine Classical.byContradiction fun h2=>hj ?_
      by_cases h3:cls oj=3
      ·have hk:=mk_cls hi2;rcases hcls with⟨_,h⟩|h|h<;>omega
      ·exact effj.1 h2 h3
     rcases effi.2 hi2 with h|⟨d,c,hd,he,_⟩
     ·exact absurd h hi
     ·rcases effj.2 hj2 with h|⟨d',c',hd',he',_⟩
      ·exact absurd h hj
      ·have:d≠d':=fun e=>hap2 d hd (by rw[hd',e])
       simp only[Yi.rows,he,he',List.foldl_cons,List.foldl_nil];exact upd_comm _ (Ne.symm this) _ _
def deps (ops:Array Oper) (j:Nat):List Nat :=
 match ops[j]? with
 | some o=>(o.after.toList.filter (Region.binds .any ·)).map (·.on)
 | none=>[]
def waits (ops:Array Oper):Nat→Nat→Nat→Bool
 | 0,_,_=>false
 | n+1,j,i=>(deps ops j).any fun e=>e == i || waits ops n e i
def lexOk (ops:Array Oper):Bool :=
 (List.range ops.size).all fun i=>(deps ops i).all (fun e=>decide (e<i)) &&
  (List.range ops.size).all fun j=>!decide (i<j) || waits ops ops.size j i ||
   (match ops[i]?,ops[j]? with|some x,some y=>okPair ops x y|_,_=>true)
def down (ops:Array Oper) (listed:Array Bool):Prop:=∀ j,listed.getD j false=true→∀ e∈deps ops j,listed.getD e false=true
theorem ready_deps {listed:Array Bool}{j:Nat}(h:j∈Region.ready .any ops listed):∀ e∈deps ops j,listed.getD e false=true:=by
 obtain⟨_,o,ho,hall⟩:=mem_ready.1 h
 intro e he
 unfold deps at he
 rw[ho] at he
 obtain⟨x,hx,rfl⟩:=List.mem_map.1 he
 obtain⟨hx1,hx2⟩:=List.mem_filter.1 hx
 exact hall x (by simpa using hx1) hx2
theorem down_set {listed:Array Bool}{j:Nat}(hd:down ops listed) (h:j∈Region.ready .any ops listed):down ops (listed.setIfInBounds j true):=by
 intro k hk e he
 by_cases hkj:k=j
 ·subst hkj;exact getD_set_true (ready_deps h e he)
 ·refine getD_set_true (hd k ?_ e he)
  rw[getD_set_ne false (Ne.symm hkj)] at hk;exact hk
theorem waits_listed {listed:Array Bool}(hd:down ops listed):∀ (n j i:Nat),(∀ e∈deps ops j,listed.getD e false=true)→waits ops n j i=true→listed.getD i false=true
 | 0,_,_,_,h=>by simp [waits] at h
 | n+1, j, i, hj, h=>by
   simp only[waits,List.any_eq_true,Bool.or_eq_true,beq_iff_eq] at h
   obtain⟨e,he,h|h⟩:=h
   ·subst h;exact hj e he
   ·exact waits_listed hd n e i (hd e (hj e he)) h
theorem anyA_first {Q:AS→Prop}{n i:Nat}{oi:Oper}{y:Yi}(hi:ops[i]? = some oi) (hdst:dstOk ops n=true):∀ (fuel:Nat) (listed:Array Bool) (s:AS),s.n=n→NE s→down ops listed →
 (∀ j oj,ops[j]? = some oj→j≠i→listed.getD j true=false→waits ops ops.size j i=false→okPair ops oi oj=true) →
 i∈Region.ready .any ops listed→YieldsA P ops oi y s→anyA P ops Q fuel (listed.setIfInBounds i true) (s.app oi.dst y)→anyA P ops Q (fuel+1) listed s:=by
 intro fuel
 induction fuel with
 | zero =>
   intro listed s hn hne hdown _ hr hy H
   refine⟨fun h=>(by rw[h] at hr;cases hr),fun j hj=>?_⟩
   by_cases hji:j=i
   ·subst hji;unfold qA;rw[hi];exact⟨y,hy,H⟩
   ·have:=ready_mono hj hji
    rw[H.1] at this
    cases this
 | succ fuel ih =>
   intro listed s hn hne hdown hfree hr hy H
   refine⟨fun h=>(by rw[h] at hr;cases hr),fun j hj=>?_⟩
   by_cases hji:j=i
   ·subst hji;unfold qA;rw[hi];exact⟨y,hy,H⟩
   ·have h1:=H.2 j (ready_mono hj hji)
    obtain⟨hjun,oj,hoj,_⟩:=mem_ready.1 hj
    have hjun':listed.getD j true=false:=hjun
    have hnw:waits ops ops.size j i=false:=by
     refine Decidable.byContradiction fun hw=>?_
     have hw:waits ops ops.size j i=true:=by simpa using hw
     have h2:=waits_listed hdown _ _ _ (ready_deps hj) hw
     have h3:=(mem_ready.1 hr).1
     rcases Nat.lt_or_ge i listed.size with h'|h'
     ·simp [h'] at h2 h3;rw[h3] at h2;cases h2
     ·simp [Array.getElem?_eq_none h'] at h2
    have hpair:=hfree j oj hoj hji hjun' hnw
    unfold qA at h1 ⊢
    rw[hoj] at h1 ⊢
    obtain⟨z,hz,hK⟩:=h1
    obtain⟨hz',hy',heq⟩:=exchange hpair hne hy hz
    refine⟨z,hz',?_⟩
    refine ih (listed.setIfInBounds j true) (s.app oj.dst z) (by rw[app_n];exact hn) (hne.app hz' (by rw[hn];exact dstOk_get hdst hoj)) (down_set hdown hj) (fun k ok hk hki hun hno=>?_) (ready_mono hr (Ne.symm hji)) hy' ?_
    ·refine hfree k ok hk hki ?_ hno
     by_cases hjk:j=k
     ·subst hjk;exact hjun'
     ·rw[getD_set_ne true hjk] at hun;exact hun
    ·rw[Array.setIfInBounds_comm _ _ hji,heq]
     exact hK
def lexA (P:Program) (ops:Array Oper) (Q:AS→Prop):List Oper→AS→Prop
 | [],s=>Q s
 | o::rest,s=>∃ y,YieldsA P ops o y s∧lexA P ops Q rest (s.app o.dst y)
theorem lexOk_spec (h:lexOk ops=true) {i:Nat}(hi:i<ops.size):(∀ e∈deps ops i,e<i)∧∀ j,i<j→j<ops.size→waits ops ops.size j i=false→∀ x y,ops[i]? = some x→ops[j]? = some y→okPair ops x y=true:=by
 unfold lexOk at h
 have:=List.all_eq_true.1 h i (by simpa using hi)
 simp only[Bool.and_eq_true,List.all_eq_true,decide_eq_true_eq] at this
 refine⟨this.1,fun j hij hj hw x y hx hy=>?_⟩
 have h2:=this.2 j (by simpa using hj)
 rw[hx,hy] at h2
 simpa [hij,hw] using h2
theorem anyA_lex {Q:AS→Prop}{n:Nat}(hB:lexOk ops=true) (hdst:dstOk ops n=true):∀ (l:List Oper) (k:Nat) (listed:Array Bool) (s:AS),(∀ j,l[j]? = ops[k+j]?)→k+l.length=ops.size→listed.size=ops.size →
 (∀ j,j<ops.size→listed.getD j false=decide (j<k))→s.n=n→NE s→lexA P ops Q l s→anyA P ops Q l.length listed s
 | [], k, listed, s, _, hlen, hsz, hl, _, _, h=>by
   refine⟨?_,h⟩
   refine List.eq_nil_iff_forall_not_mem.2 fun j hj=>?_
   obtain⟨h1,o,ho,_⟩:=mem_ready.1 hj
   have hj':j<ops.size:=(Array.getElem?_eq_some_iff.1 ho).1
   have h2:=hl j hj'
   simp only[List.length_nil,Nat.add_zero] at hlen
   have hjl:j<listed.size:=by omega
   simp [hjl] at h1 h2
   rw[h1] at h2
   have:j<k:=by omega
   simp [this] at h2
 | o::l, k, listed, s, hlk, hlen, hsz, hl, hn, hne, h=>by
   simp only[List.length_cons] at hlen
   have hk:k<ops.size:=by omega
   have ho:ops[k]? = some o:=by simpa using (hlk 0).symm
   obtain⟨hdeps,hpairs⟩:=lexOk_spec hB hk
   obtain⟨y,hy,hrest⟩:=h
   have hunk:listed.getD k false=false:=by rw[hl k hk];simp
   have hsame:∀ j,j<ops.size→listed.getD j true=listed.getD j false:=fun j hj=>by
    have:j<listed.size:=by omega
    simp [this]
   have hready:k∈Region.ready .any ops listed:=by
    refine mem_ready.2 ⟨by rw[hsame k hk];exact hunk,o,ho,fun e he hb=>?_⟩
    have:e.on<k:=hdeps e.on (by unfold deps;rw[ho];exact List.mem_map.2 ⟨e,List.mem_filter.2 ⟨by simpa using he,hb⟩,rfl⟩)
    rw[hl e.on (by omega)];simpa using this
   have hdown:down ops listed:=fun j hj e he=>by
    by_cases hjs:j<ops.size
    ·rw[hl j hjs] at hj
     have hjk:j<k:=by simpa using hj
     have:=(lexOk_spec hB hjs).1 e he
     rw[hl e (by omega)];simp;omega
    ·have:¬ j<listed.size:=by omega
     simp [Array.getElem?_eq_none (Nat.le_of_not_lt this)] at hj
   refine anyA_first ho hdst l.length listed s hn hne hdown (fun j oj hj hjk hun hw=>?_) hready hy ?_
   ·have hj':j<ops.size:=(Array.getElem?_eq_some_iff.1 hj).1
    rw[hsame j hj',hl j hj'] at hun
    have:k<j:=by simp at hun;omega
    exact hpairs j this hj' hw o oj ho hj
   ·refine anyA_lex hB hdst l (k+1) _ _ (fun j=>by have:=hlk (j+1);simpa [Nat.add_assoc,Nat.add_comm 1 j] using this) (by omega) (by simpa using hsz) (fun j hj=>?_) (by rw[app_n];exact hn) (hne.app hy (by rw[hn];exact dstOk_get hdst ho)) hrest
    by_cases hjk:k=j
    ·subst hjk
     have:k<listed.size:=by omega
     simp [this]
    ·rw[getD_set_ne false hjk,hl j hj]
     simp;omega
theorem region_draw {C:Ctx}{id:Nat}{a:Act}{w:World}{Q:AS→Prop}{Q':Exit→Act→World→Prop}(hm:P.follows .mixedOrders=true) (hB:lexOk ops=true) (hd:dstOk ops s.n=true)
 (hs:SRel C s a w) (hQ:∀ s a w,Q s→SRel C s a w→Q' .normal a w) (h:lexA P ops Q ops.toList s):(Code.region id ops true).wpIn (fnc C.rd) 0 P Q' a w:=by
 obtain⟨p,hs⟩:=hs
 have hs':SR C p s a { w with drawn:=w.drawn+1 }:=hs.below (w':=w.drew) ((Below.refl _ _).drew) (fun _ h=>h) (fun _ h=>.inl h) hs.rb
 refine wpIn_region_any hm (anyA_sound hQ _ _ _ _ _ p hd ?_ hs')
 have:=anyA_lex (n:=s.n) hB hd ops.toList 0 (Array.replicate ops.size false) s (by simp) (by simp) (by simp) (fun j hj=>by simp [hj]) rfl ⟨C,p,a,w,hs⟩ h
 simpa using this
end
end Go.Oc

namespace Go.Oc
open Go Go.RowKit
def lookc (l:List (Nat × RowC)):Nat→RowC
 | j=>match l with
   | []=>.dead
   | (k,v)::l=>if j=k then v else lookc l j
theorem lookc_nil {j:Nat}:lookc [] j = .dead:=rfl
theorem zlc {k j:Nat}{v:RowC}{cs:List (Nat × RowC)}:lookc ((k,v)::cs) j=if j=k then v else lookc cs j:=rfl
def MCalls (P:Program) (f:FuncId) (L L':List (Nat × RowC)) (args:List AV) (r:AV):Prop :=
 callable P f=true∧∀ (w:World) (p:Plan) (vs:Array Value),p.X=XS.none∧p.Ψ=(fun _=>False)∧p.Θ=(fun _=>False) →
  (∀ b,p.R b→b<w.heap.size)→(∀ k b,p.β k=some b→b<w.heap.size∧¬ p.R b)→(∀ k k' b,p.β k=some b→p.β k'=some b→k=k')→(∀ k,p.γ k≤maxLen) →
  (∀ k,zrl w p (fun _=>0) k (lookc L k))→AV.relV w p (fun _=>0) args vs.toList →
  Calls P f vs w fun e w'=>∃ v R',e = .returned v∧(w'.os=w.os∧w'.tape=w.tape∧w'.output=w.output∧w.heap.size≤w'.heap.size) ∧
   (∀ k,k<w.heap.size→(∀ j,p.β j≠some k)→w'.heap[k]? = w.heap[k]?)∧(∀ b,p.R b→R' b)∧(∀ b,R' b→p.R b∨w.heap.size≤b)∧(∀ b,R' b→b<w'.heap.size) ∧
   (∀ k,zrl w' { p with R:=R' } (fun _=>0) k (lookc L' k))∧r.rel w' { p with R:=R' } (fun _=>0) v
def zLk:List (Nat × Nat)→Nat→Option Nat
 | [],_=>none
 | (pk,k)::ρ,ck=>if ck=k then some pk else zLk ρ ck
def pinOf:List (Nat × Nat)→Nat→Option Nat
 | [],_=>none
 | (pk,k)::ρ,j=>if j=pk then some k else pinOf ρ j
mutual
def lendA (ρ:List (Nat × Nat)) (ver:Nat→Nat):AV→Option AV
 | .r v=>some (.r v)
 | .pt k n off=>match zLk ρ k with|some pk=>if n=ver k then some (.pt pk 0 off) else none|none=>none
 | .pe k n sz idx off=>match zLk ρ k with|some pk=>if n=ver k then some (.pe pk 0 sz idx off) else none|none=>none
 | .os k n sz off m=>match zLk ρ k with|some pk=>if n=ver k then some (.os pk 0 sz off m) else none|none=>none
 | .mp k n=>match zLk ρ k with|some pk=>if n=ver k then some (.mp pk 0) else none|none=>none
 | .fn f cs=>match lendL ρ ver cs with|some xs=>some (.fn f xs)|none=>none
 | .ag cs=>match lendL ρ ver cs with|some xs=>some (.ag xs)|none=>none
 | .tu _=>none
 | .mi _ _=>none
 | .pu k n u=>match zLk ρ k with|some pk=>if n=ver k then some (.pu pk 0 u) else none|none=>none
def lendL (ρ:List (Nat × Nat)) (ver:Nat→Nat):List AV→Option (List AV)
 | []=>some []
 | x::xs=>match lendA ρ ver x,lendL ρ ver xs with|some y,some ys=>some (y::ys)|_,_=>none
end
def lendC (ρ:List (Nat × Nat)) (ver:Nat→Nat):RowC→Option RowC
 | .box cs=>match lendL ρ ver cs with|some xs=>some (.box xs)|none=>none
 | .arr t sz es=>some (.arr t sz es)
 | .mp m=>some (.mp m)
 | .mem Φ=>some (.mem Φ)
 | .ara t sz cs=>match lendL ρ ver cs with|some xs=>some (.ara t sz xs)|none=>none
 | _=>none
def lendOk (ρ:List (Nat × Nat)) (s:AS):List (Nat × Nat)→List (Nat × RowC)→Prop
 | [],[]=>True
 | (pk,ck)::l,(k,c)::L=>k=pk∧lendC ρ s.ver (s.rows ck).c=some c∧lendOk ρ s l L
 | _,_=>False
mutual
def backA (ρ:List (Nat × Nat)) (ver:Nat→Nat):AV→AV
 | .r v=>.r v
 | .pt k _ off=>match pinOf ρ k with|some ck=>.pt ck (ver ck) off|none=>.r .un
 | .pe k _ sz idx off=>match pinOf ρ k with|some ck=>.pe ck (ver ck) sz idx off|none=>.r .un
 | .os k _ sz off m=>match pinOf ρ k with|some ck=>.os ck (ver ck) sz off m|none=>.r .un
 | .mp k _=>match pinOf ρ k with|some ck=>.mp ck (ver ck)|none=>.r .un
 | .fn f cs=>.fn f (backL ρ ver cs)
 | .ag cs=>.ag (backL ρ ver cs)
 | .tu cs=>.tu (backL ρ ver cs)
 | .mi _ _=>.r .un
 | .pu k _ u=>match pinOf ρ k with|some ck=>.pu ck (ver ck) u|none=>.r .un
def backL (ρ:List (Nat × Nat)) (ver:Nat→Nat):List AV→List AV
 | []=>[]
 | x::xs=>backA ρ ver x::backL ρ ver xs
end
def backC (ρ:List (Nat × Nat)) (ver:Nat→Nat):RowC→RowC
 | .box cs=>.box (backL ρ ver cs)
 | .arr t sz es=>.arr t sz es
 | .mp m=>.mp m
 | .mem Φ=>.mem Φ
 | .ara t sz cs=>.ara t sz (backL ρ ver cs)
 | _=>.dead
def okC:RowC→Bool
 | .box _=>true
 | .arr ..=>true
 | .mp _=>true
 | .mem _=>true
 | _=>false
def okN:RowC→Bool
 | .ara ..=>true
 | c=>okC c
theorem okN_of {c:RowC}(h:okC c=true):okN c=true:=by cases c<;>first|exact h|rfl
def backRows (ρ:List (Nat × Nat)) (ver:Nat→Nat) (L':List (Nat × RowC)):List (Nat × Nat)→(Nat→Row)→Nat→Row
 | [],rows=>rows
 | (pk,ck)::l,rows=>backRows ρ ver L' l (upd rows ck ⟨ver ck,backC ρ ver (lookc L' pk)⟩)
def apart:List (Nat × Nat)→Bool
 | []=>true
 | (pk,ck)::l=>(pinOf l pk).isNone&&(zLk l ck).isNone&&apart l
def sameKeys:List (Nat × Nat)→List (Nat × RowC)→Bool
 | [],[]=>true
 | (pk,_)::l,(k,c)::L=>decide (pk=k)&&okC c&&sameKeys l L
 | _,_=>false
def AS.backs (s:AS) (ρ:List (Nat × Nat)) (L':List (Nat × RowC)):AS:={ s with rows:=backRows ρ s.ver L' ρ s.rows }
def mcall (P:Program) (s:AS) (d:Option Nat) (f:AV) (xs:List AV) (K:AS→Prop):Prop :=
 ∃ F cs ρ L L' args r,callee? f=some (F,cs)∧lendL ρ s.ver (xs++cs)=some args∧lendOk ρ s ρ L∧apart ρ=true∧sameKeys ρ L'=true∧MCalls P F L L' args r∧K (AS.put (s.backs ρ L') d (backA ρ s.ver r))
section
variable {P:Program}{C:Ctx}{p:Plan}{s:AS}{a:Act}{w w':World}{o:Oper}
theorem pin_lend:∀ {ρ:List (Nat × Nat)}{pk ck:Nat},apart ρ=true→zLk ρ ck=some pk→pinOf ρ pk=some ck
 | [],_,_,_,h=>by simp [zLk] at h
 | (a, b)::ρ, pk, ck, ha, h=>by
   simp only[apart,Bool.and_eq_true] at ha
   simp only[zLk] at h
   simp only[pinOf]
   split at h
   ·rename_i e
    injection h with h
    subst e h
    simp
   ·have:=pin_lend ha.2 h
    by_cases e:pk=a
    ·subst e
     rw[this] at ha
     simp at ha
    ·simpa [e] using this
theorem pinOf_inj:∀ {ρ:List (Nat × Nat)}{j j' ck:Nat},apart ρ=true→pinOf ρ j=some ck→pinOf ρ j'=some ck→j=j'
 | [],_,_,_,_,h,_=>by simp [pinOf] at h
 | (a, b)::ρ, j, j', ck, ha, h, h'=>by
   simp only[apart,Bool.and_eq_true] at ha
   simp only[pinOf] at h h'
   have lk:∀ {ρ:List (Nat × Nat)}{j ck:Nat},pinOf ρ j=some ck→(zLk ρ ck).isSome=true:=fun {ρ j ck}=>by
    induction ρ with
    | nil=>intro h;simp [pinOf] at h
    | cons q ρ ih =>
      obtain⟨x,y⟩:=q
      intro h
      simp only[pinOf] at h
      simp only[zLk]
      split at h
      ·injection h with h;subst h;simp
      ·split
       ·rfl
       ·exact ih h
   split at h<;>split at h'
   ·rename_i e1 e2;rw[e1,e2]
   ·rename_i e1 e2
    injection h with h;subst h
    have:=lk h'
    rw[Option.isNone_iff_eq_none.1 ha.1.2] at this;cases this
   ·rename_i e1 e2
    injection h' with h';subst h'
    have:=lk h
    rw[Option.isNone_iff_eq_none.1 ha.1.2] at this;cases this
   ·exact pinOf_inj ha.2 h h'
def zlp (ρ:List (Nat × Nat)) (p:Plan):Plan :=
 { R:=p.R,β:=fun k=>match pinOf ρ k with|some ck=>p.β ck|none=>none,γ:=fun k=>match pinOf ρ k with|some ck=>p.γ ck|none=>1 }
theorem lendPlan_pin {ρ:List (Nat × Nat)}{pk ck:Nat}(h:pinOf ρ pk=some ck):(zlp ρ p).β pk=p.β ck∧(zlp ρ p).γ pk=p.γ ck:=by simp [zlp,h]
mutual
theorem lend_rel {ρ:List (Nat × Nat)}{ver:Nat→Nat}(ha:apart ρ=true):∀ (x y:AV) (v:Value),lendA ρ ver x=some y→x.rel w p ver v→y.rel w (zlp ρ p) (fun _=>0) v
 | .r x,y,v,h,hv=>by simp only[lendA,Option.some.injEq] at h;subst h;simp only[AV.rel] at hv ⊢;exact hv
 | .pt k n off, y, v, h, hv=>by
   simp only[lendA] at h
   split at h
   ·rename_i pk e
    split at h
    ·rename_i hn
     injection h with h;subst h
     simp only[AV.rel] at hv ⊢
     rw[(lendPlan_pin (p:=p) (pin_lend ha e)).1]
     exact⟨Nat.le_refl _,fun _=>hv.2 hn⟩
    ·cases h
   ·cases h
 | .pe k n sz idx off, y, v, h, hv=>by
   simp only[lendA] at h
   split at h
   ·rename_i pk e
    split at h
    ·rename_i hn
     injection h with h;subst h
     simp only[AV.rel] at hv ⊢
     rw[(lendPlan_pin (p:=p) (pin_lend ha e)).1]
     exact⟨Nat.le_refl _,fun _=>hv.2 hn⟩
    ·cases h
   ·cases h
 | .os k n sz off m, y, v, h, hv=>by
   simp only[lendA] at h
   split at h
   ·rename_i pk e
    split at h
    ·rename_i hn
     injection h with h;subst h
     simp only[AV.rel] at hv ⊢
     rw[(lendPlan_pin (p:=p) (pin_lend ha e)).1,(lendPlan_pin (p:=p) (pin_lend ha e)).2]
     exact⟨Nat.le_refl _,fun _=>hv.2 hn⟩
    ·cases h
   ·cases h
 | .mp k n, y, v, h, hv=>by
   simp only[lendA] at h
   split at h
   ·rename_i pk e
    split at h
    ·rename_i hn
     injection h with h;subst h
     simp only[AV.rel] at hv ⊢
     rw[(lendPlan_pin (p:=p) (pin_lend ha e)).1]
     exact⟨Nat.le_refl _,fun _=>hv.2 hn⟩
    ·cases h
   ·cases h
 | .fn f cs, y, v, h, hv=>by
   simp only[lendA] at h
   split at h
   ·rename_i xs e
    injection h with h;subst h
    simp only[AV.rel] at hv ⊢
    obtain⟨vs,e1,hV⟩:=hv
    exact⟨vs,e1,lend_relV ha cs xs _ e hV⟩
   ·cases h
 | .ag cs, y, v, h, hv=>by
   simp only[lendA] at h
   split at h
   ·rename_i xs e
    injection h with h;subst h
    simp only[AV.rel] at hv ⊢
    obtain⟨vs,e1,h1,hV⟩:=hv
    exact⟨vs,e1,h1,lend_relV ha cs xs _ e hV⟩
   ·cases h
 | .tu _,_,_,h,_=>by simp [lendA] at h
 | .mi _ _,_,_,h,_=>by simp [lendA] at h
 | .pu k n u, y, v, h, hv=>by
   simp only[lendA] at h
   split at h
   ·rename_i pk e
    split at h
    ·rename_i hn
     injection h with h;subst h
     simp only[AV.rel] at hv ⊢
     rw[(lendPlan_pin (p:=p) (pin_lend ha e)).1]
     exact⟨hv.1,Nat.le_refl _,fun _=>hv.2.2 hn⟩
    ·cases h
   ·cases h
theorem lend_relV {ρ:List (Nat × Nat)}{ver:Nat→Nat}(ha:apart ρ=true):∀ (xs ys:List AV) (vs:List Value),lendL ρ ver xs=some ys→AV.relV w p ver xs vs→AV.relV w (zlp ρ p) (fun _=>0) ys vs
 | [],ys,vs,h,hV=>by simp only[lendL,Option.some.injEq] at h;subst h;simpa only[AV.relV] using hV
 | x::xs, ys, vs, h, hV=>by
   simp only[lendL] at h
   split at h
   ·rename_i y ys' e1 e2
    injection h with h;subst h
    simp only[AV.relV] at hV ⊢
    obtain⟨u,us,e,h1,h2⟩:=hV
    exact⟨u,us,e,lend_rel ha x y u e1 h1,lend_relV ha xs ys' us e2 h2⟩
   ·cases h
end
theorem lendC_rel {ρ:List (Nat × Nat)}(ha:apart ρ=true) {ver:Nat→Nat}{pk ck:Nat}(hpk:pinOf ρ pk=some ck) {c c':RowC}(h:lendC ρ ver c=some c') (hr:zrl w p ver ck c):zrl w (zlp ρ p) (fun _=>0) pk c':=by
 obtain⟨hβ,hγ⟩:=lendPlan_pin (p:=p) hpk
 unfold lendC at h
 split at h
 ·split at h
  ·rename_i cs _ xs e
   injection h with h;subst h
   simp only[zrl] at hr ⊢
   obtain⟨b,cells,t,h1,h2,h3,h4⟩:=hr
   exact⟨b,cells,t,hβ.trans h1,h2,lend_relV ha cs xs _ e h3,h4⟩
  ·cases h
 ·injection h with h;subst h
  simp only[zrl] at hr ⊢
  rw[hβ,hγ];exact hr
 ·injection h with h;subst h
  simp only[zrl] at hr ⊢
  rw[hβ];exact hr
 ·injection h with h;subst h
  simp only[zrl] at hr ⊢
  rw[hβ];exact hr
 ·split at h
  ·rename_i cs _ xs e
   injection h with h;subst h
   simp only[zrl] at hr ⊢
   rw[hβ,hγ]
   obtain⟨b,cells,h1,h2,h3,l,rest,h4,h5,h6⟩:=hr
   exact⟨b,cells,h1,h2,h3,l,rest,h4,lend_relV ha cs xs _ e h5,h6⟩
  ·cases h
 ·cases h
mutual
theorem back_rel {ρ:List (Nat × Nat)}{R':Nat→Prop}{ver:Nat→Nat}:∀ (x:AV) (v:Value),x.rel w { zlp ρ p with R:=R' } (fun _=>0) v→(backA ρ ver x).rel w { p with R:=R' } ver v
 | .r x,v,hv=>by simp only[AV.rel] at hv;simp only[backA,AV.rel];exact hv
 | .pt k n off, v, hv=>by
   simp only[AV.rel] at hv
   simp only[backA]
   split
   ·rename_i ck e
    simp only[AV.rel]
    refine⟨Nat.le_refl _,fun _=>?_⟩
    have:=hv.2 (Nat.le_zero.1 hv.1)
    rwa [show ({ zlp ρ p with R:=R' }:Plan).β k=p.β ck from (lendPlan_pin e).1] at this
   ·exact AV.rel_un _ _ _ _
 | .pe k n sz idx off, v, hv=>by
   simp only[AV.rel] at hv
   simp only[backA]
   split
   ·rename_i ck e
    simp only[AV.rel]
    refine⟨Nat.le_refl _,fun _=>?_⟩
    have:=hv.2 (Nat.le_zero.1 hv.1)
    rwa [show ({ zlp ρ p with R:=R' }:Plan).β k=p.β ck from (lendPlan_pin e).1] at this
   ·exact AV.rel_un _ _ _ _
 | .os k n sz off m, v, hv=>by
   simp only[AV.rel] at hv
   simp only[backA]
   split
   ·rename_i ck e
    simp only[AV.rel]
    refine⟨Nat.le_refl _,fun _=>?_⟩
    have:=hv.2 (Nat.le_zero.1 hv.1)
    rwa [show ({ zlp ρ p with R:=R' }:Plan).β k=p.β ck from (lendPlan_pin e).1,show ({ zlp ρ p with R:=R' }:Plan).γ k=p.γ ck from (lendPlan_pin e).2] at this
   ·exact AV.rel_un _ _ _ _
 | .mp k n, v, hv=>by
   simp only[AV.rel] at hv
   simp only[backA]
   split
   ·rename_i ck e
    simp only[AV.rel]
    refine⟨Nat.le_refl _,fun _=>?_⟩
    have:=hv.2 (Nat.le_zero.1 hv.1)
    rwa [show ({ zlp ρ p with R:=R' }:Plan).β k=p.β ck from (lendPlan_pin e).1] at this
   ·exact AV.rel_un _ _ _ _
 | .fn f cs, v, hv=>by
   simp only[AV.rel] at hv
   simp only[backA,AV.rel]
   obtain⟨vs,e,hV⟩:=hv
   exact⟨vs,e,back_relV cs _ hV⟩
 | .ag cs, v, hv=>by
   simp only[AV.rel] at hv
   simp only[backA,AV.rel]
   obtain⟨vs,e,h1,hV⟩:=hv
   exact⟨vs,e,h1,back_relV cs _ hV⟩
 | .tu cs, v, hv=>by
   simp only[AV.rel] at hv
   simp only[backA,AV.rel]
   obtain⟨vs,e,hV⟩:=hv
   exact⟨vs,e,back_relV cs _ hV⟩
 | .mi _ _,_,_=>by simp only[backA];exact AV.rel_un _ _ _ _
 | .pu k n u, v, hv=>by
   simp only[AV.rel] at hv
   simp only[backA]
   split
   ·rename_i ck e
    simp only[AV.rel]
    refine⟨hv.1,Nat.le_refl _,fun _=>?_⟩
    have:=hv.2.2 (Nat.le_zero.1 hv.2.1)
    rwa [show ({ zlp ρ p with R:=R' }:Plan).β k=p.β ck from (lendPlan_pin e).1] at this
   ·exact AV.rel_un _ _ _ _
theorem back_relV {ρ:List (Nat × Nat)}{R':Nat→Prop}{ver:Nat→Nat}:∀ (xs:List AV) (vs:List Value),AV.relV w { zlp ρ p with R:=R' } (fun _=>0) xs vs→AV.relV w { p with R:=R' } ver (backL ρ ver xs) vs
 | [],_,hV=>by simp only[AV.relV] at hV;simp only[backL,AV.relV];exact hV
 | x::xs, _, hV=>by
   simp only[AV.relV] at hV
   obtain⟨u,us,e,h1,h2⟩:=hV
   simp only[backL,AV.relV];exact⟨u,us,e,back_rel x u h1,back_relV xs us h2⟩
end
theorem backC_rel {ρ:List (Nat × Nat)}{R':Nat→Prop}{ver:Nat→Nat}{pk ck:Nat}(hpk:pinOf ρ pk=some ck) {c:RowC}(hok:okN c=true) (hr:zrl w { zlp ρ p with R:=R' } (fun _=>0) pk c):zrl w { p with R:=R' } ver ck (backC ρ ver c):=by
 obtain⟨hβ,hγ⟩:=lendPlan_pin (p:=p) hpk
 cases c with
 | box cs =>
   simp only[zrl] at hr
   simp only[backC,zrl]
   obtain⟨b,cells,t,h1,h2,h3,h4⟩:=hr
   exact⟨b,cells,t,hβ.symm.trans h1,h2,back_relV cs _ h3,h4⟩
 | arr t sz es =>
   simp only[zrl] at hr
   simp only[backC,zrl]
   rw[show ({ zlp ρ p with R:=R' }:Plan).β pk=p.β ck from hβ,show ({ zlp ρ p with R:=R' }:Plan).γ pk=p.γ ck from hγ] at hr
   exact hr
 | mp m =>
   simp only[zrl] at hr
   simp only[backC,zrl]
   rw[show ({ zlp ρ p with R:=R' }:Plan).β pk=p.β ck from hβ] at hr
   exact hr
 | mem Φ =>
   simp only[zrl] at hr
   simp only[backC,zrl]
   rw[show ({ zlp ρ p with R:=R' }:Plan).β pk=p.β ck from hβ] at hr
   exact hr
 | ara t sz cs =>
   simp only[zrl] at hr
   simp only[backC,zrl]
   rw[show ({ zlp ρ p with R:=R' }:Plan).β pk=p.β ck from hβ,show ({ zlp ρ p with R:=R' }:Plan).γ pk=p.γ ck from hγ] at hr
   obtain⟨b,cells,h1,h2,h3,l,rest,h4,h5,h6⟩:=hr
   exact⟨b,cells,h1,h2,h3,l,rest,h4,back_relV cs _ h5,h6⟩
 | _=>simp [okN,okC] at hok
theorem lendOk_get {ρ:List (Nat × Nat)}:∀ {l:List (Nat × Nat)}{L:List (Nat × RowC)},lendOk ρ s l L→(∀ pk ck,pinOf l pk=some ck→lendC ρ s.ver (s.rows ck).c=some (lookc L pk))∧∀ pk,pinOf l pk=none→lookc L pk = .dead
 | [],[],_=>⟨fun _ _ h=>by simp [pinOf] at h,fun _ _=>rfl⟩
 | [],_::_,h=>by simp [lendOk] at h
 | _::_,[],h=>by simp [lendOk] at h
 | (a, b)::l, (k, c)::L, h=>by
   simp only[lendOk] at h
   obtain⟨rfl,h1,h2⟩:=h
   obtain⟨g1,g2⟩:=lendOk_get h2
   refine⟨fun pk ck hp=>?_,fun pk hp=>?_⟩
   ·simp only[pinOf] at hp
    simp only[zlc]
    split at hp
    ·rename_i e
     injection hp with hp;subst hp
     simp [e,h1]
    ·rename_i e
     simp only[e,if_false];exact g1 pk ck hp
   ·simp only[pinOf] at hp
    simp only[zlc]
    split at hp
    ·cases hp
    ·rename_i e
     simp only[e,if_false];exact g2 pk hp
theorem backRows_get {ρ:List (Nat × Nat)}{ver:Nat→Nat}{L':List (Nat × RowC)}:∀ {l:List (Nat × Nat)}{rows:Nat→Row},apart l=true →
 ∀ j,(zLk l j=none→backRows ρ ver L' l rows j=rows j)∧∀ pk,zLk l j=some pk→backRows ρ ver L' l rows j=⟨ver j,backC ρ ver (lookc L' pk)⟩
 | [],rows,_,j=>⟨fun _=>rfl,fun _ h=>by simp [zLk] at h⟩
 | (a, b)::l, rows, ha, j=>by
   simp only[apart,Bool.and_eq_true] at ha
   obtain⟨g1,g2⟩:=backRows_get (ρ:=ρ) (ver:=ver) (L':=L') (rows:=upd rows b ⟨ver b,backC ρ ver (lookc L' a)⟩) ha.2 j
   simp only[zLk,backRows]
   refine⟨fun h=>?_,fun pk h=>?_⟩
   ·split at h
    ·cases h
    ·rename_i e
     rw[g1 h,zuo _ _ e]
   ·split at h
    ·rename_i e
     injection h with h
     subst e h
     rw[g1 (Option.isNone_iff_eq_none.1 ha.1.2),zus]
    ·exact g2 pk h
theorem sameKeys_ok:∀ {l:List (Nat × Nat)}{L':List (Nat × RowC)},sameKeys l L'=true→∀ pk,(pinOf l pk).isSome=true→okC (lookc L' pk)=true
 | [],[],_,pk,h=>by simp [pinOf] at h
 | [],_::_,h,_,_=>by simp [sameKeys] at h
 | _::_,[],h,_,_=>by simp [sameKeys] at h
 | (a, b)::l, (k, c)::L, h, pk, hp=>by
   simp only[sameKeys,Bool.and_eq_true,decide_eq_true_eq] at h
   obtain⟨⟨rfl,h1⟩,h2⟩:=h
   simp only[pinOf] at hp
   simp only[zlc]
   by_cases e:pk=a
   ·simpa [e] using h1
   ·simp only[e,if_false] at hp ⊢
    exact sameKeys_ok h2 pk hp
theorem lendKey_of_pin:∀ {ρ:List (Nat × Nat)}{pk ck:Nat},apart ρ=true→pinOf ρ pk=some ck→zLk ρ ck=some pk
 | [],_,_,_,h=>by simp [pinOf] at h
 | (a, b)::ρ, pk, ck, ha, h=>by
   simp only[apart,Bool.and_eq_true] at ha
   simp only[pinOf] at h
   simp only[zLk]
   split at h
   ·rename_i e
    injection h with h
    subst e h
    simp
   ·have:=lendKey_of_pin ha.2 h
    by_cases e:ck=b
    ·subst e
     rw[Option.isNone_iff_eq_none.1 ha.1.2] at this;cases this
    ·simpa [e] using this
theorem mcall_sound (h:SR C p s a w) {f:Operand}{args:Array Operand}{ts:Array TypeId}(ho:o.op = .call ⟨.value f,args,ts⟩) {KA:AS→Prop}(hm:mcall P s o.dst (s.ev f) (args.toList.map s.ev) KA)
 (hd:∀ t,o.dst=some t→t<s.n) {K:Act→World→Prop}{Q:Exit→Act→World→Prop}(hK:∀ a' w' p' s',SR C p' s' a' w'→s'.n=s.n→KA s'→K a' w'):o.wp P a w K Q:=by
 obtain⟨F,cs,ρ,L,L',as,r,hF,hl,hlo,hap,hsk,⟨hcal,hcalls⟩,hKA⟩:=hm
 have hokc:=sameKeys_ok hsk
 have hargs:=relV_ev h args.toList
 obtain⟨vs,hfv,hcs⟩:∃ vs:Array Value,a.eval f = .func (.func F) #[] vs∧AV.relV w p s.ver cs vs.toList:=by
  have hx:=h.ev f
  unfold callee? at hF
  split at hF
  ·rename_i g cs' e
   injection hF with hF
   injection hF with h1 h2
   subst h1 h2
   rw[e] at hx
   simp only[AV.rel,RV.rel] at hx
   obtain⟨vs,hv,hV⟩:=hx
   exact⟨vs,hv,AV.relV_map_r hV⟩
  ·rename_i g cs' e
   injection hF with hF
   injection hF with h1 h2
   subst h1 h2
   rw[e] at hx
   simp only[AV.rel] at hx
   exact hx
  ·cases hF
 have hall:=AV.relV_append hargs hcs
 have hlist:(args.map a.eval++vs).toList=args.toList.map a.eval++vs.toList:=by simp
 rw[← hlist] at hall
 have hrun:(execOp a.eval o).run P w = .ok (.enter F (args.map a.eval++vs)) w:=by
  simp only[execOp,ho,Sem.run_bind,resolve,hfv,Deferred.ofValue,Sem.run_pure,Result.andThen_ok,invoke]
  simpa using run_callFunc hcal (args.map a.eval++vs) w
 unfold Oper.wp
 rw[hrun,Oper.upon_enter]
 obtain⟨hg1,hg2⟩:=lendOk_get hlo
 have hβl:∀ k b,(zlp ρ p).β k=some b→∃ ck,pinOf ρ k=some ck∧p.β ck=some b:=fun k b hb=>by
  simp only[zlp] at hb
  split at hb
  ·rename_i ck e;exact⟨ck,e,hb⟩
  ·cases hb
 refine (hcalls w (zlp ρ p) _ ⟨rfl,rfl,rfl⟩ h.rb (fun k b hb=>?_) (fun k k' b hb hb'=>?_) (fun k=>?_) (fun k=>?_) (lend_relV hap _ _ _ hl hall)).mono ?_
 ·obtain⟨ck,_,hb⟩:=hβl k b hb
  exact⟨(h.bl ck b hb).1,(h.bl ck b hb).2.1⟩
 ·obtain⟨ck,e1,hb⟩:=hβl k b hb
  obtain⟨ck',e2,hb'⟩:=hβl k' b hb'
  have:=h.ij ck ck' b hb hb'
  subst this
  exact pinOf_inj hap e1 e2
 ·simp only[zlp]
  split
  ·exact h.cap _
  ·simp [maxLen]
 ·cases hp:pinOf ρ k with
  | none =>
    rw[hg2 k hp]
    simp only[zrl,zlp,hp];exact⟨trivial,trivial⟩
  | some ck=>exact lendC_rel hap hp (hg1 k ck hp) (h.rw ck)
 rintro e w' ⟨v,R',rfl,⟨g1,g2,g3,g4⟩,hblk,hR1,hR2,hR3,hrows,hrel⟩
 have hstay:∀ b,b<w.heap.size→(∀ ck,(zLk ρ ck).isSome=true→p.β ck≠some b)→w'.heap[b]? = w.heap[b]?:=fun b hb hn=>hblk b hb (fun j hj=>by
  obtain⟨ck,e1,hb'⟩:=hβl j b hj
  exact hn ck (by rw[lendKey_of_pin hap e1];rfl) hb')
 have hstayR:∀ b,p.R b→w'.heap[b]? = w.heap[b]?:=fun b hb=>hstay b (h.rb b hb) (fun ck _ hc=>(h.bl ck b hc).2.1 hb)
 have hver:∀ j,(backRows ρ s.ver L' ρ s.rows j).ver=s.ver j:=fun j=>by
  obtain⟨q1,q2⟩:=backRows_get (ρ:=ρ) (ver:=s.ver) (L':=L') (rows:=s.rows) hap j
  cases hk:zLk ρ j with
  | none=>rw[q1 hk];rfl
  | some pk=>rw[q2 pk hk]
 have hk:Kept w w' p { p with R:=R' } s.ver (AS.ver { s with rows:=backRows ρ s.ver L' ρ s.rows }) :=
  ⟨hR1,fun ad hr=>World.cell?_of_block (hstayR _ hr),fun j=>Nat.le_of_eq (hver j).symm,fun j _=>⟨rfl,rfl⟩⟩
 have hpin:∀ j pk,zLk ρ j=some pk→pinOf ρ pk=some j:=fun j pk hj=>pin_lend hap hj
 have hok:∀ j pk,zLk ρ j=some pk→∃ c,lendC ρ s.ver (s.rows j).c=some c:=fun j pk hj=>⟨_,hg1 pk j (hpin j pk hj)⟩
 have hnmp:∀ j pk,zLk ρ j=some pk→(s.rows j).c.isMpi=false∧(s.rows j).c.isMi=false:=fun j pk hj=>by
  obtain⟨c,hc⟩:=hok j pk hj
  unfold lendC at hc
  split at hc
  ·rename_i e;rw[e];exact⟨rfl,rfl⟩
  ·rename_i e;rw[e];exact⟨rfl,rfl⟩
  ·rename_i e;rw[e];exact⟨rfl,rfl⟩
  ·rename_i e;rw[e];exact⟨rfl,rfl⟩
  ·rename_i e;rw[e];exact⟨rfl,rfl⟩
  ·cases hc
 have hSR:SR C { p with R:=R' } { s with rows:=backRows ρ s.ver L' ρ s.rows } a w':={
  base:=⟨g1.trans h.base.os,g2.trans h.base.tape,g3.trans h.base.output,Nat.le_trans h.base.size g4,fun b hb hn ho=>by
   refine (hstay b (Nat.lt_of_lt_of_le hb h.base.size) fun ck _ hc=>?_).trans (h.base.block b hb hn ho)
   rcases (h.bl ck b hc).2.2 with h1|h1|h1
   ·omega
   ·exact hn h1.2
   ·exact ho h1⟩
  r0:=fun b hb=>hR1 b (h.r0 b hb)
  rn:=fun b hb=>(hR2 b hb).elim (h.rn b) (fun hl=>.inr (.inl (Nat.le_trans h.base.size hl)))
  rb:=hR3
  tm:=fun t=>AV.rel_mono hk _ _ (h.tm t)
  sz:=h.sz
  ex:=h.ex.mono rfl rfl rfl g4 (fun j b hb=>.inl ⟨j,hb⟩) (fun b hr=>(hR2 b hr).imp id .inr) fun b hl hn=>hstay b hl fun ck _=>hn ck
  rw:=fun j=>by
   show zrl _ _ _ j (backRows ρ s.ver L' ρ s.rows j).c
   obtain⟨q1,q2⟩:=backRows_get (ρ:=ρ) (ver:=s.ver) (L':=L') (rows:=s.rows) hap j
   cases hj:zLk ρ j with
   | none =>
     rw[q1 hj]
     refine rowRel_mono hk (.inr <| h.ex.kept rfl rfl rfl g1 g2 g3 g4 fun b hl hn=>hstay b hl fun ck _=>hn ck) rfl rfl (fun b hb=>hstay b (h.bl j b hb).1 fun ck hc hb'=>?_) _ (fun km n l cur hcc hn b hb=>hstay b (h.bl km b hb).1 fun ck hc hb'=>?_) (h.rw j)
     ·have:=h.ij j ck b hb hb'
      subst this
      rw[hj] at hc;cases hc
     ·have e3:=h.ij km ck b hb hb'
      subst e3
      obtain⟨pk,hpk⟩:=Option.isSome_iff_exists.1 hc
      have h1:=h.lk j km n l cur hcc (hn.trans (hver km))
      rw[(hnmp km pk hpk).1] at h1;cases h1
   | some pk =>
     rw[q2 pk hj]
     have e:AS.ver { s with rows:=backRows ρ s.ver L' ρ s.rows }=s.ver:=funext hver
     rw[e]
     exact backC_rel (hpin j pk hj) (okN_of (hokc pk (by rw[hpin j pk hj];rfl))) (hrows pk)
  bl:=fun j b hb=>⟨Nat.lt_of_lt_of_le (h.bl j b hb).1 g4,fun hr=>(hR2 b hr).elim (h.bl j b hb).2.1 (fun hl=>by have:=(h.bl j b hb).1;omega),(h.bl j b hb).2.2⟩
  ij:=h.ij
  cap:=h.cap
  pn:=fun j x hx=>by
   obtain⟨h1,h2,h3,h4⟩:=h.pn j x hx
   exact⟨h1,h2,(hver j).trans h3,h4⟩
  lk:=fun j km n l cur hj hn=>by
   show (backRows ρ s.ver L' ρ s.rows km).c.isMpi=true
   have hj':(backRows ρ s.ver L' ρ s.rows j).c = .mi km n l cur:=hj
   obtain⟨q1,q2⟩:=backRows_get (ρ:=ρ) (ver:=s.ver) (L':=L') (rows:=s.rows) hap j
   cases hjk:zLk ρ j with
   | none =>
     rw[q1 hjk] at hj'
     have h1:=h.lk j km n l cur hj' (hn.trans (hver km))
     obtain⟨q3,q4⟩:=backRows_get (ρ:=ρ) (ver:=s.ver) (L':=L') (rows:=s.rows) hap km
     cases hkk:zLk ρ km with
     | none=>rw[q3 hkk];exact h1
     | some pk=>rw[(hnmp km pk hkk).1] at h1;cases h1
   | some pk =>
     rw[q2 pk hjk] at hj'
     have:∀ c:RowC,backC ρ s.ver c ≠ .mi km n l cur:=fun c=>by cases c<;>simp [backC]
     exact (this _ hj').elim }
 have hput:=hSR.put' (d:=o.dst) (av:=backA ρ s.ver r) (v:=v) (by
  have e:AS.ver { s with rows:=backRows ρ s.ver L' ρ s.rows }=s.ver:=funext hver
  rw[e]
  exact back_rel r v hrel) hd
 refine hK _ _ _ _ hput ?_ hKA
 cases o.dst<;>rfl
def ycall (P:Program) (s:AS) (d:Option Nat) (f:AV) (xs:List AV) (K:AS→Prop):Prop :=
 ∃ l z e rest, f = .r (.yl l)∧(s.rows 999).c = .gh P l z (some (e::rest))∧AV.pureL xs=true∧RV.leL (snapVL s.rows xs) e∧(RV.flatL e=true∨z=false) ∧
   K ((s.row 999 ⟨(s.rows 999).ver,.gh P l z (some rest)⟩).put d (.r (.bo true)))∧K ((s.row 999 ⟨(s.rows 999).ver,.gh P l z none⟩).put d (.r (.bo false)))
theorem SR.yielded (h:SR C p s a w) {l:Nat}{z:Bool}{left left':Option (List (List RV))}(hrow:(s.rows 999).c = .gh P l z left) (hos:w'.os=w.os) (htape:w'.tape=w.tape) (hout:w'.output=w.output) (hsize:w.heap.size≤w'.heap.size)
 (hblk:∀ b,b<w.heap.size→¬ p.Θ b→w'.heap[b]? = w.heap[b]?) {R Ψ' Θ':Nat→Prop}(hR:∀ b,R b→p.R b) (h1:∀ b,Ψ' b→p.Ψ b∨R b∨w.heap.size≤b) (h2:∀ b,Θ' b→p.Θ b∨w.heap.size≤b)
 (h3:∀ b,Ψ' b→b<w'.heap.size) (h4:∀ b,Θ' b→b<w'.heap.size) (hX0:p.X=C.X) (hX:p.X.X left' w' Ψ' Θ'):SR C { p with Ψ:=Ψ',Θ:=Θ' } (s.row 999 ⟨(s.rows 999).ver,.gh P l z left'⟩) a w':=by
 have hv:AS.ver (s.row 999 ⟨(s.rows 999).ver,.gh P l z left'⟩)=s.ver:=by
  funext j
  show (upd s.rows 999 ⟨(s.rows 999).ver,.gh P l z left'⟩ j).ver=(s.rows j).ver
  unfold upd;split
  ·rename_i e;subst e;rfl
  ·rfl
 have hk:Kept w w' p { p with Ψ:=Ψ',Θ:=Θ' } s.ver s.ver :=
  ⟨fun _ h=>h,fun ad hr=>World.cell?_of_block (hblk _ (h.rb _ hr) (h.ex.ψr _ hr)),fun _=>Nat.le_refl _,fun _ _=>⟨rfl,rfl⟩⟩
 have hβb:∀ k b,p.β k=some b→w'.heap[b]? = w.heap[b]?:=fun k b hb=>hblk b (h.bl k b hb).1 (h.ex.ψb k b hb).2
 exact {
  base:=⟨hos.trans h.base.os,htape.trans h.base.tape,hout.trans h.base.output,Nat.le_trans h.base.size hsize,fun b hb hn ho =>
   (hblk b (Nat.lt_of_lt_of_le hb h.base.size) fun hθ=>hn (h.ex.θo b hθ hb)).trans (h.base.block b hb hn ho)⟩
  r0:=h.r0
  rn:=h.rn
  rb:=fun b hr=>Nat.lt_of_lt_of_le (h.rb b hr) hsize
  tm:=fun t=>by rw[hv];exact AV.rel_mono hk _ _ (h.tm t)
  sz:=h.sz
  ex:={
   px:=h.ex.px
   n0:=h.ex.n0
   ψ0:=h.ex.ψ0
   ψl:=h3
   θl:=h4
   ψb:=fun k b hb=>⟨fun hψ=>by
    rcases h1 b hψ with g|g|g
    ·exact (h.ex.ψb k b hb).1 g
    ·exact (h.bl k b hb).2.1 (hR b g)
    ·have:=(h.bl k b hb).1;omega,fun hθ=>by
    rcases h2 b hθ with g|g
    ·exact (h.ex.ψb k b hb).2 g
    ·have:=(h.bl k b hb).1;omega⟩
   ψr:=fun b hr hθ=>by
    rcases h2 b hθ with g|g
    ·exact h.ex.ψr b hr g
    ·have:=h.rb b hr;omega
   ψo:=h.ex.ψo
   θo:=fun b hθ hb=>by
    rcases h2 b hθ with g|g
    ·exact h.ex.θo b g hb
    ·have:=h.base.size;omega
   bo:=h.ex.bo
   ψn:=fun hn=>(hn _ _ _ _ (hX0▸hX)).elim
   hd:=fun b hm=>by
    obtain⟨k1,k2,k3,k4,k5,k6,k7,k8⟩:=h.ex.hd b hm
    refine⟨k1,k2,k3,Nat.lt_of_lt_of_le k4 hsize,k5,fun hψ=>?_,fun hθ=>?_,k8⟩
    ·rcases h1 b hψ with g|g|g
     ·exact k6 g
     ·exact k5 (hR b g)
     ·omega
    ·rcases h2 b hθ with g|g
     ·exact k7 g
     ·omega
   rm:=h.ex.rm
   df:=by
    obtain⟨Ds,g1,g2,g3⟩:=h.ex.df
    refine⟨Ds,g1,g2,fun D hD=>?_⟩
    obtain⟨g4,g5,g6,g7,g8,g9⟩:=g3 D hD
    have hlt:D<w.heap.size:=(Array.getElem?_eq_some_iff.1 g4).1
    refine⟨(hblk D hlt g9).trans g4,g5,g6,g7,fun hψ=>?_,fun hθ=>?_⟩
    ·rcases h1 D hψ with g|g|g
     ·exact g8 g
     ·exact g6 (hR D g)
     ·omega
    ·rcases h2 D hθ with g|g
     ·exact g9 g
     ·omega }
  rw:=fun j=>by
   rw[hv]
   show zrl w' _ s.ver j (upd s.rows 999 ⟨(s.rows 999).ver,.gh P l z left'⟩ j).c
   by_cases e:j=999
   ·subst e
    rw[zus]
    have hr:=h.rw 999
    rw[hrow] at hr
    simp only[zrl] at hr ⊢
    exact⟨trivial,hr.2.1,hr.2.2.1,hr.2.2.2.1,hr.2.2.2.2.1,hr.2.2.2.2.2.1,hX⟩
   ·rw[zuo _ _ e]
    exact rowRel_mono hk (.inl e) rfl rfl (fun b hb=>hβb j b hb) _ (fun km _ _ _ _ _ b hb=>hβb km b hb) (h.rw j)
  bl:=fun k b hb=>⟨Nat.lt_of_lt_of_le (h.bl k b hb).1 hsize,(h.bl k b hb).2⟩
  ij:=h.ij
  cap:=h.cap
  pn:=fun k x hx=>by rw[hv];exact h.pn k x hx
  lk:=fun j km n l' cur hj hn=>by
   rw[hv] at hn
   show (upd s.rows 999 ⟨(s.rows 999).ver,.gh P l z left'⟩ km).c.isMpi=true
   have hj':(upd s.rows 999 ⟨(s.rows 999).ver,.gh P l z left'⟩ j).c = .mi km n l' cur:=hj
   by_cases e:j=999
   ·subst e;rw[zus] at hj';cases hj'
   ·rw[zuo _ _ e] at hj'
    have h5:=h.lk j km n l' cur hj' hn
    have e2:km≠999:=fun e2=>by rw[e2,hrow] at h5;cases h5
    rw[zuo _ _ e2];exact h5 }
theorem ycall_sound (h:SR C p s a w) {f:Operand}{args:Array Operand}{ts:Array TypeId}(ho:o.op = .call ⟨.value f,args,ts⟩) {KA:AS→Prop}(hm:ycall P s o.dst (s.ev f) (args.toList.map s.ev) KA)
 (hd:∀ t,o.dst=some t→t<s.n) {K:Act→World→Prop}{Q:Exit→Act→World→Prop}(hK:∀ a' w' p' s',SR C p' s' a' w'→s'.n=s.n→KA s'→K a' w') {rd:Option Nat}:o.wpIn (fnc rd) 0 P a w K Q:=by
 obtain⟨l,z,e,rest,hf,hrow,hpure,hle,hfl,hK1,hK2⟩:=hm
 have hargs:=relV_ev h args.toList
 have hV:=le_relV _ _ _ hle (pure_relV (rows:=s.rows) _ _ hpure hargs)
 have hr:=h.rw 999
 rw[hrow] at hr
 simp only[zrl] at hr
 obtain⟨_,hβ,hγ,hl,hz,hY,hX⟩:=hr
 have hfv:a.eval f = .func (.yield l) #[] #[]:=by
  have:=h.ev f
  rw[hf] at this
  simpa only[AV.rel,RV.rel] using this
 obtain⟨R,hRp,hRo,hV'⟩:∃ R:Nat→Prop,(∀ b,R b→p.R b)∧(∀ b,R b→b<w.heap.size∧¬ p.Θ b∧(p.X.R b∨p.X.n0≤b))∧RV.relV w R e (args.map a.eval).toList:=by
  rcases hfl with hfl|hfl
  ·exact⟨fun _=>False,fun _ h=>h.elim,fun _ h=>h.elim,by simpa using flat_relV _ _ hfl hV⟩
  ·refine⟨p.R,fun _ h=>h,fun b hb=>⟨h.rb b hb,h.ex.ψr b hb,?_⟩,by simpa using hV⟩
   rw[h.ex.px]
   have hz':C.X.z=false:=by rw[← h.ex.px,hz,hfl]
   rcases h.rn b hb with g|g|g
   ·exact .inl (h.ex.ψ0 hz' b g)
   ·exact .inr (Nat.le_trans h.ex.n0 g)
   ·exact h.ex.ψo b g
 obtain⟨fn,tmps,assign,body,hrun,hround⟩:=hY e rest w p.Ψ p.Θ R (args.map a.eval) hX hRo hV'
 have hrun':(execOp a.eval o).run P w = .ok (.round l fn tmps assign body) w:=by
  rw[hl] at hrun
  simp only[execOp,ho,Sem.run_bind,resolve,hfv,Deferred.ofValue,Sem.run_pure,Result.andThen_ok,invoke]
  simpa using hrun
 refine⟨fun _ _=>trivial,?_⟩
 rw[Oper.semAt_eq _ _ _ (by simp [ho]),hrun',Oper.uponIn_round]
 refine⟨fun h=>(by cases h),?_⟩
 rw[hl] at hround
 have hround':RoundIn (fnc rd) (0-1) P l fn tmps assign body w _:=hround
 refine hround'.mono ?_
 rintro en w' ⟨g1,g2,g3,g4,g5,Ψ',Θ',g6,g7,g8,g9,g10⟩
 rcases g10 with⟨rfl,hX'⟩|⟨rfl,hX'⟩
 ·have hS:=h.yielded hrow g1 g2 g3 g4 g5 hRp g6 g7 g8 g9 h.ex.px hX'
  have hput:=hS.put' (d:=o.dst) (av:=.r (.bo true)) (v:=.bool true) (by simp only[AV.rel,RV.rel]) hd
  refine hK _ _ _ _ hput ?_ hK1
  cases o.dst<;>rfl
 ·have hS:=h.yielded hrow g1 g2 g3 g4 g5 hRp g6 g7 g8 g9 h.ex.px hX'
  have hput:=hS.put' (d:=o.dst) (av:=.r (.bo false)) (v:=.bool false) (by simp only[AV.rel,RV.rel]) hd
  refine hK _ _ _ _ hput ?_ hK2
  cases o.dst<;>rfl
end
end Go.Oc

namespace Go.Oc
open Go Go.RowKit
def hasKey (L:List (Nat × RowC)) (k:Nat):Bool:=L.any fun x=>x.1 == k
def NCalls (P:Program) (f:FuncId) (args:List RV) (L:List (Nat × RowC)) (r:AV):Prop :=
 callable P f=true∧∀ (w:World) (R:Nat→Prop) (vs:Array Value),(∀ b,R b→b<w.heap.size)→RV.relV w R args vs.toList →
  Calls P f vs w fun e w'=>∃ v,∃ q:Plan,e = .returned v∧Below w.heap.size w w'∧(∀ b,R b→q.R b)∧(∀ b,q.R b→R b∨w.heap.size≤b)∧(∀ b,q.R b→b<w'.heap.size) ∧
   (∀ k b,q.β k=some b→w.heap.size≤b∧b<w'.heap.size∧¬ q.R b∧hasKey L k=true)∧(∀ k k' b,q.β k=some b→q.β k'=some b→k=k')∧(∀ k,q.γ k≤maxLen)∧(∀ k,hasKey L k=false→q.γ k=1) ∧
   (∀ k,hasKey L k=true→zrl w' q (fun _=>0) k (lookc L k))∧r.rel w' q (fun _=>0) v
def newVer (ρ:List (Nat × Nat)) (ver:Nat→Nat):Nat→Nat:=fun k=>match zLk ρ k with|some _=>ver k+1|none=>ver k
def newRows (ρ:List (Nat × Nat)) (L:List (Nat × RowC)) (rows:Nat→Row):Nat→Row:=fun k=>match zLk ρ k with|some pk=>⟨(rows k).ver+1,backC ρ (newVer ρ (vers rows)) (lookc L pk)⟩|none=>rows k
def smallK (ρ:List (Nat × Nat)):Bool:=ρ.all fun x=>decide (x.2<1000)
theorem smallK_lt:∀ {ρ:List (Nat × Nat)}{ck pk:Nat},smallK ρ=true→zLk ρ ck=some pk→ck<1000
 | [],_,_,_,h=>by cases h
 | (a, b)::ρ, ck, pk, hs, h=>by
   simp only[smallK,List.all_cons,Bool.and_eq_true,decide_eq_true_eq] at hs
   simp only[zLk] at h
   split at h
   ·rename_i e;rw[e];exact hs.1
   ·exact smallK_lt hs.2 h
def sameKeysN:List (Nat × Nat)→List (Nat × RowC)→Bool
 | [],[]=>true
 | (pk,_)::l,(k,c)::L=>decide (pk=k)&&okN c&&sameKeysN l L
 | _,_=>false
theorem sameKeysN_ok:∀ {l:List (Nat × Nat)}{L':List (Nat × RowC)},sameKeysN l L'=true→∀ pk,(pinOf l pk).isSome=true→okN (lookc L' pk)=true
 | [],[],_,pk,h=>by simp [pinOf] at h
 | [],_::_,h,_,_=>by simp [sameKeysN] at h
 | _::_,[],h,_,_=>by simp [sameKeysN] at h
 | (a, b)::l, (k, c)::L, h, pk, hp=>by
   simp only[sameKeysN,Bool.and_eq_true,decide_eq_true_eq] at h
   obtain⟨⟨rfl,h1⟩,h2⟩:=h
   simp only[pinOf] at hp
   simp only[zlc]
   by_cases e:pk=a
   ·simpa [e] using h1
   ·simp only[e,if_false] at hp ⊢
    exact sameKeysN_ok h2 pk hp
theorem sameKeysN_has:∀ {l:List (Nat × Nat)}{L:List (Nat × RowC)}{k:Nat},sameKeysN l L=true→((pinOf l k).isSome=true↔hasKey L k=true)
 | [],[],_,_=>by simp [pinOf,hasKey]
 | [],_::_,_,h=>by simp [sameKeysN] at h
 | _::_,[],_,h=>by simp [sameKeysN] at h
 | (pk, ck)::l, (k', c)::L, k, h=>by
   simp only[sameKeysN,Bool.and_eq_true,decide_eq_true_eq] at h
   have ih:=sameKeysN_has (k:=k) h.2
   simp only[pinOf,hasKey,List.any_cons,Bool.or_eq_true,beq_iff_eq] at ih ⊢
   by_cases e:k=pk
   ·rw[if_pos e];simp [e,h.1.1]
   ·rw[if_neg e,ih]
    constructor
    ·exact .inr
    ·rintro (e2|e2)
     ·exact absurd (by rw[← e2,h.1.1]) e
     ·exact e2
theorem backC_mi {ρ:List (Nat × Nat)}{ver:Nat→Nat}{c:RowC}:(backC ρ ver c).isMi=false:=by cases c<;>rfl
section
variable {P:Program}{C:Ctx}{p:Plan}{s:AS}{a:Act}{w w':World}{o:Oper}
theorem SR.newRows (h:SR C p s a w) (hb:Below w.heap.size w w') {R':Nat→Prop}(hR1:∀ b,p.R b→R' b) (hR2:∀ b,R' b→p.R b∨w.heap.size≤b) (hR3:∀ b,R' b→b<w'.heap.size)
 (I:Nat→Bool) (β1:Nat→Option Nat) (γ1:Nat→Nat) (c:Nat→RowC) (hI:∀ k,I k=true→k<1000) (hmi:∀ k,(c k).isMi=false) (hγ:∀ k,γ1 k≤maxLen)
 (hβ:∀ k b,I k=true→β1 k=some b→w.heap.size≤b∧b<w'.heap.size∧¬ R' b) (hij:∀ k k' b,I k=true→I k'=true→β1 k=some b→β1 k'=some b→k=k')
 (hc:∀ ver',(∀ k,ver' k=if I k then s.ver k+1 else s.ver k)→∀ k,I k=true→zrl w' { p with R:=R',β:=fun k=>if I k then β1 k else p.β k,γ:=fun k=>if I k then γ1 k else p.γ k } ver' k (c k)) :
 SR C { p with R:=R',β:=fun k=>if I k then β1 k else p.β k,γ:=fun k=>if I k then γ1 k else p.γ k } { s with rows:=fun k=>if I k then ⟨(s.rows k).ver+1,c k⟩ else s.rows k } a w':=by
 have hver:∀ j,AS.ver { s with rows:=fun k=>if I k then ⟨(s.rows k).ver+1,c k⟩ else s.rows k } j=if I j then s.ver j+1 else s.ver j:=fun j=>by
  show (if I j then (⟨(s.rows j).ver+1,c j⟩:Row) else s.rows j).ver=_
  split<;>rfl
 have hk:Kept w w' p { p with R:=R',β:=fun k=>if I k then β1 k else p.β k,γ:=fun k=>if I k then γ1 k else p.γ k } s.ver (AS.ver { s with rows:=fun k=>if I k then ⟨(s.rows k).ver+1,c k⟩ else s.rows k }):=by
  refine⟨hR1,fun ad hr=>World.cell?_of_block (hb.block _ (h.rb _ hr)),fun j=>?_,fun j hj=>?_⟩
  ·rw[hver];split<;>omega
  ·rw[hver] at hj
   split at hj
   ·omega
   ·rename_i e;exact⟨if_neg e,if_neg e⟩
 have hblk:∀ i,i<w.heap.size→w'.heap[i]? = w.heap[i]?:=fun i hi=>hb.block i hi
 have hbl:∀ j b,(if I j then β1 j else p.β j)=some b→(I j=true∧β1 j=some b)∨(I j=false∧p.β j=some b):=fun j b hj=>by
  cases e:I j
  ·rw[e] at hj;exact .inr ⟨rfl,by simpa using hj⟩
  ·rw[e] at hj;exact .inl ⟨rfl,by simpa using hj⟩
 exact {
  base:=⟨hb.os.trans h.base.os,hb.tape.trans h.base.tape,hb.output.trans h.base.output,Nat.le_trans h.base.size hb.size,fun i hi hn ho=>(hblk i (Nat.lt_of_lt_of_le hi h.base.size)).trans (h.base.block i hi hn ho)⟩
  r0:=fun b hr=>hR1 b (h.r0 b hr)
  rn:=fun b hr=>(hR2 b hr).elim (h.rn b) fun e=>.inr (.inl (Nat.le_trans h.base.size e))
  rb:=hR3
  tm:=fun t=>AV.rel_mono hk _ _ (h.tm t)
  sz:=h.sz
  ex:=h.ex.mono rfl rfl rfl hb.size (fun j b hj=>by
   rcases hbl j b hj with⟨e,hj⟩|⟨e,hj⟩
   ·exact .inr (hβ j b e hj).1
   ·exact .inl ⟨j,hj⟩) (fun b hr=>(hR2 b hr).imp id .inr) fun i hi _=>hblk i hi
  rw:=fun j=>by
   show zrl _ _ _ j (if I j then (⟨(s.rows j).ver+1,c j⟩:Row) else s.rows j).c
   cases e:I j
   ·simp only[Bool.false_eq_true,if_false];exact rowRel_mono hk (.inr <| h.ex.kept rfl rfl rfl hb.os hb.tape hb.output hb.size fun i hi _=>hblk i hi) (by simp [e]) (by simp [e]) (fun b hj=>hblk b (h.bl j b hj).1) _ (fun km n l cur hcc hn b hj=>hblk b (h.bl km b hj).1) (h.rw j)
   ·simp only[if_true];exact hc _ hver j e
  bl:=fun j b hj=>by
   rcases hbl j b hj with⟨e,hj⟩|⟨e,hj⟩
   ·obtain⟨h1,h2,h3⟩:=hβ j b e hj
    exact⟨h2,h3,.inl (Nat.le_trans h.base.size h1)⟩
   ·obtain⟨h1,h2,h3⟩:=h.bl j b hj
    exact⟨Nat.lt_of_lt_of_le h1 hb.size,fun hr=>(hR2 b hr).elim h2 fun e=>by omega,h3⟩
  ij:=fun j j' b hj hj'=>by
   rcases hbl j b hj with⟨e,hj⟩|⟨e,hj⟩<;>rcases hbl j' b hj' with⟨e',hj'⟩|⟨e',hj'⟩
   ·exact hij j j' b e e' hj hj'
   ·have:=(hβ j b e hj).1
    have:=(h.bl j' b hj').1
    omega
   ·have:=(hβ j' b e' hj').1
    have:=(h.bl j b hj).1
    omega
   ·exact h.ij j j' b hj hj'
  cap:=fun j=>by
   show (if I j then γ1 j else p.γ j)≤maxLen
   split
   ·exact hγ j
   ·exact h.cap j
  pn:=fun j x hx=>by
   obtain⟨h1,h2,h3,h4⟩:=h.pn j x hx
   have e:I j=false:=by
    cases e:I j
    ·rfl
    ·have:=hI j e;omega
   refine⟨by simp only[e];simpa using h1,by simp only[e];simpa using h2,?_,h4⟩
   rw[hver,e];simpa using h3
  lk:=fun j km n l cur hj hn=>by
   have hj:(if I j then (⟨(s.rows j).ver+1,c j⟩:Row) else s.rows j).c = .mi km n l cur:=hj
   rw[hver] at hn
   show (if I km then (⟨(s.rows km).ver+1,c km⟩:Row) else s.rows km).c.isMpi=true
   cases e:I j
   ·rw[e] at hj
    simp only[Bool.false_eq_true,if_false] at hj
    cases e2:I km
    ·rw[e2] at hn
     simp only[Bool.false_eq_true,if_false] at hn ⊢
     exact h.lk j km n l cur hj hn
    ·rw[e2] at hn
     simp only[if_true] at hn
     have hr:=h.rw j
     rw[hj] at hr
     simp only[zrl] at hr
     obtain⟨_,_,hle,_⟩:=hr
     omega
   ·rw[e] at hj
    simp only[if_true] at hj
    have:=hmi j
    rw[hj] at this;cases this }
def ncall (P:Program) (s:AS) (d:Option Nat) (f:AV) (xs:List AV) (K:AS→Prop):Prop :=
 ∃ F cs args ρ L r, callee? f=some (F, cs)∧AV.pureL (xs++cs)=true∧RV.leL (snapVL s.rows (xs++cs)) args∧NCalls P F args L r∧apart ρ=true∧sameKeysN ρ L=true∧smallK ρ=true ∧
   K (AS.put { s with rows:=newRows ρ L s.rows } d (backA ρ (newVer ρ s.ver) r))
theorem ncall_sound (h:SR C p s a w) {f:Operand}{args:Array Operand}{ts:Array TypeId}(ho:o.op = .call ⟨.value f,args,ts⟩) {KA:AS→Prop}(hm:ncall P s o.dst (s.ev f) (args.toList.map s.ev) KA)
 (hd:∀ t,o.dst=some t→t<s.n) {K:Act→World→Prop}{Q:Exit→Act→World→Prop}(hK:∀ a' w' p' s',SR C p' s' a' w'→s'.n=s.n→KA s'→K a' w'):o.wp P a w K Q:=by
 obtain⟨F,cs,as,ρ,L,r,hF,hpu,hle,⟨hcal,hcalls⟩,hap,hsk,hsm,hKA⟩:=hm
 have hargs:=relV_ev h args.toList
 obtain⟨vs,hfv,hcs⟩:∃ vs:Array Value,a.eval f = .func (.func F) #[] vs∧AV.relV w p s.ver cs vs.toList:=by
  have hx:=h.ev f
  unfold callee? at hF
  split at hF
  ·rename_i g cs' e
   injection hF with hF
   injection hF with h1 h2
   subst h1 h2
   rw[e] at hx
   simp only[AV.rel,RV.rel] at hx
   obtain⟨vs,hv,hV⟩:=hx
   exact⟨vs,hv,AV.relV_map_r hV⟩
  ·rename_i g cs' e
   injection hF with hF
   injection hF with h1 h2
   subst h1 h2
   rw[e] at hx
   simp only[AV.rel] at hx
   exact hx
  ·cases hF
 have hall:=AV.relV_append hargs hcs
 have hlist:(args.map a.eval++vs).toList=args.toList.map a.eval++vs.toList:=by simp
 rw[← hlist] at hall
 have hrun:(execOp a.eval o).run P w = .ok (.enter F (args.map a.eval++vs)) w:=by
  simp only[execOp,ho,Sem.run_bind,resolve,hfv,Deferred.ofValue,Sem.run_pure,Result.andThen_ok,invoke]
  simpa using run_callFunc hcal (args.map a.eval++vs) w
 unfold Oper.wp
 rw[hrun,Oper.upon_enter]
 have hV:=le_relV _ _ _ hle (pure_relV (rows:=s.rows) _ _ hpu hall)
 refine (hcalls w p.R _ h.rb hV).mono ?_
 rintro e w' ⟨v,q,rfl,hb,hq1,hq2,hq3,hq4,hq5,hq6,hq7,hq8,hrel⟩
 have hlk:∀ k,(zLk ρ k).isSome=true→∃ pk,zLk ρ k=some pk∧pinOf ρ pk=some k:=fun k hk=>by
  obtain⟨pk,e⟩:=Option.isSome_iff_exists.1 hk
  exact⟨pk,e,pin_lend hap e⟩
 let p2:Plan:={ p with R:=q.R,β:=fun k=>if (zLk ρ k).isSome then (match zLk ρ k with|some pk=>q.β pk|none=>none) else p.β k,γ:=fun k=>if (zLk ρ k).isSome then (match zLk ρ k with|some pk=>q.γ pk|none=>1) else p.γ k }
 have hqβ:∀ k,(zlp ρ p2).β k=q.β k:=fun k=>by
  show (match pinOf ρ k with|some ck=>p2.β ck|none=>none)=q.β k
  cases e:pinOf ρ k with
  | none =>
    cases e2:q.β k with
    | none=>rfl
    | some b =>
      have:=(hq4 k b e2).2.2.2
      rw[← sameKeysN_has hsk,e] at this;cases this
  | some ck =>
    have:=lendKey_of_pin hap e
    simp [p2,this]
 have hqγ:∀ k,(zlp ρ p2).γ k=q.γ k:=fun k=>by
  show (match pinOf ρ k with|some ck=>p2.γ ck|none=>1)=q.γ k
  cases e:pinOf ρ k with
  | none =>
    refine (hq7 k ?_).symm
    cases e2:hasKey L k
    ·rfl
    ·rw[← sameKeysN_has hsk,e] at e2;cases e2
  | some ck =>
    have:=lendKey_of_pin hap e
    simp [p2,this]
 have hkq:Kept w' w' q { zlp ρ p2 with R:=q.R } (fun _=>0) (fun _=>0):=⟨fun _ h=>h,fun _ _=>rfl,fun _=>Nat.le_refl _,fun k _=>⟨hqβ k,hqγ k⟩⟩
 have hSR:=h.newRows (w':=w') hb (R':=q.R) hq1 hq2 hq3 (fun k=>(zLk ρ k).isSome) (fun k=>match zLk ρ k with|some pk=>q.β pk|none=>none) (fun k=>match zLk ρ k with|some pk=>q.γ pk|none=>1)
  (fun k=>match zLk ρ k with|some pk=>backC ρ (newVer ρ s.ver) (lookc L pk)|none=>.dead)
  (fun k hk=>by obtain⟨pk,e,_⟩:=hlk k hk;exact smallK_lt hsm e) (fun k=>by split;exact backC_mi;rfl) (fun k=>by split;exact hq6 _;simp [maxLen])
  (fun k b hk hb'=>by
   obtain⟨pk,e,_⟩:=hlk k hk
   simp only[e] at hb'
   exact⟨(hq4 pk b hb').1,(hq4 pk b hb').2.1,(hq4 pk b hb').2.2.1⟩)
  (fun k k' b hk hk' hb' hb''=>by
   obtain⟨pk,e,g⟩:=hlk k hk
   obtain⟨pk',e',g'⟩:=hlk k' hk'
   simp only[e] at hb'
   simp only[e'] at hb''
   have:=hq5 pk pk' b hb' hb''
   subst this
   rw[g] at g';injection g')
  (fun ver' hver k hk=>by
   obtain⟨pk,e,g⟩:=hlk k hk
   simp only[e]
   have hv:ver'=newVer ρ s.ver:=by
    funext j
    rw[hver]
    unfold newVer
    cases zLk ρ j<;>rfl
   rw[hv]
   have hpk:hasKey L pk=true:=by rw[← sameKeysN_has hsk,g];rfl
   have hr:=hq8 pk hpk
   have hok:=sameKeysN_ok hsk pk (by rw[g];rfl)
   have hr2:zrl w' { zlp ρ p2 with R:=q.R } (fun _=>0) pk (lookc L pk):=by
    cases hcl:lookc L pk<;>rw[hcl] at hr hok<;>first
     | (simp only[okN,okC] at hok;cases hok;done)
     | (simp only[zrl,hqβ,hqγ] at hr ⊢;first|exact hr|(obtain⟨b,cells,t,g1,g2,g3,g4⟩:=hr;exact⟨b,cells,t,g1,g2,AV.relV_mono hkq _ _ g3,g4⟩)|(obtain⟨b,cells,g1,g2,g3,l,rest,g4,g5,g6⟩:=hr;exact⟨b,cells,g1,g2,g3,l,rest,g4,AV.relV_mono hkq _ _ g5,g6⟩))
   exact backC_rel (p:=p2) (R':=q.R) g hok hr2)
 have hval:(backA ρ (newVer ρ s.ver) r).rel w' p2 (newVer ρ s.ver) v:=by
  have:=back_rel (p:=p2) (ρ:=ρ) (R':=q.R) (ver:=newVer ρ s.ver) r v (AV.rel_mono hkq _ _ hrel)
  exact this
 have e1:(fun k=>if (zLk ρ k).isSome then (⟨(s.rows k).ver+1,match zLk ρ k with|some pk=>backC ρ (newVer ρ s.ver) (lookc L pk)|none=>.dead⟩:Row) else s.rows k)=newRows ρ L s.rows:=by
  funext k
  unfold newRows
  cases zLk ρ k<;>rfl
 rw[e1] at hSR
 have e2:AS.ver { s with rows:=newRows ρ L s.rows }=newVer ρ s.ver:=by
  funext k
  show (newRows ρ L s.rows k).ver=_
  unfold newRows newVer
  cases zLk ρ k<;>rfl
 have hput:=hSR.put' (d:=o.dst) (av:=backA ρ (newVer ρ s.ver) r) (v:=v) (by rw[e2];exact hval) hd
 refine hK _ _ _ _ hput ?_ hKA
 cases o.dst<;>rfl
end
end Go.Oc

namespace Go.Oc
open Go Go.RowKit
def acall (P:Program) (s:AS) (f:AV) (xs:List AV) (K:RV→Prop):Prop:=∃ r,(ACallOk P s f xs r∨BCallOk P s f xs r)∧K r
def aop (P:Program) (D:Bool) (o:Oper) (K:AS→Prop) (s:AS):Prop :=
 match o.op with
 | .call ⟨.value f,args,_⟩=>acall P s (s.ev f) (args.toList.map s.ev) (fun r=>K (s.put o.dst (.r r)))∨(D=true∧(s.rows (o.dst.getD 0)).c = .dead∧ocall P s o.dst (s.ev f) (args.toList.map s.ev) K)
 | .next _ false=>False
 | _=>(step P o s).pre∧(D=true→cls o=2→(s.rows (o.dst.getD 0)).c = .dead∧o.dst.isSome=true)∧((step P o s).ass→K (s.app o.dst (step P o s).y))
def xop (P:Program) (D:Bool) (o:Oper) (K:AS→Prop) (s:AS):Prop :=
 if D then aop P true o K s else
 match o.op with
 | .call ⟨.value f,args,_⟩=>acall P s (s.ev f) (args.toList.map s.ev) (fun r=>K (s.put o.dst (.r r)))∨mcall P s o.dst (s.ev f) (args.toList.map s.ev) K∨ocall P s o.dst (s.ev f) (args.toList.map s.ev) K∨ycall P s o.dst (s.ev f) (args.toList.map s.ev) K∨ncall P s o.dst (s.ev f) (args.toList.map s.ev) K
 | .next x false=>sNext s o.dst (s.ev x) K
 | _=>aop P false o K s
def aops (P:Program) (D:Bool) (ops:Array Oper):List Oper→(AS→Prop)→AS→Prop
 | [],K,s=>K s
 | o::rest, K, s =>
   match o.guard with
   | none=>xop P D o (aops P D ops rest K) s
   | some (g, want) =>
     match ((ops[g]?).bind (·.dst):Option Nat) with
     | none=>aops P D ops rest K (s.put o.dst (.r .ud))
     | some t =>
       match s.tm t with
       | .r (.bo b)=>(b=want→xop P D o (aops P D ops rest K) (s.put (some t) (.r (.bo want))))∧(b = !want→aops P D ops rest K ((s.put (some t) (.r (.bo (!want)))).put o.dst (.r .ud)))
       | .r .ud=>aops P D ops rest K (s.put o.dst (.r .ud))
       | _=>False
def awp (P:Program) (C:Ctx) (c:Code) (Q:Exit→AS→Prop) (s:AS):Prop:=∀ a w,SRel C s a w→c.wpIn (fnc C.rd) 0 P (fun e a' w'=>∃ s',SRel C s' a' w'∧Q e s') a w
section
variable {P:Program}{C:Ctx}{s:AS}{ops:Array Oper}
theorem upd_self {α:Type}(f:Nat→α) (k:Nat):upd f k (f k)=f:=by funext j;unfold upd;split<;>simp_all
theorem put_self {t:Nat}{v:AV}(h:s.tm t=v):s.put (some t) v=s:=by
 subst h
 simp only[AS.put,upd_self]
theorem put_n (s:AS) (d:Option Nat) (v:AV):(s.put d v).n=s.n:=by cases d<;>rfl
theorem aop_AY {D:Bool}{o:Oper}{K:AS→Prop}(h:aop P D o K s):∃ y,AY P o s y∧(D=true→mk o y→(s.rows (o.dst.getD 0)).c = .dead∧o.dst.isSome=true)∧(NE s→K (s.app o.dst y)):=by
 unfold aop at h
 split at h
 ·rename_i f args ts ho
  rcases h with⟨r,hr,hK⟩|⟨hD,hdead,F,cs,args',t,sz,es,m,dd,h1,h2,h3,h4,h5,h6,hK⟩
  ·refine⟨⟨.r r,[]⟩,?_,fun _ hc=>by simp [mk,cls,ho] at hc,fun _=>hK⟩
   unfold AY
   rw[ho]
   exact .inl ⟨r,hr,rfl⟩
  ·refine⟨⟨.os dd ((s.rows dd).ver+1) sz 0 m,[(dd,⟨(s.rows dd).ver+1,.arr t sz es⟩)]⟩,?_,fun _ _=>⟨hdead,by rw[h5];rfl⟩,fun _=>hK⟩
   unfold AY
   rw[ho]
   exact .inr ⟨F,cs,args',t,sz,es,m,dd,h1,h2,h3,h4,h5,h6,rfl⟩
 ·exact h.elim
 ·rename_i hn _
  obtain⟨hp,hd,hK⟩:=h
  refine⟨(step P o s).y,?_,fun hD hm=>hd hD (by
   rcases hm with hm|⟨hm,_⟩
   ·exact hm
   ·unfold vcall at hm
    split at hm
    ·rename_i f args ts ho;exact (hn f args ts ho).elim
    ·cases hm),fun ⟨C,p,a,w,hs⟩=>hK ?_⟩
  ·unfold AY
   split
   ·rename_i f args ts ho;exact (hn f args ts ho).elim
   ·exact .inl ⟨hp,.inl rfl⟩
  obtain⟨_,_,_,_,_,_,hass,_⟩:=step_sound hs hp
  exact hass
theorem xop_sound {p:Plan}{a:Act}{w:World}{o:Oper}{KA:AS→Prop}(hp:SR C p s a w) (h:xop P false o KA s) (hd0:∀ t,o.dst=some t→t<s.n) {K:Act→World→Prop}{Q:Exit→Act→World→Prop}
 (hK:∀ a' w' p' s',SR C p' s' a' w'→s'.n=s.n→KA s'→K a' w') (hnd:∀ c,o.op ≠ .defer c):o.wpIn (fnc C.rd) 0 P a w K Q:=by
 have plain:aop P false o KA s→o.wpIn (fnc C.rd) 0 P a w K Q:=fun h=>by
  obtain⟨y,hy,_,hKy⟩:=aop_AY h
  refine wpIn_of_wp hnd ?_
  exact AY_sound hp hy hd0 fun a' w' p' hs'=>hK a' w' p' _ hs' (app_n _ _ _) (hKy ⟨C,p,a,w,hp⟩)
 unfold xop at h
 rw[if_neg (by simp)] at h
 split at h
 ·rename_i f args ts ho
  rcases h with h|h|h|h|h
  ·refine plain ?_
   unfold aop
   rw[ho];exact .inl h
  ·exact wpIn_of_wp hnd (mcall_sound hp ho h hd0 hK)
  ·exact wpIn_of_wp hnd (ocall_sound hp ho h hd0 hK)
  ·exact ycall_sound hp ho h hd0 hK
  ·exact wpIn_of_wp hnd (ncall_sound hp ho h hd0 hK)
 ·rename_i x ho
  obtain⟨v,w',p',s',y,hrun,hs',hn,hrel,hKy⟩:=next_sound (P:=P) (ty:=o.type) hp h
  refine wpIn_of_wp hnd ?_
  unfold Oper.wp
  have:(execOp a.eval o).run P w = .ok (.value v) w':=by simp only[execOp,ho,Sem.run_bind,hrun,Result.andThen_ok,Sem.run_pure]
  rw[this]
  have hput:=hs'.put' (d:=o.dst) (av:=.r y) (v:=v) (by simp only[AV.rel];exact hrel) (fun t ht=>by rw[hn];exact hd0 t ht)
  refine hK _ w' p' _ hput ?_ hKy
  exact (put_n _ _ _).trans hn
 ·exact plain h
theorem aops_seq {Q:AS→Prop}{Q':Exit→Act→World→Prop}(hQ:∀ s a w,Q s→SRel C s a w→Q' .normal a w):∀ (l:List Oper) (s:AS) (a:Act) (w:World),dstOk l.toArray s.n=true→aops P false ops l Q s→SRel C s a w→wpListIn (fnc C.rd) 0 P ops Q' l a w
 | [],s,a,w,_,h,hs=>hQ s a w h hs
 | o::l, s, a, w, hd, h, hs=>by
   have hd0:∀ t,o.dst=some t→t<s.n:=dstOk_get (i:=0) hd (by simp)
   have hdl:dstOk l.toArray s.n=true:=by
    unfold dstOk at hd ⊢
    simp only[List.all_toArray,List.all_cons,Bool.and_eq_true] at hd ⊢
    exact hd.2
   obtain⟨p,hp⟩:=hs
   have run:∀ {s1:AS},s1=s→xop P false o (aops P false ops l Q) s1→wantA ops s o=some true→wpListIn (fnc C.rd) 0 P ops Q' (o::l) a w:=fun e hop hw=>by
    subst e
    unfold wpListIn
    rw[if_pos (wantA_sound hp hw)]
    refine xop_sound hp hop hd0 (fun a' w' p' s' hs' hn hK=>?_) (dstOk_nd (i:=0) hd (by simp))
    exact aops_seq hQ l _ a' w' (by rw[hn];exact hdl) hK ⟨p',hs'⟩
   have skip:∀ {s1:AS},s1=s→aops P false ops l Q (s1.put o.dst (.r .ud))→wantA ops s o=some false→wpListIn (fnc C.rd) 0 P ops Q' (o::l) a w:=fun e hop hw=>by
    subst e
    unfold wpListIn
    rw[wantA_sound hp hw]
    simp only[Bool.false_eq_true,if_false]
    refine⟨fun _ _=>trivial,?_⟩
    have:=hp.put' (d:=o.dst) (av:=.r .ud) (v:=undef) (by simp only[AV.rel,RV.rel]) hd0
    exact aops_seq hQ l _ _ w (by rw[put_n];exact hdl) hop ⟨p,this⟩
   unfold aops at h
   split at h
   ·rename_i hg
    exact run rfl h (by simp [wantA,hg])
   ·rename_i g want hg
    split at h
    ·rename_i ht
     exact skip rfl h (by simp [wantA,hg,ht])
    ·rename_i t ht
     split at h
     ·rename_i b hb
      by_cases hw:b=want
      ·subst hw
       exact run (put_self hb) (h.1 rfl) (by simp [wantA,hg,ht,hb])
      ·have hw':b = !want:=by cases b<;>cases want<;>simp_all
       subst hw'
       exact skip (put_self hb) (h.2 rfl) (by simp [wantA,hg,ht,hb])
     ·rename_i hb
      exact skip rfl h (by simp [wantA,hg,ht,hb])
     ·exact h.elim
theorem aops_lex {Q:AS→Prop}:∀ (l:List Oper) (s:AS),dstOk l.toArray s.n=true→NE s→aops P true ops l Q s→lexA P ops Q l s
 | [],_,_,_,h=>h
 | o::l, s, hd, hne, h=>by
   have hd0:∀ t,o.dst=some t→t<s.n:=dstOk_get (i:=0) hd (by simp)
   have hdl:dstOk l.toArray s.n=true:=by
    unfold dstOk at hd ⊢
    simp only[List.all_toArray,List.all_cons,Bool.and_eq_true] at hd ⊢
    exact hd.2
   have run:∀ {s1:AS},s1=s→xop P true o (aops P true ops l Q) s1→wantA ops s o=some true→lexA P ops Q (o::l) s:=fun e hop hw=>by
    subst e
    unfold xop at hop
    rw[if_pos rfl] at hop
    obtain⟨y,hy,hdead,hK⟩:=aop_AY hop
    have hY:YieldsA P ops o y _:=.inl ⟨hw,hy,hdead rfl⟩
    exact⟨y,hY,aops_lex l _ (by rw[app_n];exact hdl) (hne.app hY hd0) (hK hne)⟩
   have skip:∀ {s1:AS},s1=s→aops P true ops l Q (s1.put o.dst (.r .ud))→wantA ops s o=some false→lexA P ops Q (o::l) s:=fun e hop hw=>by
    subst e
    have hY:YieldsA P ops o ysk _:=.inr ⟨hw,rfl⟩
    exact⟨ysk,hY,aops_lex l _ (by rw[app_n];exact hdl) (hne.app hY hd0) hop⟩
   unfold aops at h
   split at h
   ·rename_i hg
    exact run rfl h (by simp [wantA,hg])
   ·rename_i g want hg
    split at h
    ·rename_i ht
     exact skip rfl h (by simp [wantA,hg,ht])
    ·rename_i t ht
     split at h
     ·rename_i b hb
      by_cases hw:b=want
      ·subst hw
       exact run (put_self hb) (h.1 rfl) (by simp [wantA,hg,ht,hb])
      ·have hw':b = !want:=by cases b<;>cases want<;>simp_all
       subst hw'
       exact skip (put_self hb) (h.2 rfl) (by simp [wantA,hg,ht,hb])
     ·rename_i hb
      exact skip rfl h (by simp [wantA,hg,ht,hb])
     ·exact h.elim
variable {Q:Exit→AS→Prop}
theorem awp_region {id:Nat}{l:List Oper}(hd:dstOk l.toArray s.n=true) (h:aops P false l.toArray l (Q .normal) s):awp P C (.region id l.toArray false) Q s:=fun a w hs=>by
 refine wpIn_region_list ?_
 exact aops_seq (fun s a w hq hs=>⟨s,hs,hq⟩) l s a w hd h hs
theorem awp_draw {id:Nat}{l:List Oper}(hm:P.follows .mixedOrders=true) (hB:lexOk l.toArray=true) (hd:dstOk l.toArray s.n=true) (h:aops P true l.toArray l (Q .normal) s):awp P C (.region id l.toArray true) Q s:=fun a w hs=>by
 obtain⟨p,hp⟩:=hs
 exact region_draw hm hB hd ⟨p,hp⟩ (fun s a w hq hs=>⟨s,hs,hq⟩) (aops_lex l s hd ⟨C,p,a,w,hp⟩ h)
theorem awp_mono {c:Code}{Q':Exit→AS→Prop}(hq:∀ e s,Q e s→Q' e s) (h:awp P C c Q s):awp P C c Q' s:=fun a w hs =>
 wpIn_mono (h a w hs) fun e _ _ ⟨s',hs',hq'⟩=>⟨s',hs',hq e s' hq'⟩
def andThen (K:AS→Prop) (Q:Exit→AS→Prop):Exit→AS→Prop
 | .normal,s=>K s
 | e,s=>Q e s
theorem zq {x y:Code}(h:awp P C x (andThen (awp P C y Q) Q) s):awp P C (.seq x y) Q s:=fun a w hs=>by
 refine wpIn_seq (wpIn_mono (h a w hs) ?_)
 rintro e a' w' ⟨s',hs',hq⟩
 cases e<;>first|exact hq a' w' hs'|exact⟨s',hs',hq⟩
theorem zx (h:Q .normal s):awp P C .skip Q s:=fun _ _ hs=>wpIn_skip ⟨s,hs,h⟩
theorem awp_label {l:Nat}(h:Q .normal s):awp P C (.label l) Q s:=fun _ _ hs=>wpIn_label ⟨s,hs,h⟩
theorem zf {id:Nat}(h:Q (.exit id) s):awp P C (.exit id) Q s:=fun _ _ hs=>wpIn_exit ⟨s,hs,h⟩
theorem ze (h:Q .ret s):awp P C .ret Q s:=fun _ _ hs=>wpIn_ret ⟨s,hs,h⟩
theorem zc {c:Operand}{x y:Code}{t:Bool}(hc:s.ev c = .r (.bo t)) (h1:t=true→awp P C x Q s) (h2:t=false→awp P C y Q s):awp P C (.cond c x y) Q s:=fun a w hs=>by
 obtain⟨p,hp⟩:=hs
 exact wpIn_cond_split (ev_bo hp hc) (fun ht=>h1 ht a w ⟨p,hp⟩) (fun ht=>h2 ht a w ⟨p,hp⟩)
def inBlk (id:Nat) (Q:Exit→AS→Prop):Exit→AS→Prop
 | .exit id',s=>if id'=id then Q .normal s else Q (.exit id') s
 | e,s=>Q e s
theorem zd {id:Nat}{c:Code}(h:awp P C c (inBlk id Q) s):awp P C (.block id c) Q s:=fun a w hs=>by
 refine wpIn_block (wpIn_mono (h a w hs) ?_)
 rintro e a' w' ⟨s',hs',hq⟩
 cases e with
 | exit id' =>
   simp only[inBlk] at hq
   simp only[Exit.inBlock]
   split
   ·rename_i hid;rw[if_pos hid] at hq;exact⟨s',hs',hq⟩
   ·rename_i hid;rw[if_neg hid] at hq;exact⟨s',hs',hq⟩
 | _=>exact⟨s',hs',hq⟩
theorem awp_loop {c:Code}(I:Nat→AS→Prop) (n:Nat) (h0:I n s) (round:∀ n s,I n s→awp P C c (andThen (fun s'=>∃ m,m<n∧I m s') Q) s):awp P C (.loop c) Q s:=fun a w hs=>by
 intro b k cs hro hb hr
 have key:∀ n s a w,I n s→SRel C s a w→∃ e a' w',(∃ s',SRel C s' a' w'∧Q e s')∧ArrivesIn (Machine.fenced P (fnc C.rd)) P (lone (b.atR a (.code c :: .inLoop c::k)) cs w) b k cs e a' w':=by
  intro n
  induction n using Nat.strongRecOn with
  | _ n ih =>
    intro s a w hI hs
    obtain⟨e,a₁,w₁,⟨s₁,hs₁,hq⟩,harr⟩:=round n s hI a w hs b (.inLoop c::k) cs hro hb hr
    cases e with
    | normal =>
      obtain⟨m,hlt,hI₁⟩:=hq
      obtain⟨e₂,a₂,w₂,hq₂,harr₂⟩:=ih m hlt s₁ a₁ w₁ hI₁ hs₁
      exact⟨e₂,a₂,w₂,hq₂,.of_steps (StepsIn.trans harr (.one (fenced_calm hb hr rfl) stepR_inLoop)) harr₂⟩
    | exit id=>exact⟨_,a₁,w₁,⟨s₁,hs₁,hq⟩,.pass (x:=.inLoop c) rfl (fun _ _=>.inl (by simp)) harr⟩
    | goto l=>exact⟨_,a₁,w₁,⟨s₁,hs₁,hq⟩,.pass (x:=.inLoop c) rfl (fun _ _=>.inl (by simp)) harr⟩
    | ret=>exact⟨_,a₁,w₁,⟨s₁,hs₁,hq⟩,.pass (x:=.inLoop c) rfl (fun _ _=>.inl (by simp)) harr⟩
    | panic ch=>exact⟨_,a₁,w₁,⟨s₁,hs₁,hq⟩,.pass (x:=.inLoop c) rfl (fun _ _=>.inl (by simp)) harr⟩
    | outgrown=>exact⟨_,a₁,w₁,⟨s₁,hs₁,hq⟩,.pass (x:=.inLoop c) rfl (fun _ _=>.inl (by simp)) harr⟩
 obtain⟨e,a',w',hq,harr⟩:=key n s a w h0 hs
 exact⟨e,a',w',hq,.of_steps (.one (fenced_calm hb hr rfl) stepR_loop) harr⟩
def Sub (s s':AS):Prop:=∀ C a w,SRel C s a w→SRel C s' a w
theorem Sub.refl (s:AS):Sub s s:=fun _ _ _ h=>h
theorem Sub.trans {s1 s2 s3:AS}(h:Sub s1 s2) (k:Sub s2 s3):Sub s1 s3:=fun C a w hs=>k C a w (h C a w hs)
theorem zw {c:Code}{s':AS}(h:Sub s s') (hq:awp P C c Q s'):awp P C c Q s:=fun a w hs=>hq a w (h C a w hs)
def look (l:List (Nat × AV)):Nat→AV
 | j=>match l with
   | []=>.r .un
   | (k,v)::l=>if j=k then v else look l j
theorem sub_look {n:Nat}{tm:Nat→AV}{rows:Nat→Row}(l:List (Nat × AV)) (h:∀ p∈l,tm p.1=p.2):Sub ⟨n,tm,rows⟩ ⟨n,look l,rows⟩:=fun C a w ⟨p,hp⟩=>by
 refine⟨p,hp.forget (look l) fun t=>?_⟩
 induction l with
 | nil=>exact .inr (by simp [look])
 | cons q l ih =>
   obtain⟨k,v⟩:=q
   by_cases e:t=k
   ·subst e
    refine .inl ?_
    have:=h (t,v) (by simp)
    simp only[look,if_true];exact this.symm
   ·have:=ih (fun q hq=>h q (by simp [hq]))
    simpa [look,e] using this
theorem sub_kill (s:AS) (k:Nat) (hk0:k<1000):Sub s { s with rows:=upd s.rows k ⟨(s.rows k).ver+1,.dead⟩ }:=fun C a w ⟨p,hp⟩ =>
 ⟨_,hp.reRow (w':=w) k hk0 .dead rfl none 1 (by simp [maxLen]) rfl rfl rfl (Nat.le_refl _) (fun _ _ _=>rfl) (fun _ h=>by cases h) (fun p' ver' _ hβ hγ _=>by simp only[zrl];exact⟨hβ,hγ⟩)⟩
theorem sub_adopt (s:AS) (t k e sz:Nat) (hk0:k<1000) (h:s.tm t = .r .ns) :
 Sub s { s with tm:=upd s.tm t (.os k ((s.rows k).ver+1) sz 0 0),rows:=upd s.rows k ⟨(s.rows k).ver+1,.arr e sz []⟩ }:=fun C a w ⟨p,hp⟩=>by
 have h1:=hp.reRow (w':=w) k hk0 (.arr e sz []) rfl none 0 (Nat.zero_le _) rfl rfl rfl (Nat.le_refl _) (fun _ _ _=>rfl) (fun _ h=>by cases h) (fun p' ver' _ hβ hγ _=>by simp [zrl,hβ,hγ])
 refine⟨_,{ h1 with tm:=fun j=>?_ }⟩
 show AV.rel w _ _ (upd s.tm t _ j) _
 by_cases hj:j=t
 ·subst hj
  rw[zus]
  have:=hp.tm j
  rw[h] at this
  simp only[AV.rel,RV.rel] at this
  obtain⟨A,hA⟩:=this
  simp only[AV.rel,AS.ver,zus];exact⟨Nat.le_refl _,fun _=>.inl ⟨trivial,trivial,trivial,trivial,A,hA⟩⟩
 ·rw[zuo _ _ hj]
  exact h1.tm j
end
def argTm (xs:List RV):Nat→AV:=fun t=>match xs[t]? with|some x=>.r x|none=>.r .ud
def start (n:Nat) (xs:List RV):AS:=⟨n,argTm xs,fun _=>⟨0,.dead⟩⟩
def resA (P:Program) (s:AS):ResultVar→Res
 | .tmp t=>.val (s.tm t)
 | .cell a t=>sLoad P s t (s.tm a)
def resOk (P:Program) (s:AS):List ResultVar→List RV→Prop
 | [],rs=>rs=[]
 | v::vs,rs=>(resA P s v).pre∧snapP s.rows (resA P s v).y.av∧∃ r rs',rs=r::rs'∧RV.le (snapV s.rows (resA P s v).y.av) r∧resOk P s vs rs'
def resV:List RV→RV
 | [r]=>r
 | rs=>.tu rs
def fpost (P:Program) (fn:Func) (rs:List RV):Exit→AS→Prop
 | .normal,s=>resOk P s fn.results.toList rs
 | .ret,s=>resOk P s fn.results.toList rs
 | _,_=>False
section
variable {P:Program}
def resOp (tmps:Array Value):ResultVar→Sem Value
 | .tmp t=>pure (tmps.getD t undef)
 | .cell a t=>do loadVar t (← asAddr (tmps.getD a undef))
theorem results_eq (fn:Func) (tmps:Array Value):results fn tmps=(do
 let vs ← fn.results.mapM (resOp tmps)
 pure (if h:vs.size=1 then vs[0] else .tuple vs)):=by
 unfold results
 congr 1
theorem run_result {C:Ctx}{p:Plan}{s:AS}{a:Act}{w:World}(hs:SR C p s a w) (rv:ResultVar) (hp:(resA P s rv).pre) :
 ∃ v,(resOp a.tmps rv).run P w = .ok v w∧(resA P s rv).y.av.rel w p s.ver v:=by
 cases rv with
 | tmp t=>exact⟨_,rfl,hs.tm t⟩
 | cell ad t =>
   obtain⟨x,v,hv,hrun,hrel,_⟩:=load_ok (x:=.tmp ad) hs hp
   have hv':a.tmps.getD ad undef = .pointer (some x):=hv
   exact⟨v,by simp only[resOp,hv',asAddr,Sem.run_bind,Sem.run_pure,Result.andThen_ok,hrun],hrel⟩
theorem run_resList {C:Ctx}{p:Plan}{s:AS}{a:Act}{w:World}(hs:SR C p s a w):∀ (vs:List ResultVar) (rs:List RV),resOk P s vs rs →
 ∃ us,(vs.mapM (resOp a.tmps)).run P w = .ok us w∧RV.relV w p.all rs us
 | [],rs,h=>by simp only[resOk] at h;subst h;exact⟨[],rfl,by simp [RV.relV]⟩
 | v::vs, rs, h=>by
   obtain⟨hp,hsn,r,rs',rfl,hle,hrest⟩:=h
   obtain⟨u,hu,hrel⟩:=run_result hs v hp
   obtain⟨us,hus,hV⟩:=run_resList hs vs rs' hrest
   refine⟨u::us,?_,by simp only[RV.relV];exact⟨u,us,rfl,le_rel _ _ _ hle (snap_rel hs _ _ hsn hrel),hV⟩⟩
   simp only[List.mapM_cons,Sem.run_bind,hu,Result.andThen_ok,hus,Sem.run_pure]
theorem run_results {C:Ctx}{p:Plan}{s:AS}{a:Act}{w:World}(hs:SR C p s a w) {fn:Func}{rs:List RV}(h:resOk P s fn.results.toList rs):∃ v,(results fn a.tmps).run P w = .ok v w∧(resV rs).rel w p.all v:=by
 obtain⟨us,hus,hV⟩:=run_resList hs _ _ h
 have hm:(fn.results.mapM (resOp a.tmps)).run P w = .ok us.toArray w:=by
  rw[Array.mapM_eq_mapM_toList]
  simp only[Sem.run_map,hus,Result.andThen_ok]
 have hl:=RV.relV_length hV
 refine⟨if h:us.toArray.size=1 then us.toArray[0] else .tuple us.toArray,?_,?_⟩
 ·rw[results_eq,Sem.run_bind,hm]
  simp only[Result.andThen_ok,Sem.run_pure]
 ·match rs,us,hl,hV with
  | [r], [u], _, hV =>
    simp only[RV.relV] at hV
    obtain⟨u',us',e,h1,_⟩:=hV
    injection e with e1 e2
    subst e1
    simpa [resV] using h1
  | [], us, hl, hV =>
    have:us=[]:=List.eq_nil_of_length_eq_zero (by simpa using hl)
    subst this
    simp only[resV,RV.rel];exact⟨#[],rfl,hV⟩
  | r1::r2::rs, us, hl, hV =>
    have:¬ us.toArray.size=1:=by simp at hl ⊢;omega
    rw[dif_neg this]
    simp only[resV,RV.rel];exact⟨us.toArray,rfl,hV⟩
theorem marks_inj:∀ {A B:List Nat},marks A=marks B→A=B
 | [],[],_=>rfl
 | [],_::_,h=>by cases h
 | _::_,[],h=>by cases h
 | a::A, b::B, h=>by
   simp only[marks,List.map_cons,List.cons.injEq,Deferred.mk.injEq,Target.collected.injEq,and_true] at h
   rw[h.1,marks_inj (A:=A) (B:=B) h.2]
theorem SR.leave {C:Ctx}{p:Plan}{s:AS}{a:Act}{w:World}(h:SR C p s a w) {fn:Func}{R':Ending→World→Prop}(hfin:∀ (a':Act) (w':World),a'.tmps=a.tmps→SR C p s a' w'→∃ v,(results fn a'.tmps).run P w' = .ok v w'∧R' (.returned v) w') :
 LeavesInM Fence.wide 0 P fn a.tmps R' a.defers .returning w:=by
 have key:∀ (Ds:List Nat) (a':Act) (w:World),a'.tmps=a.tmps→SR C p s a' w→a'.defers=marks Ds→LeavesInM Fence.wide 0 P fn a.tmps R' (marks Ds) .returning w:=by
  intro Ds
  induction Ds with
  | nil =>
    intro a' w ha h hd
    obtain⟨v,hv,hR⟩:=hfin a' w ha h
    rw[ha] at hv
    exact⟨v,hv,hR⟩
  | cons D Ds ih =>
    intro a' w ha h hd
    obtain⟨Ds0,h1,h2,h3⟩:=h.ex.df
    have he:Ds0=D::Ds:=by
     have hm:marks Ds0=marks (D::Ds):=h1.symm.trans hd
     exact marks_inj hm
    subst he
    obtain⟨g1,g2,g3,g4,g5,g6⟩:=h3 D (by simp)
    have hoth:∀ b,b≠D→(w.putObj D (.deferred none)).heap[b]? = w.heap[b]?:=fun b hb=>World.putObj_heap_other hb
    have hS:SR C p s { tmps:=a'.tmps,defers:=marks Ds } (w.putObj D (.deferred none)):=by
     refine h.other rfl rfl rfl rfl (Nat.le_of_eq World.putObj_size.symm) (fun b _ hb=>hoth b fun e=>?_) ?_
     ·subst e
      rcases hb with hb|⟨k,hb⟩|hb|hb
      ·exact g3 hb
      ·exact g4 k hb
      ·omega
      ·exact g5 hb
     ·exact {
       px:=h.ex.px
       n0:=h.ex.n0
       ψ0:=h.ex.ψ0
       ψl:=fun b hb=>by rw[World.putObj_size];exact h.ex.ψl b hb
       θl:=fun b hb=>by rw[World.putObj_size];exact h.ex.θl b hb
       ψb:=h.ex.ψb
       ψr:=h.ex.ψr
       ψo:=h.ex.ψo
       θo:=h.ex.θo
       bo:=h.ex.bo
       ψn:=h.ex.ψn
       hd:=fun b hm=>by rw[World.putObj_size];exact h.ex.hd b hm
       rm:=fun hr=>by have h5:=h.ex.rm hr;rw[hd] at h5;cases h5
       df:=⟨Ds,rfl,(List.nodup_cons.1 h2).2,fun D' hD'=>by
        obtain⟨k1,k2⟩:=h3 D' (by simp [hD'])
        exact⟨(hoth D' (fun e=>(List.nodup_cons.1 h2).1 (e▸hD'))).trans k1,k2⟩⟩ }
    exact⟨by simp,.inl ⟨D,_,rfl,run_takeDeferred g1,ih { tmps:=a'.tmps,defers:=marks Ds } _ ha hS rfl⟩⟩
 obtain⟨Ds,h1,_⟩:=h.ex.df
 rw[h1]
 exact key Ds a w rfl h h1
theorem acalls_ofR {f:FuncId}{fn:Func}{c:Code}{n:Nat}{args rs:List RV}{r:RV}(hf:P.funcs[f]? = some fn) (hb:fn.body=some c) (hc:callable P f=true) (hn:fn.ntmps=n) (hargs:args.length≤n) (hr:resV rs=r)
 (h:∀ C:Ctx,C.rd=none∧C.X=XS.none→awp P C c (fpost P fn rs) (start n args)):ACalls P f args r:=by
 refine⟨hc,fun w R vs hR hV=>?_⟩
 have hlen:=RV.relV_length hV
 simp only[Array.length_toList] at hlen
 let C:Ctx:={ w0:=w,R0:=R,bor:=fun _=>False,pin:=fun _=>none }
 let p:Plan:={ R:=R,β:=fun _=>none,γ:=fun _=>1 }
 have hs:SR C p (start n args) { tmps:=vs++Array.replicate (fn.ntmps-vs.size) undef,defers:=[] } w:={
  base:=⟨rfl,rfl,rfl,Nat.le_refl _,fun _ _ _ _=>rfl⟩
  r0:=fun _ h=>h
  rn:=fun _ h=>.inl h
  rb:=hR
  tm:=fun t=>by
   show (argTm args t).rel _ _ _ _
   unfold argTm
   split
   ·rename_i x e
    obtain⟨u,hu,hx⟩:=RV.relV_get hV e
    have:(vs++Array.replicate (fn.ntmps-vs.size) undef).getD t undef=u:=by
     have ht:t<vs.size:=by have:=(List.getElem?_eq_some_iff.1 hu).1;simpa using this
     rw[Array.getD_eq_getD_getElem?,Array.getElem?_append_left ht]
     simp only[Array.getElem?_toList] at hu
     rw[hu];rfl
    rw[this]
    simpa only[AV.rel] using hx
   ·rename_i e
    have ht:args.length≤t:=by simpa using e
    have:(vs++Array.replicate (fn.ntmps-vs.size) undef).getD t undef=undef:=by
     rw[Array.getD_eq_getD_getElem?,Array.getElem?_append_right (by omega)]
     simp [Array.getElem?_replicate]
     split<;>rfl
    rw[this]
    simp only[AV.rel,RV.rel]
  sz:=by simp only[Array.size_append,Array.size_replicate,start];omega
  ex:=ext_start (fun _ h=>h.elim (fun h=>h.elim) (fun h=>h.elim))
  rw:=fun k=>by simp [start,zrl,p]
  bl:=fun k b h=>by simp [p] at h
  ij:=fun k k' b h=>by simp [p] at h
  cap:=fun k=>by simp [p,maxLen]
  pn:=fun k x h=>by cases h
  lk:=fun j km n l cur h _=>by cases h }
 refine callsIn_wide.1 (callsIn_of_wp_marks (n:=0) hf hb trivial (wpIn_mono (h C ⟨rfl,rfl⟩ _ w ⟨p,hs⟩) ?_))
 rintro e a' w' ⟨s',⟨p',hs'⟩,hq⟩
 have fin:resOk P s' fn.results.toList rs→LeavesInM Fence.wide 0 P fn a'.tmps (fun e w'=>∃ v' R',e = .returned v'∧Below w.heap.size w w'∧(∀ b,R b→R' b)∧(∀ b,R' b→R b∨w.heap.size≤b)∧(∀ b,R' b→b<w'.heap.size)∧r.rel w' R' v') a'.defers .returning w':=fun hres =>
  hs'.leave fun a' w' _ hs'=>by
  obtain⟨v,hv,hrel⟩:=run_results hs' hres
  rw[hr] at hrel
  refine⟨v,hv,v,p'.all,rfl,⟨hs'.base.os,hs'.base.tape,hs'.base.output,hs'.base.size,fun k hk=>hs'.base.block k hk (fun h=>h) (fun h=>h)⟩,fun b hb=>.inl (hs'.r0 b hb),fun b hb=>?_,fun b hb=>?_,hrel⟩
  ·rcases hb with hb|⟨k,hk⟩
   ·exact (hs'.rn b hb).imp id (fun h=>h.resolve_right fun h=>h)
   ·exact .inr ((hs'.bl k b hk).2.2.resolve_right (fun h=>h.elim (fun h=>h.2) fun h=>h))
  ·rcases hb with hb|⟨k,hk⟩
   ·exact hs'.rb b hb
   ·exact (hs'.bl k b hk).1
 cases e with
 | normal=>exact fin hq
 | ret=>exact fin hq
 | _=>exact hq.elim
theorem acalls_of {f:FuncId}{fn:Func}{c:Code}{n:Nat}{args rs:List RV}{r:RV}(hf:P.funcs[f]? = some fn) (hb:fn.body=some c) (hc:callable P f=true) (hn:fn.ntmps=n) (hargs:args.length≤n) (hr:resV rs=r)
 (h:∀ C,awp P C c (fpost P fn rs) (start n args)):ACalls P f args r:=acalls_ofR hf hb hc hn hargs hr fun C _=>h C
end
end Go.Oc
