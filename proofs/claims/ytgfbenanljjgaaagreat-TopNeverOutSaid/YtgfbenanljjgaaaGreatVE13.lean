/- For all laws made of bits and bytes, starts and gates, the given function TopNeverOut returns true: a score that no bed in which a dart can land can end is one that Never returns, and its lower number is the greatest one. No conditions beyond those of the given statement. -/
import Derived.Test.YtgfbenanljjgaaaGreatVE12
import Derived.Test.YtgfbenanljjgaaaGreatVE10
import Derived.Test.YtgfbenanljjgaaaGreatVE7
import Derived.Test.YtgfbenanljjgaaaGreatVE9
import Derived.Test.YtgfbenanljjgaaaGreatVE6
import Derived.Test.YtgfbenanljjgaaaGreatVE5
import Derived.ChangeShapes
import Derived.WideShapes
import Derived.OpenShut
import Derived.ShutString
import Derived.ChangeOld
import Derived.Carry
import Derived.Below
import Derived.Test.YtgfbenanljjgaaaGreatRows
import Derived.JoinedOf
set_option linter.unusedSimpArgs false
set_option linter.unusedVariables false
namespace Go.Proofs.YtgfbenanljjgaaaGreat.Du
open Go Go.Oc
set_option maxRecDepth 8000
set_option maxHeartbeats 4000000
theorem zNY {n:Nat}{F:(Nat→Nat)→Bool→List (Nat × AV)}{R:(Nat→Nat)→Bool→List (Nat × RowC)}{s s':AS}(h:Sub s s') (hf:FitG n F R s'):FitG n F R s:=by
 obtain⟨vs,z,hs⟩:=hf
 exact⟨vs,z,fun C a w hw=>hs C a w (h C a w hw)⟩
theorem zSq (l:List Int) (hl:l.length≤1000):zAA Tryz.prog 145 [ints l] (if l=[] then .ns else .sx 1 (l.map fun x=>[i64 x])):=by
 refine zas (rs:=[if l=[] then .ns else .sx 1 (l.map fun x=>[i64 x])]) [.tmp 2] Tryz.func145 rfl (by kernel_rfl) Tryz.ntmps145 rfl (by simp) rfl fun C vs=>?_
 repeat apply zq
 refine zb fun K hK=>?_;simp only[go_sem];(try simp (disch:=omega) only[zI]);repeat first|intro _|refine⟨by omega,?_⟩
 apply hK;clear hK K;apply zw (zk [0]);simp only[go_sem]
 repeat apply zq
 refine zBp ?_
 refine zBD 5 (by kernel_rfl) fun K hK=>?_
 simp only[go_sem,List.take_succ_cons,List.take_zero,List.drop_succ_cons,List.drop_zero,List.append_eq,List.cons_append,List.nil_append];(try simp (disch:=omega) only[zI]);repeat first|intro _|refine⟨by omega,?_⟩
 refine hK _ rfl ?_
 clear hK K
 refine zBc (zk [3,5,7]) ?_
 simp only[go_sem]
 refine zBl rfl (by intro t h;injection h with h;subst h;show 8<9;decide) (by intro c h;cases h) (zST rfl (s:=_) ty65 (sz:=1) (es:=l.map fun x=>[i64 x]) rfl (k1:=.i64) (k2:=.i64) (by simp only[go_sem,List.length_map]) (by simp only[go_sem,List.length_map]) ?_)
 try simp only[go_sem]
 refine zBd (by kernel_rfl) fun K hK=>?_
 simp only[go_sem,List.drop_succ_cons,List.drop_zero,List.append_eq,List.cons_append,List.nil_append];(try simp (disch:=omega) only[zI]);repeat first|intro _|refine⟨by omega,?_⟩
 apply hK;clear hK K;apply zw (zk [2]);simp only[go_sem];apply ze;simp only[go_sem]
 by_cases h:l=[]
 ·subst h;simp
  exact zAS.le_refl _
 ·have:¬ (l.map fun x=>[i64 x])=[]:=by simpa using h
  simp only[if_neg h,if_neg this];exact zAS.le_refl _
def vI (b:Nat→Bool) (j:Nat) (v:AV):AV:=if b j then v else .r .un
def ygF (bs:List Int) (g:Int) (cs:List (List Int)) (k1 k y q x:Int) (B fi:List Int) (cl:RV) (ll:Nat) (gd:Bool) (b:Nat→Bool) (vs:Nat→Nat) (z:Bool):List (Nat × AV) :=
 [(5,.r (.rp [brdP bs g cs])),(7,.r (.rp [i64 k1])),(8,.r (.rp [ints fi])),(9,.r (.rp [.yl ll])),(10,.pt 10 (vs 10) 0),(11,.r (.rp [i64 x])),(12,.r (i64 y)),
  (23,vI b 0 (.r (brdP bs g cs))),
  (24,vI b 1 (.r (brdP bs g cs))),
  (25,vI b 2 (.r (.rp [tabR cs]))),
  (26,vI b 3 (.r (tabR cs))),
  (27,vI b 4 (.r (i64 k1))),
  (28,vI b 5 (.r (i64 k))),
  (29,vI b 6 (.r (.rp [ints B]))),
  (30,vI b 7 (.r (ints B))),
  (31,vI b 8 (.r (i64 y))),
  (32,vI b 9 (.r (.rp [i64 q]))),
  (33,vI b 10 (.r (i64 q))),
  (34,vI b 11 (.r (.bo gd))),
  (35,vI b 12 (.r (.bo gd))),
  (36,vI b 13 (.r (brdP bs g cs))),
  (37,vI b 14 (.r (i64 y))),
  (38,vI b 15 (.r (i64 k1))),
  (39,vI b 16 (.r (i64 k))),
  (40,vI b 17 (.r (ints fi))),
  (41,vI b 18 (.r cl)),
  (42,vI b 19 (.r (.rp [i64 x]))),
  (43,vI b 20 (.r (i64 x))),
  (44,vI b 21 (.r (.sl 1 [[i64 x]]))),
  (45,vI b 22 (.r (ints (fi++[x])))),
  (46,vI b 23 (.r (.yl ll))),
  (47,vI b 24 (.r (.bo z))),
  (48,vI b 25 (.r (.bo (!z)))),
  (49,vI b 26 (.r (.bo (!z))))]
def ygR (SA:(Nat→Nat)→List AV) (us:List Value) (G:Bool→Bool→RowC) (b:Nat→Bool) (vs:Nat→Nat) (z:Bool):List (Nat × RowC) :=
 [(0,.sus (SA vs) us),(10,.box [.r (.bo false)]),(999,G (b 24) z)]
def ygF2 (bs:List Int) (g:Int) (cs:List (List Int)) (k1 k y q x:Int) (B fi:List Int) (cl:RV) (ll:Nat) (gd:Bool) (b:Nat→Bool) (vs:Nat→Nat) (z:Bool):List (Nat × AV) :=
 [(5,.r (.rp [brdP bs g cs])),(7,.r (.rp [i64 k1])),(8,.r (.rp [ints fi])),(9,.r (.rp [.yl ll])),(10,.pt 10 (vs 10) 0),(11,.r (.rp [i64 x])),(12,.r (i64 y)),
  (23,vI b 0 (.r (brdP bs g cs))),
  (24,vI b 1 (.r (brdP bs g cs))),
  (25,vI b 2 (.r (.rp [tabR cs]))),
  (26,vI b 3 (.r (tabR cs))),
  (27,vI b 4 (.r (i64 k1))),
  (28,vI b 5 (.r (i64 k))),
  (29,vI b 6 (.r (.rp [ints B]))),
  (30,vI b 7 (.r (ints B))),
  (31,vI b 8 (.r (i64 y))),
  (32,vI b 9 (.r (.rp [i64 q]))),
  (33,vI b 10 (.r (i64 q))),
  (34,vI b 11 (.r (.bo gd))),
  (35,vI b 12 (.r (.bo gd))),
  (36,vI b 13 (.r .ud)),
  (37,vI b 14 (.r .ud)),
  (38,vI b 15 (.r .ud)),
  (39,vI b 16 (.r .ud)),
  (40,vI b 17 (.r .ud)),
  (41,vI b 18 (.r .ud)),
  (42,vI b 19 (.r .ud)),
  (43,vI b 20 (.r .ud)),
  (44,vI b 21 (.r .ud)),
  (45,vI b 22 (.r .ud)),
  (46,vI b 23 (.r .ud)),
  (47,vI b 24 (.r .ud)),
  (48,vI b 25 (.r .ud)),
  (49,vI b 26 (.r (.bo false)))]
def ygR2 (SA:(Nat→Nat)→List AV) (us:List Value) (G:RowC) (b:Nat→Bool) (vs:Nat→Nat) (z:Bool):List (Nat × RowC) :=
 [(0,.sus (SA vs) us),(10,.box [.r (.bo false)]),(999,G)]
attribute [go_sem] ygF ygR ygF2 ygR2 vI
theorem zPK (bs:List Int) (g:Int) (m dn s:Nat) (fi:List Int):zIQ Tryz.prog 106 (fun ll=>[brdP bs g (cntO g bs m dn),i64 (s:Int),i64 ((0:Nat):Int),ints fi,.yl ll]) ((zDm g bs m 0 s fi).map fun w=>[ints w]):=by
 generalize cntO g bs m dn=cs
 have z0:(((0:Nat):Int) == 0)=true:=rfl
 refine zHh (n:=50) (rv:=.cell 10 4) Tryz.func106 rfl (by kernel_rfl) Tryz.ntmps106 rfl (by simp) fun C ll rest hC=>?_
 repeat apply zq
 refine zb fun K hK=>?_;simp only[go_sem];(try simp (disch:=omega) only[zI]);repeat first|intro _|refine⟨by omega,?_⟩
 apply hK;clear hK K;refine zw (zfP 5 5 [brdP bs g cs] (by omega) rfl rfl) ?_;refine zw (zfP 7 7 [i64 ((0:Nat):Int)] (by omega) rfl rfl) ?_;refine zw (zfP 8 8 [ints fi] (by omega) rfl rfl) ?_;refine zw (zfP 9 9 [.yl ll] (by omega) rfl rfl) ?_;apply zw (zk [1,5,7,8,9,10]);simp only[go_sem]
 repeat apply zq
 refine zb fun K hK=>?_;simp only[go_sem,z0];(try simp (disch:=omega) only[zI]);repeat first|intro _|refine⟨by omega,?_⟩
 apply hK;clear hK K;apply zw (zk [8,9,10,14]);simp only[go_sem]
 repeat apply zq
 apply zc rfl<;>intro hc<;>(try simp only[go_sem] at hc)
 repeat apply zq
 refine zb fun K hK=>?_;simp only[go_sem];(try simp (disch:=omega) only[zI])
 refine zA1 (e:=[ints fi]) (rest:=rest) (by simp only[go_sem,zDm,List.map_cons,List.map_nil,List.cons_append,List.nil_append]) rfl (by simp only[go_sem]) (.inr rfl) ?_ ?_
 ·simp only[go_sem];repeat first|intro _|refine⟨by omega,?_⟩
  apply hK;clear hK K;apply zw (zk [10]);simp only[go_sem];apply ze;exact⟨true,ll,by simp only[go_sem],rfl⟩
 ·simp only[go_sem];repeat first|intro _|refine⟨by omega,?_⟩
  apply hK;clear hK K;apply zw (zk [10]);simp only[go_sem];apply ze;exact⟨false,ll,by simp only[go_sem],rfl⟩
theorem zPL (bs:List Int) (g:Int) (hB:∀ b∈bs,zAb b=true∧0≤b∧b≤499) (m dn:Nat) (hm:m≤1000) (k s:Nat) (fi:List Int) (hs:s≤m) (hk:k+1≤dn) (hf:fi.length+(k+1)≤9)
 (ih:∀ (y:Nat) (x:Int),y≤m→zIQ Tryz.prog 106 (fun ll=>[brdP bs g (cntO g bs m dn),i64 (y:Int),i64 (k:Int),ints (fi++[x]),.yl ll]) ((zDm g bs m k y (fi++[x])).map fun w=>[ints w])) :
 zIQ Tryz.prog 106 (fun ll=>[brdP bs g (cntO g bs m dn),i64 (s:Int),i64 ((k+1:Nat):Int),ints fi,.yl ll]) ((zDm g bs m (k+1) s fi).map fun w=>[ints w]):=by
 have hBl0:=zEE g bs m k
 have hck0:(cntO g bs m dn)[k]? = some (rowN g bs m k):=by
  unfold cntO
  rw[List.getElem?_map,List.getElem?_range (by omega)]
  rfl
 have hcl0:=zFt g bs m dn
 have hb1:∀ b∈bs,zAb b=true:=fun b h=>(hB b h).1
 have hmem:=fun x (hx:x∈zAJ g (s:Int) bs)=>zEC hb1 hx
 have hwd:(zDm g bs m (k+1) (s:Int) fi)=(zAJ g (s:Int) bs).flatMap fun x=>if 0<(rowN g bs m k).getD x.2.toNat 0 then zDm g bs m k x.2 (fi++[x.1]) else []:=rfl
 rw[hwd]
 have hcl:=zSq fi (by omega)
 obtain⟨cl,hcl2⟩:∃ cl,cl=(if fi=[] then .ns else .sx 1 (fi.map fun x=>[i64 x]):RV):=⟨_,rfl⟩
 have hclv:(fi=[]∧cl = .ns)∨cl = .sx 1 (fi.map fun x=>[i64 x]):=by
  rw[hcl2]
  by_cases e:fi=[]
  ·exact .inl ⟨e,if_pos e⟩
  ·exact .inr (if_neg e)
 rw[← hcl2] at hcl
 generalize cntO g bs m dn=cs at *
 generalize rowN g bs m k=B at *
 have hth:=zGb bs g cs (s:Int)
 have hit:=zFX bs g cs (s:Int) (by omega) (fun b h=>(hB b h).2)
 generalize hT:zAJ g (s:Int) bs=T at *
 obtain⟨H,hH⟩:∃ H:Int × Int→List (List Int),H=fun x=>if 0<B.getD x.2.toNat 0 then zDm g bs m k x.2 (fi++[x.1]) else []:=⟨_,rfl⟩
 rw[← hH]
 have z0:(((k+1:Nat):Int) == 0)=false:=by rw[beq_eq_false_iff_ne];omega
 have z1:((k:Int)+1 == 0)=false:=by rw[beq_eq_false_iff_ne];omega
 refine zHh (n:=50) (rv:=.cell 10 4) Tryz.func106 rfl (by kernel_rfl) Tryz.ntmps106 rfl (by simp) fun C ll rest hC=>?_
 repeat apply zq
 refine zb fun K hK=>?_;simp only[go_sem];(try simp (disch:=omega) only[zI]);repeat first|intro _|refine⟨by omega,?_⟩
 apply hK;clear hK K;refine zw (zfP 5 5 [brdP bs g cs] (by omega) rfl rfl) ?_;refine zw (zfP 7 7 [i64 ((k+1:Nat):Int)] (by omega) rfl rfl) ?_;refine zw (zfP 8 8 [ints fi] (by omega) rfl rfl) ?_;refine zw (zfP 9 9 [.yl ll] (by omega) rfl rfl) ?_;apply zw (zk [1,5,7,8,9,10]);simp only[go_sem]
 repeat apply zq
 refine zb fun K hK=>?_;simp only[go_sem,z0,z1];(try simp (disch:=omega) only[zI]);repeat first|intro _|refine⟨by omega,?_⟩
 apply hK;clear hK K;apply zw (zk [1,5,7,8,9,10,14]);simp only[go_sem]
 repeat apply zq
 apply zc rfl<;>intro hc<;>(try simp only[go_sem] at hc)
 apply zx
 try simp only[go_sem]
 repeat apply zq
 refine zb fun K hK=>?_;simp only[go_sem];(try simp (disch:=omega) only[zI])
 refine zh (hth) rfl (by simp only[go_sem,i64,ints]) (by simp only[go_sem,i64,ints]) ?_
 (try simp only[go_sem]);(try simp (disch:=omega) only[zI]);repeat first|intro _|refine⟨by omega,?_⟩
 apply hK;clear hK K;apply zw (zk [5,7,8,9,10,20]);simp only[go_sem]
 obtain⟨rem,hrem⟩:∃ rem:Nat→List (List RV),rem=fun i=>((T.drop i).flatMap H).map fun w=>[ints w]:=⟨_,rfl⟩
 have hr0:(T.flatMap H).map (fun w=>[ints w])=rem 0:=by rw[hrem];rfl
 have hrE:rem T.length=[]:=by rw[hrem];simp
 have hrS:∀ (i:Nat) (x:Int × Int),T[i]? = some x→rem i=((H x).map fun w=>[ints w])++rem (i+1):=fun i x hx=>by
  rw[hrem]
  have hd:T.drop i=x::T.drop (i+1):=by
   obtain⟨h1,h2⟩:=List.getElem?_eq_some_iff.1 hx
   rw[List.drop_eq_getElem_cons h1,h2]
  simp only[hd,List.flatMap_cons,List.map_append]
 rw[hr0]
 repeat apply zq
 apply zd
 refine zMK hC (T.map thrR) hit [5,7,8,9,10,20] (by decide) (fun vs=>[(5,.r (.rp [brdP bs g cs])),(7,.r (.rp [i64 ((k+1:Nat):Int)])),(8,.r (.rp [ints fi])),(9,.r (.rp [.yl ll])),(10,.pt 10 (vs 10) 0),(20,.r (.fn 104 [.rp [brdP bs g cs],.rp [i64 (s:Int)]]))])
  (fun i vs=>[(10,.box [.r (.bo false)]),(999,.gh Tryz.prog ll false (some (rem i++rest)))]) (fun _=>True) (zj [] ?_ ?_) trivial (fun _=>rfl) (fun _=>rfl) (fun _ _=>rfl) (fun i vs=>⟨ll,_,rfl⟩) (by simp) (fun e he=>by obtain⟨x,_,rfl⟩:=List.mem_map.1 he;rfl) ?_ ?_
 ·try simp only[go_sem]
 ·try simp only[go_sem]
 ·intro i e vs us C' he _
  rw[List.getElem?_map] at he
  obtain⟨x,hx,rfl⟩:=Option.map_eq_some_iff.1 he
  obtain⟨m1,m2,m3,m4⟩:=hmem x (zmo hx)
  have hst:=hrS i x hx
  obtain⟨y,hy⟩:∃ y:Nat,x.2=y:=⟨x.2.toNat,by omega⟩
  have hHx:H x=if 0<B.getD x.2.toNat 0 then zDm g bs m k x.2 (fi++[x.1]) else []:=by rw[hH]
  have hY:=ih y x.1 (by omega)
  rw[hy,Int.toNat_natCast] at hHx
  obtain⟨bd,lf⟩:=x
  simp only at hy hHx hY m1 m2 m3 m4
  subst hy
  have hyB:y<B.length:=by omega
  obtain⟨q,hq⟩:=zol hyB
  have hqg:B.getD y 0=q:=by simp [List.getD,hq]
  rw[hqg] at hHx
  have hBk:k<cs.length:=by omega
  have w1:IntKind.i64.wrap (((k+1:Nat):Int)-1)=(k:Int):=by rw[zI]<;>omega
  have w2:IntKind.i64.wrap ((k:Int)+1-1)=(k:Int):=by rw[zI]<;>omega
  generalize rem (i+1)=rem1 at *
  rw[hst]
  clear hst
  simp only[thrR]
  repeat apply zq
  refine zb fun K hK=>?_;simp only[go_sem];(try simp (disch:=omega) only[zI]);repeat first|intro _|refine⟨by omega,?_⟩
  apply hK;clear hK K;refine zw (zfP 11 11 [i64 bd] (by omega) rfl rfl) ?_;apply zw (zk [5,7,8,9,10,11,20,22]);simp only[go_sem]
  repeat apply zq
  refine zb fun K hK=>?_;simp only[go_sem];(try simp (disch:=omega) only[zI]);repeat first|intro _|refine⟨by omega,?_⟩
  apply hK;clear hK K
  refine⟨rfl,⟨ll,_,rfl⟩,fun C'=>?_⟩
  apply zw (zk [5,7,8,9,10,11,12]);simp only[go_sem]
  repeat apply zq
  apply zd
  by_cases hp:0<q
  ·rw[if_pos hp] at hHx
   have hq1:decide (0<q)=true:=decide_eq_true hp
   rw[hHx]
   generalize hXX:(zDm g bs m k (y:Int) (fi++[bd])).map (fun w=>[ints w])=X at *
   rw[List.append_assoc]
   generalize rem1++rest=rest1 at *
   repeat apply zq
   obtain⟨SA,hSA⟩:∃ SA:(Nat→Nat)→List AV,SA=fun vs=>[.r (.rp [brdP bs g cs]),.r (.rp [i64 ((k+1:Nat):Int)]),.r (.rp [ints fi]),.r (.rp [.yl ll]),.pt 10 (vs 10) 0,.r (.fn 104 [.rp [brdP bs g cs],.rp [i64 (s:Int)]])]:=⟨_,rfl⟩
   obtain⟨GG,hG0,hG1,hG2⟩:∃ GG:Bool→Bool→RowC,(∀ z,GG false z = .gh Tryz.prog ll false (some (X++rest1)))∧GG true true = .gh Tryz.prog ll false (some rest1)∧GG true false = .gh Tryz.prog ll false none :=
    ⟨fun x z=>bif x then (bif z then .gh Tryz.prog ll false (some rest1) else .gh Tryz.prog ll false none) else .gh Tryz.prog ll false (some (X++rest1)),fun _=>rfl,rfl,rfl⟩
   have E:=And.intro hck0 (And.intro hBk (And.intro hyB (And.intro hq (And.intro hq1 (And.intro w1 (And.intro w2 (And.intro hSA (And.intro hG0 (And.intro hG1 hG2)))))))))
   refine zJL (n:=50) (ygF bs g cs ((k+1:Nat):Int) (k:Int) (y:Int) q bd B fi cl ll true) (ygR SA us GG) follows (by kernel_rfl) (by decide +kernel) (zAB true (zj [] ?_ ?_)) ?_ ?_
   ·simp only[go_sem,ygF,vI,zIf,cond_false]
   ·simp only[go_sem,ygR,cond_false,hSA,hG0,List.cons_append,List.nil_append]
    try exact congrArg _ (hG0 _).symm
   refine⟨fun b vs z hdn hbk hde=>?_,fun b vs z hdn hbk hde=>?_,fun b vs z hdn hbk hde=>?_,fun b vs z hdn hbk hde=>?_,fun b vs z hdn hbk hde=>?_,fun b vs z hdn hbk hde=>?_,fun b vs z hdn hbk hde=>?_,fun b vs z hdn hbk hde=>?_,fun b vs z hdn hbk hde=>?_,fun b vs z hdn hbk hde=>?_,fun b vs z hdn hbk hde=>?_,fun b vs z hdn hbk hde=>?_,fun b vs z hdn hbk hde=>?_,fun b vs z hdn hbk hde=>?_,fun b vs z hdn hbk hde=>?_,fun b vs z hdn hbk hde=>?_,fun b vs z hdn hbk hde=>?_,fun b vs z hdn hbk hde=>?_,fun b vs z hdn hbk hde=>?_,fun b vs z hdn hbk hde=>?_,fun b vs z hdn hbk hde=>?_,fun b vs z hdn hbk hde=>?_,fun b vs z hdn hbk hde=>?_,fun b vs z hdn hbk hde=>?_,fun b vs z hdn hbk hde=>?_,fun b vs z hdn hbk hde=>?_,fun b vs z hdn hbk hde=>?_,trivial⟩
   ·skip
    have G:=dnT hdn hbk [1,2,3,6,7,9,10,11,12,13,14,15,16,17,18,19,20,21,22,23,24,25,26] (by decide +kernel)
    simp only[allB,and_true] at G
    refine .inl ⟨trivial,.inl (.inl ?_)⟩
    simp only[go_sem,upd,zIf,hbk,G,E]
    refine zAB z (zj [] ?_ ?_)<;>simp only[go_sem,upd,zIf,hbk,G,E]
   ·skip
    have H:=upT hdn hde [0] (by decide +kernel)
    have G:=dnT hdn hbk [2,3,6,7,9,10,11,12,13,14,15,16,17,18,19,20,21,22,23,24,25,26] (by decide +kernel)
    simp only[allB,and_true] at H G
    refine .inl ⟨trivial,.inl (.inl ?_)⟩
    simp only[go_sem,upd,zIf,hbk,H,G,E]
    refine zAB z (zj [] ?_ ?_)<;>simp only[go_sem,upd,zIf,hbk,H,G,E]
   ·skip
    have H:=upT hdn hde [1,0] (by decide +kernel)
    have G:=dnT hdn hbk [3,6,7,9,10,11,12,13,14,15,16,17,18,19,20,21,22,23,24,25,26] (by decide +kernel)
    simp only[allB,and_true] at H G
    refine .inl ⟨trivial,.inl (.inl ?_)⟩
    simp only[go_sem,upd,zIf,hbk,H,G,E]
    refine zAB z (zj [] ?_ ?_)<;>simp only[go_sem,upd,zIf,hbk,H,G,E]
   ·skip
    have H:=upT hdn hde [2,1,0] (by decide +kernel)
    have G:=dnT hdn hbk [6,7,9,10,11,12,13,14,15,16,17,18,19,20,21,22,23,24,25,26] (by decide +kernel)
    simp only[allB,and_true] at H G
    refine .inl ⟨trivial,.inl (.inl ?_)⟩
    simp only[go_sem,upd,zIf,hbk,H,G,E]
    refine zAB z (zj [] ?_ ?_)<;>simp only[go_sem,upd,zIf,hbk,H,G,E]
   ·skip
    have G:=dnT hdn hbk [5,6,7,9,10,11,12,13,14,15,16,17,18,19,20,21,22,23,24,25,26] (by decide +kernel)
    simp only[allB,and_true] at G
    refine .inl ⟨trivial,.inl (.inl ?_)⟩
    simp only[go_sem,upd,zIf,hbk,G,E]
    refine zAB z (zj [] ?_ ?_)<;>simp only[go_sem,upd,zIf,hbk,G,E]
   ·skip
    have H:=upT hdn hde [4] (by decide +kernel)
    have G:=dnT hdn hbk [6,7,9,10,11,12,13,14,15,16,17,18,19,20,21,22,23,24,25,26] (by decide +kernel)
    simp only[allB,and_true] at H G
    refine .inl ⟨trivial,.inl (.inl ?_)⟩
    simp only[go_sem,upd,zIf,hbk,H,G,E]
    refine zAB z (zj [] ?_ ?_)<;>simp only[go_sem,upd,zIf,hbk,H,G,E]
   ·skip
    have H:=upT hdn hde [3,5,2,4,1,0] (by decide +kernel)
    have G:=dnT hdn hbk [7,9,10,11,12,13,14,15,16,17,18,19,20,21,22,23,24,25,26] (by decide +kernel)
    simp only[allB,and_true] at H G
    refine .inl ⟨trivial,.inl (.inl ?_)⟩
    simp only[go_sem,upd,zIf,hbk,H,G,E]
    all_goals (try (refine⟨⟨by omega,by omega⟩,?_⟩))
    refine zAB z (zj [] ?_ ?_)<;>simp only[go_sem,upd,zIf,hbk,H,G,E]
   ·skip
    have H:=upT hdn hde [6,3,5,2,4,1,0] (by decide +kernel)
    have G:=dnT hdn hbk [9,10,11,12,13,14,15,16,17,18,19,20,21,22,23,24,25,26] (by decide +kernel)
    simp only[allB,and_true] at H G
    refine .inl ⟨trivial,.inl (.inl ?_)⟩
    simp only[go_sem,upd,zIf,hbk,H,G,E]
    refine zAB z (zj [] ?_ ?_)<;>simp only[go_sem,upd,zIf,hbk,H,G,E]
   ·skip
    have G:=dnT hdn hbk [9,10,11,12,13,14,15,16,17,18,19,20,21,22,23,24,25,26] (by decide +kernel)
    simp only[allB,and_true] at G
    refine .inl ⟨trivial,.inl (.inl ?_)⟩
    simp only[go_sem,upd,zIf,hbk,G,E]
    refine zAB z (zj [] ?_ ?_)<;>simp only[go_sem,upd,zIf,hbk,G,E]
   ·skip
    have H:=upT hdn hde [7,8,6,3,5,2,4,1,0] (by decide +kernel)
    have G:=dnT hdn hbk [10,11,12,13,14,15,16,17,18,19,20,21,22,23,24,25,26] (by decide +kernel)
    simp only[allB,and_true] at H G
    refine .inl ⟨trivial,.inl (.inl ?_)⟩
    simp only[go_sem,upd,zIf,hbk,H,G,E]
    all_goals (try (refine⟨⟨by omega,by omega⟩,?_⟩))
    refine zAB z (zj [] ?_ ?_)<;>simp only[go_sem,upd,zIf,hbk,H,G,E]
   ·skip
    have H:=upT hdn hde [9,7,8,6,3,5,2,4,1,0] (by decide +kernel)
    have G:=dnT hdn hbk [11,12,13,14,15,16,17,18,19,20,21,22,23,24,25,26] (by decide +kernel)
    simp only[allB,and_true] at H G
    refine .inl ⟨trivial,.inl (.inl ?_)⟩
    simp only[go_sem,upd,zIf,hbk,H,G,E]
    refine zAB z (zj [] ?_ ?_)<;>simp only[go_sem,upd,zIf,hbk,H,G,E]
   ·skip
    have H:=upT hdn hde [10,9,7,8,6,3,5,2,4,1,0] (by decide +kernel)
    have G:=dnT hdn hbk [12,13,14,15,16,17,18,19,20,21,22,23,24,25,26] (by decide +kernel)
    simp only[allB,and_true] at H G
    refine .inl ⟨trivial,.inl (.inl ?_)⟩
    simp only[go_sem,upd,zIf,hbk,H,G,E]
    refine zAB z (zj [] ?_ ?_)<;>simp only[go_sem,upd,zIf,hbk,H,G,E]
   ·skip
    have H:=upT hdn hde [11,10,9,7,8,6,3,5,2,4,1,0] (by decide +kernel)
    have G:=dnT hdn hbk [13,14,15,16,17,18,19,20,21,22,23,24,25,26] (by decide +kernel)
    simp only[allB,and_true] at H G
    refine .inl ⟨trivial,.inl (.inl ?_)⟩
    simp only[go_sem,upd,zIf,hbk,H,G,E]
    refine zAB z (zj [] ?_ ?_)<;>simp only[go_sem,upd,zIf,hbk,H,G,E]
   ·skip
    have H:=upT hdn hde [12,11,10,9,7,8,6,3,5,2,4,1,0] (by decide +kernel)
    have G:=dnT hdn hbk [24,25,26] (by decide +kernel)
    simp only[allB,and_true] at H G
    refine .inl ⟨⟨35,by kernel_rfl,by simp only[go_sem,if_true,H]⟩,.inl (.inl ?_)⟩
    simp only[go_sem,upd,zIf,hbk,H,G,E]
    refine zAB z (zj [] ?_ ?_)<;>simp only[go_sem,upd,zIf,hbk,H,G,E]
   ·skip
    have H:=upT hdn hde [12,11,10,9,7,8,6,3,5,2,4,1,0] (by decide +kernel)
    have G:=dnT hdn hbk [24,25,26] (by decide +kernel)
    simp only[allB,and_true] at H G
    refine .inl ⟨⟨35,by kernel_rfl,by simp only[go_sem,if_true,H]⟩,.inl (.inl ?_)⟩
    simp only[go_sem,upd,zIf,hbk,H,G,E]
    refine zAB z (zj [] ?_ ?_)<;>simp only[go_sem,upd,zIf,hbk,H,G,E]
   ·skip
    have H:=upT hdn hde [12,11,10,9,7,8,6,3,5,2,4,1,0] (by decide +kernel)
    have G:=dnT hdn hbk [16,24,25,26] (by decide +kernel)
    simp only[allB,and_true] at H G
    refine .inl ⟨⟨35,by kernel_rfl,by simp only[go_sem,if_true,H]⟩,.inl (.inl ?_)⟩
    simp only[go_sem,upd,zIf,hbk,H,G,E]
    refine zAB z (zj [] ?_ ?_)<;>simp only[go_sem,upd,zIf,hbk,H,G,E]
   ·skip
    have H:=upT hdn hde [12,15,11,10,9,7,8,6,3,5,2,4,1,0] (by decide +kernel)
    have G:=dnT hdn hbk [24,25,26] (by decide +kernel)
    simp only[allB,and_true] at H G
    refine .inl ⟨⟨35,by kernel_rfl,by simp only[go_sem,if_true,H]⟩,.inl (.inl ?_)⟩
    simp only[go_sem,upd,zIf,hbk,H,G,E]
    refine zAB z (zj [] ?_ ?_)<;>simp only[go_sem,upd,zIf,hbk,H,G,E]
   ·skip
    have H:=upT hdn hde [12,11,10,9,7,8,6,3,5,2,4,1,0] (by decide +kernel)
    have G:=dnT hdn hbk [18,22,24,25,26] (by decide +kernel)
    simp only[allB,and_true] at H G
    refine .inl ⟨⟨35,by kernel_rfl,by simp only[go_sem,if_true,H]⟩,.inl (.inl ?_)⟩
    simp only[go_sem,upd,zIf,hbk,H,G,E]
    refine zAB z (zj [] ?_ ?_)<;>simp only[go_sem,upd,zIf,hbk,H,G,E]
   ·skip
    have H:=upT hdn hde [12,12,17,11,10,9,7,8,6,3,5,2,4,1,0] (by decide +kernel)
    have G:=dnT hdn hbk [22,24,25,26] (by decide +kernel)
    simp only[allB,and_true] at H G
    refine .inl ⟨⟨35,by kernel_rfl,by simp only[go_sem,if_true,H]⟩,.inl (.inl ?_)⟩
    (simp only[go_sem,upd,zIf,hbk,H,G,E])
    refine zh hcl rfl (by simp only[go_sem,i64,ints]) (by simp only[go_sem,i64,ints]) ?_
    (simp only[go_sem,upd,zIf,hbk,H,G,E])
    refine zAB z (zj [] ?_ ?_)<;>(simp only[go_sem,upd,zIf,hbk,H,G,E])
   ·skip
    have H:=upT hdn hde [12,11,10,9,7,8,6,3,5,2,4,1,0] (by decide +kernel)
    have G:=dnT hdn hbk [20,21,22,24,25,26] (by decide +kernel)
    simp only[allB,and_true] at H G
    refine .inl ⟨⟨35,by kernel_rfl,by simp only[go_sem,if_true,H]⟩,.inl (.inl ?_)⟩
    simp only[go_sem,upd,zIf,hbk,H,G,E]
    refine zAB z (zj [] ?_ ?_)<;>simp only[go_sem,upd,zIf,hbk,H,G,E]
   ·skip
    have H:=upT hdn hde [12,19,11,10,9,7,8,6,3,5,2,4,1,0] (by decide +kernel)
    have G:=dnT hdn hbk [21,22,24,25,26] (by decide +kernel)
    simp only[allB,and_true] at H G
    refine .inl ⟨⟨35,by kernel_rfl,by simp only[go_sem,if_true,H]⟩,.inl (.inl ?_)⟩
    simp only[go_sem,upd,zIf,hbk,H,G,E]
    refine zAB z (zj [] ?_ ?_)<;>simp only[go_sem,upd,zIf,hbk,H,G,E]
   ·skip
    have H:=upT hdn hde [12,20,11,19,10,9,7,8,6,3,5,2,4,1,0] (by decide +kernel)
    have G:=dnT hdn hbk [22,24,25,26] (by decide +kernel)
    simp only[allB,and_true] at H G
    refine .inl ⟨⟨35,by kernel_rfl,by simp only[go_sem,if_true,H]⟩,.inl (.inl ?_)⟩
    simp only[go_sem,upd,zIf,hbk,H,G,E]
    refine zAB z (zj [] ?_ ?_)<;>simp only[go_sem,upd,zIf,hbk,H,G,E]
   ·skip
    have H:=upT hdn hde [12,18,18,21,11,17,20,10,19,9,7,8,6,3,5,2,4,1,0] (by decide +kernel)
    have G:=dnT hdn hbk [24,25,26] (by decide +kernel)
    simp only[allB,and_true] at H G
    refine .inl ⟨⟨35,by kernel_rfl,by simp only[go_sem,if_true,H]⟩,.inl (.inl ?_)⟩
    rcases hclv with⟨e0,e1⟩|e1
    ·rw[e1]
     (simp only[go_sem,upd,zIf,hbk,H,G,E])
     (try refine⟨⟨by omega,by omega⟩,?_⟩)
     refine zNY (zEW (ty:=84) (sz:=1) (off:=0) (m:=1) (es:=[[i64 bd]]) 45 45 (by omega) rfl (by rfl) (by simp)) ?_
     (simp only[go_sem,upd,zIf,hbk,H,G,E,List.drop_zero,e0,List.nil_append])
     refine zAB z (zj [] ?_ ?_)<;>(simp only[go_sem,upd,zIf,hbk,H,G,E])
    ·rw[e1]
     (simp only[go_sem,upd,zIf,hbk,H,G,E])
     (try refine⟨⟨by omega,by omega⟩,?_⟩)
     refine zNY (zEW (ty:=84) (sz:=1) (off:=0) (m:=fi.length+1) (es:=(fi.map fun x=>[i64 x])++[[i64 bd]]) 45 45 (by omega) rfl (by rfl) (by simp)) ?_
     (simp only[go_sem,upd,zIf,hbk,H,G,E,List.drop_zero])
     refine zAB z (zj [] ?_ ?_)<;>(simp only[go_sem,upd,zIf,hbk,H,G,E])
     rw[List.take_of_length_le (by simp)]
     simp
   ·skip
    have H:=upT hdn hde [12,11,10,9,7,8,6,3,5,2,4,1,0] (by decide +kernel)
    have G:=dnT hdn hbk [24,25,26] (by decide +kernel)
    simp only[allB,and_true] at H G
    refine .inl ⟨⟨35,by kernel_rfl,by simp only[go_sem,if_true,H]⟩,.inl (.inl ?_)⟩
    simp only[go_sem,upd,zIf,hbk,H,G,E]
    refine zAB z (zj [] ?_ ?_)<;>simp only[go_sem,upd,zIf,hbk,H,G,E]
   ·skip
    have H:=upT hdn hde [12,13,14,16,22,22,23,11,15,18,21,10,17,20,9,19,7,8,6,3,5,2,4,1,0] (by decide +kernel)
    have G:=dnT hdn hbk [25,26] (by decide +kernel)
    simp only[allB,and_true] at H G
    refine .inl ⟨⟨35,by kernel_rfl,by simp only[go_sem,if_true,H]⟩,?_⟩
    refine .inr ⟨106,[],_,_,rest1,ll,rfl,?_,?_,?_,hY,?_,?_⟩
    ·(simp only[go_sem,upd,zIf,hbk,H,G,E])
    ·(simp only[go_sem,upd,zIf,hbk,H,G,E,evs,List.map_cons,List.map_nil])
     try rfl
    ·(simp only[go_sem,upd,zIf,hbk,H,G,E,evs,List.map_cons,List.map_nil])
     first|exact zAS _|exact⟨zEX _,zEX _⟩|exact⟨zEX _,zEX _,zEX _⟩|skip
    ·rw[zE3]
     (simp only[go_sem,upd,zIf,hbk,H,G,E])
     refine zAB true (zj [] ?_ ?_)<;>(simp only[go_sem,upd,zIf,hbk,H,G,E])
    ·rw[zE3]
     (simp only[go_sem,upd,zIf,hbk,H,G,E])
     refine zAB false (zj [] ?_ ?_)<;>(simp only[go_sem,upd,zIf,hbk,H,G,E])
   ·skip
    have H:=upT hdn hde [12,24,11,13,14,16,22,23,10,15,18,21,9,17,20,7,8,19,6,3,5,2,4,1,0] (by decide +kernel)
    have G:=dnT hdn hbk [26] (by decide +kernel)
    simp only[allB,and_true] at H G
    refine .inl ⟨⟨35,by kernel_rfl,by simp only[go_sem,if_true,H]⟩,.inl (.inl ?_)⟩
    simp only[go_sem,upd,zIf,hbk,H,G,E]
    refine zAB z (zj [] ?_ ?_)<;>simp only[go_sem,upd,zIf,hbk,H,G,E]
   ·skip
    have H:=upT hdn hde [12,25,11,24,10,13,14,16,22,23,9,15,18,21,7,8,17,20,6,19,3,5,2,4,1,0] (by decide +kernel)
    simp only[allB,and_true] at H
    refine .inl ⟨trivial,.inl (.inl ?_)⟩
    simp only[go_sem,upd,zIf,hbk,H,E]
    refine zAB z (zj [] ?_ ?_)<;>simp only[go_sem,upd,zIf,hbk,H,E]
   intro b vs z hb
   simp only[go_sem,ygF,ygR,vI,hb,if_true,cond_true,List.cons_append,List.nil_append];rw[hSA]
   cases z
   ·rw[hG2]
    apply zw (zk [10,49]);simp only[go_sem]
    repeat apply zq
    apply zc rfl<;>intro hc<;>(try simp only[go_sem] at hc)
    repeat apply zq
    refine zb fun K hK=>?_;simp only[go_sem];(try simp (disch:=omega) only[zI]);repeat first|intro _|refine⟨by omega,?_⟩
    apply hK;clear hK K;apply zw (zk [10]);simp only[go_sem];apply ze
    try simp only[go_sem]
    refine zTo (ll:=ll) (o:=none) rfl (by simp only[go_sem];rfl) ?_
    try simp only[go_sem]
    exact⟨false,ll,by simp only[go_sem],rfl⟩
   ·rw[hG1]
    apply zw (zk [10,49]);simp only[go_sem]
    repeat apply zq
    apply zc rfl<;>intro hc<;>(try simp only[go_sem] at hc)
    apply zx
    try simp only[go_sem]
    refine zj (F:=fun _=>[]) [] ?_ ?_
    ·try simp only[go_sem]
    ·try simp only[go_sem]
  ·rw[if_neg hp] at hHx
   rw[hHx]
   simp only[List.map_nil,List.nil_append]
   have hq1:decide (0<q)=false:=decide_eq_false hp
   repeat apply zq
   obtain⟨SA,hSA⟩:∃ SA:(Nat→Nat)→List AV,SA=fun vs=>[.r (.rp [brdP bs g cs]),.r (.rp [i64 ((k+1:Nat):Int)]),.r (.rp [ints fi]),.r (.rp [.yl ll]),.pt 10 (vs 10) 0,.r (.fn 104 [.rp [brdP bs g cs],.rp [i64 (s:Int)]])]:=⟨_,rfl⟩
   obtain⟨G2,hG2⟩:∃ G2:RowC,G2 = .gh Tryz.prog ll false (some (rem1++rest)):=⟨_,rfl⟩
   rw[← hG2]
   have E:=And.intro hck0 (And.intro hBk (And.intro hyB (And.intro hq (And.intro hq1 (And.intro w1 (And.intro w2 hSA))))))
   refine zJL (n:=50) (ygF2 bs g cs ((k+1:Nat):Int) (k:Int) (y:Int) q bd B fi cl ll false) (ygR2 SA us G2) follows (by kernel_rfl) (by decide +kernel) (zAB true (zj [] ?_ ?_)) ?_ ?_
   ·simp only[go_sem,ygF2,vI,zIf,cond_false]
   ·simp only[go_sem,ygR2,hSA,List.cons_append,List.nil_append]
   refine⟨fun b vs z hdn hbk hde=>?_,fun b vs z hdn hbk hde=>?_,fun b vs z hdn hbk hde=>?_,fun b vs z hdn hbk hde=>?_,fun b vs z hdn hbk hde=>?_,fun b vs z hdn hbk hde=>?_,fun b vs z hdn hbk hde=>?_,fun b vs z hdn hbk hde=>?_,fun b vs z hdn hbk hde=>?_,fun b vs z hdn hbk hde=>?_,fun b vs z hdn hbk hde=>?_,fun b vs z hdn hbk hde=>?_,fun b vs z hdn hbk hde=>?_,fun b vs z hdn hbk hde=>?_,fun b vs z hdn hbk hde=>?_,fun b vs z hdn hbk hde=>?_,fun b vs z hdn hbk hde=>?_,fun b vs z hdn hbk hde=>?_,fun b vs z hdn hbk hde=>?_,fun b vs z hdn hbk hde=>?_,fun b vs z hdn hbk hde=>?_,fun b vs z hdn hbk hde=>?_,fun b vs z hdn hbk hde=>?_,fun b vs z hdn hbk hde=>?_,fun b vs z hdn hbk hde=>?_,fun b vs z hdn hbk hde=>?_,fun b vs z hdn hbk hde=>?_,trivial⟩
   ·skip
    have G:=dnT hdn hbk [1,2,3,6,7,9,10,11,12,13,14,15,16,17,18,19,20,21,22,23,24,25,26] (by decide +kernel)
    simp only[allB,and_true] at G
    refine .inl ⟨trivial,.inl (.inl ?_)⟩
    simp only[go_sem,upd,zIf,hbk,G,E]
    refine zAB z (zj [] ?_ ?_)<;>simp only[go_sem,upd,zIf,hbk,G,E]
   ·skip
    have H:=upT hdn hde [0] (by decide +kernel)
    have G:=dnT hdn hbk [2,3,6,7,9,10,11,12,13,14,15,16,17,18,19,20,21,22,23,24,25,26] (by decide +kernel)
    simp only[allB,and_true] at H G
    refine .inl ⟨trivial,.inl (.inl ?_)⟩
    simp only[go_sem,upd,zIf,hbk,H,G,E]
    refine zAB z (zj [] ?_ ?_)<;>simp only[go_sem,upd,zIf,hbk,H,G,E]
   ·skip
    have H:=upT hdn hde [1,0] (by decide +kernel)
    have G:=dnT hdn hbk [3,6,7,9,10,11,12,13,14,15,16,17,18,19,20,21,22,23,24,25,26] (by decide +kernel)
    simp only[allB,and_true] at H G
    refine .inl ⟨trivial,.inl (.inl ?_)⟩
    simp only[go_sem,upd,zIf,hbk,H,G,E]
    refine zAB z (zj [] ?_ ?_)<;>simp only[go_sem,upd,zIf,hbk,H,G,E]
   ·skip
    have H:=upT hdn hde [2,1,0] (by decide +kernel)
    have G:=dnT hdn hbk [6,7,9,10,11,12,13,14,15,16,17,18,19,20,21,22,23,24,25,26] (by decide +kernel)
    simp only[allB,and_true] at H G
    refine .inl ⟨trivial,.inl (.inl ?_)⟩
    simp only[go_sem,upd,zIf,hbk,H,G,E]
    refine zAB z (zj [] ?_ ?_)<;>simp only[go_sem,upd,zIf,hbk,H,G,E]
   ·skip
    have G:=dnT hdn hbk [5,6,7,9,10,11,12,13,14,15,16,17,18,19,20,21,22,23,24,25,26] (by decide +kernel)
    simp only[allB,and_true] at G
    refine .inl ⟨trivial,.inl (.inl ?_)⟩
    simp only[go_sem,upd,zIf,hbk,G,E]
    refine zAB z (zj [] ?_ ?_)<;>simp only[go_sem,upd,zIf,hbk,G,E]
   ·skip
    have H:=upT hdn hde [4] (by decide +kernel)
    have G:=dnT hdn hbk [6,7,9,10,11,12,13,14,15,16,17,18,19,20,21,22,23,24,25,26] (by decide +kernel)
    simp only[allB,and_true] at H G
    refine .inl ⟨trivial,.inl (.inl ?_)⟩
    simp only[go_sem,upd,zIf,hbk,H,G,E]
    refine zAB z (zj [] ?_ ?_)<;>simp only[go_sem,upd,zIf,hbk,H,G,E]
   ·skip
    have H:=upT hdn hde [3,5,2,4,1,0] (by decide +kernel)
    have G:=dnT hdn hbk [7,9,10,11,12,13,14,15,16,17,18,19,20,21,22,23,24,25,26] (by decide +kernel)
    simp only[allB,and_true] at H G
    refine .inl ⟨trivial,.inl (.inl ?_)⟩
    simp only[go_sem,upd,zIf,hbk,H,G,E]
    all_goals (try (refine⟨⟨by omega,by omega⟩,?_⟩))
    refine zAB z (zj [] ?_ ?_)<;>simp only[go_sem,upd,zIf,hbk,H,G,E]
   ·skip
    have H:=upT hdn hde [6,3,5,2,4,1,0] (by decide +kernel)
    have G:=dnT hdn hbk [9,10,11,12,13,14,15,16,17,18,19,20,21,22,23,24,25,26] (by decide +kernel)
    simp only[allB,and_true] at H G
    refine .inl ⟨trivial,.inl (.inl ?_)⟩
    simp only[go_sem,upd,zIf,hbk,H,G,E]
    refine zAB z (zj [] ?_ ?_)<;>simp only[go_sem,upd,zIf,hbk,H,G,E]
   ·skip
    have G:=dnT hdn hbk [9,10,11,12,13,14,15,16,17,18,19,20,21,22,23,24,25,26] (by decide +kernel)
    simp only[allB,and_true] at G
    refine .inl ⟨trivial,.inl (.inl ?_)⟩
    simp only[go_sem,upd,zIf,hbk,G,E]
    refine zAB z (zj [] ?_ ?_)<;>simp only[go_sem,upd,zIf,hbk,G,E]
   ·skip
    have H:=upT hdn hde [7,8,6,3,5,2,4,1,0] (by decide +kernel)
    have G:=dnT hdn hbk [10,11,12,13,14,15,16,17,18,19,20,21,22,23,24,25,26] (by decide +kernel)
    simp only[allB,and_true] at H G
    refine .inl ⟨trivial,.inl (.inl ?_)⟩
    simp only[go_sem,upd,zIf,hbk,H,G,E]
    all_goals (try (refine⟨⟨by omega,by omega⟩,?_⟩))
    refine zAB z (zj [] ?_ ?_)<;>simp only[go_sem,upd,zIf,hbk,H,G,E]
   ·skip
    have H:=upT hdn hde [9,7,8,6,3,5,2,4,1,0] (by decide +kernel)
    have G:=dnT hdn hbk [11,12,13,14,15,16,17,18,19,20,21,22,23,24,25,26] (by decide +kernel)
    simp only[allB,and_true] at H G
    refine .inl ⟨trivial,.inl (.inl ?_)⟩
    simp only[go_sem,upd,zIf,hbk,H,G,E]
    refine zAB z (zj [] ?_ ?_)<;>simp only[go_sem,upd,zIf,hbk,H,G,E]
   ·skip
    have H:=upT hdn hde [10,9,7,8,6,3,5,2,4,1,0] (by decide +kernel)
    have G:=dnT hdn hbk [12,13,14,15,16,17,18,19,20,21,22,23,24,25,26] (by decide +kernel)
    simp only[allB,and_true] at H G
    refine .inl ⟨trivial,.inl (.inl ?_)⟩
    simp only[go_sem,upd,zIf,hbk,H,G,E]
    refine zAB z (zj [] ?_ ?_)<;>simp only[go_sem,upd,zIf,hbk,H,G,E]
   ·skip
    have H:=upT hdn hde [11,10,9,7,8,6,3,5,2,4,1,0] (by decide +kernel)
    have G:=dnT hdn hbk [13,14,15,16,17,18,19,20,21,22,23,24,25,26] (by decide +kernel)
    simp only[allB,and_true] at H G
    refine .inl ⟨trivial,.inl (.inl ?_)⟩
    simp only[go_sem,upd,zIf,hbk,H,G,E]
    refine zAB z (zj [] ?_ ?_)<;>simp only[go_sem,upd,zIf,hbk,H,G,E]
   ·skip
    have H:=upT hdn hde [12,11,10,9,7,8,6,3,5,2,4,1,0] (by decide +kernel)
    have G:=dnT hdn hbk [24,25,26] (by decide +kernel)
    simp only[allB,and_true] at H G
    refine .inr ⟨⟨35,by kernel_rfl,.inl (by simp only[go_sem,if_true,H])⟩,?_⟩
    simp only[go_sem,upd,zIf,hbk,H,G,E]
    refine zAB z (zj [] ?_ ?_)<;>simp only[go_sem,upd,zIf,hbk,H,G,E]
   ·skip
    have H:=upT hdn hde [12,11,10,9,7,8,6,3,5,2,4,1,0] (by decide +kernel)
    have G:=dnT hdn hbk [24,25,26] (by decide +kernel)
    simp only[allB,and_true] at H G
    refine .inr ⟨⟨35,by kernel_rfl,.inl (by simp only[go_sem,if_true,H])⟩,?_⟩
    simp only[go_sem,upd,zIf,hbk,H,G,E]
    refine zAB z (zj [] ?_ ?_)<;>simp only[go_sem,upd,zIf,hbk,H,G,E]
   ·skip
    have H:=upT hdn hde [12,11,10,9,7,8,6,3,5,2,4,1,0] (by decide +kernel)
    have G:=dnT hdn hbk [16,24,25,26] (by decide +kernel)
    simp only[allB,and_true] at H G
    refine .inr ⟨⟨35,by kernel_rfl,.inl (by simp only[go_sem,if_true,H])⟩,?_⟩
    simp only[go_sem,upd,zIf,hbk,H,G,E]
    refine zAB z (zj [] ?_ ?_)<;>simp only[go_sem,upd,zIf,hbk,H,G,E]
   ·skip
    have H:=upT hdn hde [12,15,11,10,9,7,8,6,3,5,2,4,1,0] (by decide +kernel)
    have G:=dnT hdn hbk [24,25,26] (by decide +kernel)
    simp only[allB,and_true] at H G
    refine .inr ⟨⟨35,by kernel_rfl,.inl (by simp only[go_sem,if_true,H])⟩,?_⟩
    simp only[go_sem,upd,zIf,hbk,H,G,E]
    refine zAB z (zj [] ?_ ?_)<;>simp only[go_sem,upd,zIf,hbk,H,G,E]
   ·skip
    have H:=upT hdn hde [12,11,10,9,7,8,6,3,5,2,4,1,0] (by decide +kernel)
    have G:=dnT hdn hbk [18,22,24,25,26] (by decide +kernel)
    simp only[allB,and_true] at H G
    refine .inr ⟨⟨35,by kernel_rfl,.inl (by simp only[go_sem,if_true,H])⟩,?_⟩
    simp only[go_sem,upd,zIf,hbk,H,G,E]
    refine zAB z (zj [] ?_ ?_)<;>simp only[go_sem,upd,zIf,hbk,H,G,E]
   ·skip
    have H:=upT hdn hde [12,12,17,11,10,9,7,8,6,3,5,2,4,1,0] (by decide +kernel)
    have G:=dnT hdn hbk [22,24,25,26] (by decide +kernel)
    simp only[allB,and_true] at H G
    refine .inr ⟨⟨35,by kernel_rfl,.inl (by simp only[go_sem,if_true,H])⟩,?_⟩
    simp only[go_sem,upd,zIf,hbk,H,G,E]
    refine zAB z (zj [] ?_ ?_)<;>simp only[go_sem,upd,zIf,hbk,H,G,E]
   ·skip
    have H:=upT hdn hde [12,11,10,9,7,8,6,3,5,2,4,1,0] (by decide +kernel)
    have G:=dnT hdn hbk [20,21,22,24,25,26] (by decide +kernel)
    simp only[allB,and_true] at H G
    refine .inr ⟨⟨35,by kernel_rfl,.inl (by simp only[go_sem,if_true,H])⟩,?_⟩
    simp only[go_sem,upd,zIf,hbk,H,G,E]
    refine zAB z (zj [] ?_ ?_)<;>simp only[go_sem,upd,zIf,hbk,H,G,E]
   ·skip
    have H:=upT hdn hde [12,19,11,10,9,7,8,6,3,5,2,4,1,0] (by decide +kernel)
    have G:=dnT hdn hbk [21,22,24,25,26] (by decide +kernel)
    simp only[allB,and_true] at H G
    refine .inr ⟨⟨35,by kernel_rfl,.inl (by simp only[go_sem,if_true,H])⟩,?_⟩
    simp only[go_sem,upd,zIf,hbk,H,G,E]
    refine zAB z (zj [] ?_ ?_)<;>simp only[go_sem,upd,zIf,hbk,H,G,E]
   ·skip
    have H:=upT hdn hde [12,20,11,19,10,9,7,8,6,3,5,2,4,1,0] (by decide +kernel)
    have G:=dnT hdn hbk [22,24,25,26] (by decide +kernel)
    simp only[allB,and_true] at H G
    refine .inr ⟨⟨35,by kernel_rfl,.inl (by simp only[go_sem,if_true,H])⟩,?_⟩
    simp only[go_sem,upd,zIf,hbk,H,G,E]
    refine zAB z (zj [] ?_ ?_)<;>simp only[go_sem,upd,zIf,hbk,H,G,E]
   ·skip
    have H:=upT hdn hde [12,18,18,21,11,17,20,10,19,9,7,8,6,3,5,2,4,1,0] (by decide +kernel)
    have G:=dnT hdn hbk [24,25,26] (by decide +kernel)
    simp only[allB,and_true] at H G
    refine .inr ⟨⟨35,by kernel_rfl,.inl (by simp only[go_sem,if_true,H])⟩,?_⟩
    simp only[go_sem,upd,zIf,hbk,H,G,E]
    refine zAB z (zj [] ?_ ?_)<;>simp only[go_sem,upd,zIf,hbk,H,G,E]
   ·skip
    have H:=upT hdn hde [12,11,10,9,7,8,6,3,5,2,4,1,0] (by decide +kernel)
    have G:=dnT hdn hbk [24,25,26] (by decide +kernel)
    simp only[allB,and_true] at H G
    refine .inr ⟨⟨35,by kernel_rfl,.inl (by simp only[go_sem,if_true,H])⟩,?_⟩
    simp only[go_sem,upd,zIf,hbk,H,G,E]
    refine zAB z (zj [] ?_ ?_)<;>simp only[go_sem,upd,zIf,hbk,H,G,E]
   ·skip
    have H:=upT hdn hde [12,13,14,16,22,22,23,11,15,18,21,10,17,20,9,19,7,8,6,3,5,2,4,1,0] (by decide +kernel)
    have G:=dnT hdn hbk [25,26] (by decide +kernel)
    simp only[allB,and_true] at H G
    refine .inr ⟨⟨35,by kernel_rfl,.inl (by simp only[go_sem,if_true,H])⟩,?_⟩
    simp only[go_sem,upd,zIf,hbk,H,G,E]
    refine zAB z (zj [] ?_ ?_)<;>simp only[go_sem,upd,zIf,hbk,H,G,E]
   ·skip
    have H:=upT hdn hde [12,24,11,13,14,16,22,23,10,15,18,21,9,17,20,7,8,19,6,3,5,2,4,1,0] (by decide +kernel)
    have G:=dnT hdn hbk [26] (by decide +kernel)
    simp only[allB,and_true] at H G
    refine .inr ⟨⟨35,by kernel_rfl,.inl (by simp only[go_sem,if_true,H])⟩,?_⟩
    simp only[go_sem,upd,zIf,hbk,H,G,E]
    refine zAB z (zj [] ?_ ?_)<;>simp only[go_sem,upd,zIf,hbk,H,G,E]
   ·skip
    have H:=upT hdn hde [12,25,11,24,10,13,14,16,22,23,9,15,18,21,7,8,17,20,6,19,3,5,2,4,1,0] (by decide +kernel)
    simp only[allB,and_true] at H
    refine .inl ⟨trivial,.inl (.inl ?_)⟩
    simp only[go_sem,upd,zIf,hbk,H,E]
    refine zAB z (zj [] ?_ ?_)<;>simp only[go_sem,upd,zIf,hbk,H,E]
   intro b vs z hb
   simp only[go_sem,ygF2,ygR2,vI,hb,if_true,cond_true,List.cons_append,List.nil_append];rw[hSA]
   apply zw (zk [10,49]);simp only[go_sem]
   repeat apply zq
   apply zc rfl<;>intro hc<;>(try simp only[go_sem] at hc)
   apply zx
   try simp only[go_sem]
   refine zj (F:=fun _=>[]) [] ?_ ?_
   ·try simp only[go_sem]
   ·try simp only[go_sem]
 ·intro vs us _
  have hTl:(T.map thrR).length=T.length:=List.length_map _
  rw[hTl,hrE]
  try simp only[go_sem]
  refine zw (zBk rfl) ?_
  repeat apply zq
  refine zb fun K hK=>?_;simp only[go_sem];(try simp (disch:=omega) only[zI]);repeat first|intro _|refine⟨by omega,?_⟩
  apply hK;clear hK K;apply zw (zk [10]);simp only[go_sem];apply ze;exact⟨true,ll,by simp only[go_sem],rfl⟩
theorem zPM (bs:List Int) (g:Int) (hB:∀ b∈bs,zAb b=true∧0≤b∧b≤499) (m dn:Nat) (hm:m≤1000) (hdn:dn≤6):∀ (k s:Nat) (fi:List Int),s≤m→k≤dn→fi.length+k≤9 →
 zIQ Tryz.prog 106 (fun ll=>[brdP bs g (cntO g bs m dn),i64 (s:Int),i64 (k:Int),ints fi,.yl ll]) ((zDm g bs m k s fi).map fun w=>[ints w])
 | 0,s,fi,_,_,_=>zPK bs g m dn s fi
 | k+1,s,fi,hs,hk,hf=>zPL bs g hB m dn hm k s fi hs hk hf fun y x hy=>zPM bs g hB m dn hm hdn k y (fi++[x]) hy (by omega) (by simp;omega)
def vH (b:Nat→Bool) (j:Nat) (v:AV):AV:=if b j then v else .r .un
def yhF (bs:List Int) (g dn s:Int) (cs:List (List Int)) (k1 k q:Int) (B:List Int) (ll:Nat) (gd:Bool) (b:Nat→Bool) (vs:Nat→Nat) (z:Bool):List (Nat × AV) :=
 [(1,.r (.yl ll)),(2,.r (.rp [brdP bs g cs,ints bs,i64 g,i64 dn,i64 s])),(4,.r (i64 k)),(7,.r (i64 dn)),(8,.r (i64 k)),
  (11,vH b 0 (.r (.rp [brdP bs g cs,ints bs,i64 g,i64 dn,i64 s]))),
  (12,vH b 1 (.r (brdP bs g cs))),
  (13,vH b 2 (.r (brdP bs g cs))),
  (14,vH b 3 (.r (.rp [tabR cs]))),
  (15,vH b 4 (.r (tabR cs))),
  (16,vH b 5 (.r (i64 k))),
  (17,vH b 6 (.r (i64 k1))),
  (18,vH b 7 (.r (.rp [ints B]))),
  (19,vH b 8 (.r (ints B))),
  (20,vH b 9 (.r (.rp [i64 s]))),
  (21,vH b 10 (.r (i64 s))),
  (22,vH b 11 (.r (.rp [i64 q]))),
  (23,vH b 12 (.r (i64 q))),
  (24,vH b 13 (.r (.bo gd))),
  (25,vH b 14 (.r (.bo gd))),
  (26,vH b 15 (.r (.rp [brdP bs g cs,ints bs,i64 g,i64 dn,i64 s]))),
  (27,vH b 16 (.r (brdP bs g cs))),
  (28,vH b 17 (.r (.rp [i64 s]))),
  (29,vH b 18 (.r (i64 s))),
  (30,vH b 19 (.r (i64 k))),
  (31,vH b 20 (.r (i64 k1))),
  (32,vH b 21 (.r (.yl ll))),
  (33,vH b 22 (.r (.bo z))),
  (34,vH b 23 (.r (.bo (!z)))),
  (35,vH b 24 (.r (.bo (!z))))]
def yhR (G:Bool→Bool→RowC) (b:Nat→Bool) (vs:Nat→Nat) (z:Bool):List (Nat × RowC):=[(999,G (b 22) z)]
attribute [go_sem] yhF yhR vH
theorem zVR (bs:List Int) (g:Int) (hB:∀ b∈bs,zAb b=true∧0≤b∧b≤499) (dn s:Nat) (hdn:1≤dn∧dn≤6) (hs:1≤s∧s≤1000) :
 zHP Tryz.prog false 72 [.ag (finC bs g (dn:Int) dn s)] ((allO g bs s s dn).map fun w=>[ints w]):=by
 have hway:=fun (k:Nat) (hk:k≤dn)=>zPM bs g hB s dn (by omega) hdn.2 k s [] (Nat.le_refl _) hk (by simp;omega)
 have hBl0:=zEE g bs s
 have hck00:=fun (k:Nat) (hk:k≤dn)=>show (cntO g bs s dn)[k]? = some (rowN g bs s k) by
  unfold cntO
  rw[List.getElem?_map,List.getElem?_range (by omega)]
  rfl
 have hcl0:=zFt g bs s dn
 obtain⟨rem,hrem⟩:∃ rem:Nat→List (List RV),rem=fun i=>(((List.range dn).drop i).flatMap (zPy g bs s s)).map fun w=>[ints w]:=⟨_,rfl⟩
 have hr0:(allO g bs s s dn).map (fun w=>[ints w])=rem 0:=by rw[hrem];rfl
 have hrE:rem dn=[]:=by
  rw[hrem]
  show (((List.range dn).drop dn).flatMap (zPy g bs s s)).map (fun w=>[ints w])=[]
  rw[List.drop_eq_nil_of_le (by simp)]
  rfl
 have hrS:∀ i,i<dn→rem i=((if 0<(rowN g bs s (i+1)).getD s 0 then zDm g bs s (i+1) (s:Int) [] else []).map fun w=>[ints w])++rem (i+1):=fun i hi=>by
  have hd:(List.range dn).drop i=i::(List.range dn).drop (i+1):=by
   rw[List.drop_eq_getElem_cons (by simpa using hi),List.getElem_range]
  rw[hrem]
  simp only[hd,List.flatMap_cons,List.map_append]
  rfl
 rw[hr0]
 have hfin:finC bs g (dn:Int) dn s=[brdP bs g (cntO g bs s dn),ints bs,i64 g,i64 (dn:Int),i64 (s:Int)]:=rfl
 rw[hfin]
 generalize cntO g bs s dn=cs at *
 refine zH8 Tryz.func72 rfl (by kernel_rfl) Tryz.ntmps72 rfl (by simp) fun C ll=>?_
 repeat apply zq
 refine zb fun K hK=>?_;simp only[go_sem,argL,List.cons_append,List.nil_append];(try simp (disch:=omega) only[zI]);repeat first|intro _|refine⟨by omega,?_⟩
 apply hK;clear hK K;refine zw (zfP 2 2 [brdP bs g cs,ints bs,i64 g,i64 (dn:Int),i64 (s:Int)] (by omega) rfl rfl) ?_;apply zw (zk [1,2]);simp only[go_sem]
 repeat apply zq
 refine zb fun K hK=>?_;simp only[go_sem];(try simp (disch:=omega) only[zI]);repeat first|intro _|refine⟨by omega,?_⟩
 apply hK;clear hK K;apply zw (zk [1,2,7,8]);simp only[go_sem]
 repeat apply zq
 apply zd
 refine zuv (n:=37) dn (fun i vs=>[(1,.r (.yl ll)),(2,.r (.rp [brdP bs g cs,ints bs,i64 g,i64 (dn:Int),i64 (s:Int)])),(7,.r (i64 (dn:Int))),(8,.r (i64 (i:Int)))])
  (fun i vs=>[(999,.gh Tryz.prog ll false (some (rem i)))]) (fun _=>True) 0 (zj [] ?_ ?_) (Nat.zero_le _) trivial ?_
 ·try simp only[go_sem]
 ·try simp only[go_sem]
 intro i vs hi _
 by_cases hin:i<dn
 ·have hst:=hrS i hin
  have hck0:=hck00 (i+1) (by omega)
  have hBl:=hBl0 (i+1)
  have hY:=hway (i+1) (by omega)
  have w1:IntKind.i64.wrap ((i:Int)+1)=((i+1:Nat):Int):=by rw[zI]<;>omega
  generalize hwy:zDm g bs s (i+1) (s:Int) []=W at *
  generalize rowN g bs s (i+1)=B at *
  obtain⟨q,hq⟩:=zol (show s<B.length by omega)
  have hqg:B.getD s 0=q:=by simp [List.getD,hq]
  rw[hqg] at hst
  have hBk:i+1<cs.length:=by omega
  have hsB:s<B.length:=by omega
  generalize rem (i+1)=rest at *
  rw[hst]
  clear hst
  have c1:decide ((i:Int)<(dn:Int))=true:=decide_eq_true (by omega)
  repeat apply zq
  refine zb fun K hK=>?_;simp only[go_sem,c1,hin];(try simp (disch:=omega) only[zI]);repeat first|intro _|refine⟨by omega,?_⟩
  apply hK;clear hK K;apply zw (zk [1,2,7,8,9]);simp only[go_sem]
  repeat apply zq
  apply zc rfl<;>intro hc<;>(try simp only[go_sem] at hc)
  apply zx
  try simp only[go_sem]
  repeat apply zq
  apply zd
  repeat apply zq
  refine zb fun K hK=>?_;simp only[go_sem];(try simp (disch:=omega) only[zI]);repeat first|intro _|refine⟨by omega,?_⟩
  apply hK;clear hK K;apply zw (zk [1,2,4,7,8]);simp only[go_sem]
  by_cases hp:0<q
  ·rw[if_pos hp]
   have hq1:decide (0<q)=true:=decide_eq_true hp
   generalize hXX:W.map (fun w=>[ints w])=X at *
   obtain⟨GG,hG0,hG1,hG2⟩:∃ GG:Bool→Bool→RowC,(∀ z,GG false z = .gh Tryz.prog ll false (some (X++rest)))∧GG true true = .gh Tryz.prog ll false (some rest)∧GG true false = .gh Tryz.prog ll false none :=
    ⟨fun x z=>bif x then (bif z then .gh Tryz.prog ll false (some rest) else .gh Tryz.prog ll false none) else .gh Tryz.prog ll false (some (X++rest)),fun _=>rfl,rfl,rfl⟩
   have E:=And.intro hck0 (And.intro hBk (And.intro hsB (And.intro hq (And.intro hq1 (And.intro w1 (And.intro hG0 (And.intro hG1 hG2)))))))
   repeat apply zq
   refine zJL (n:=37) (yhF bs g (dn:Int) (s:Int) cs ((i+1:Nat):Int) (i:Int) q B ll true) (yhR GG) follows (by kernel_rfl) (by decide +kernel) (zAB true (zj [] ?_ ?_)) ?_ ?_
   ·simp only[go_sem,yhF,vH,zIf,cond_false]
   ·simp only[go_sem,yhR,cond_false,hG0,List.cons_append,List.nil_append]
    try exact congrArg _ (hG0 _).symm
   refine⟨fun b vs z hdn hbk hde=>?_,fun b vs z hdn hbk hde=>?_,fun b vs z hdn hbk hde=>?_,fun b vs z hdn hbk hde=>?_,fun b vs z hdn hbk hde=>?_,fun b vs z hdn hbk hde=>?_,fun b vs z hdn hbk hde=>?_,fun b vs z hdn hbk hde=>?_,fun b vs z hdn hbk hde=>?_,fun b vs z hdn hbk hde=>?_,fun b vs z hdn hbk hde=>?_,fun b vs z hdn hbk hde=>?_,fun b vs z hdn hbk hde=>?_,fun b vs z hdn hbk hde=>?_,fun b vs z hdn hbk hde=>?_,fun b vs z hdn hbk hde=>?_,fun b vs z hdn hbk hde=>?_,fun b vs z hdn hbk hde=>?_,fun b vs z hdn hbk hde=>?_,fun b vs z hdn hbk hde=>?_,fun b vs z hdn hbk hde=>?_,fun b vs z hdn hbk hde=>?_,fun b vs z hdn hbk hde=>?_,fun b vs z hdn hbk hde=>?_,fun b vs z hdn hbk hde=>?_,trivial⟩
   ·skip
    have G:=dnT hdn hbk [1,2,3,4,7,8,11,12,13,14,15,16,17,18,19,20,21,22,23,24] (by decide +kernel)
    simp only[allB,and_true] at G
    refine .inl ⟨trivial,.inl (.inl ?_)⟩
    simp only[go_sem,upd,zIf,hbk,G,E]
    refine zAB z (zj [] ?_ ?_)<;>simp only[go_sem,upd,zIf,hbk,G,E]
   ·skip
    have H:=upT hdn hde [0] (by decide +kernel)
    have G:=dnT hdn hbk [2,3,4,7,8,11,12,13,14,15,16,17,18,19,20,21,22,23,24] (by decide +kernel)
    simp only[allB,and_true] at H G
    refine .inl ⟨trivial,.inl (.inl ?_)⟩
    simp only[go_sem,upd,zIf,hbk,H,G,E]
    refine zAB z (zj [] ?_ ?_)<;>simp only[go_sem,upd,zIf,hbk,H,G,E]
   ·skip
    have H:=upT hdn hde [1,0] (by decide +kernel)
    have G:=dnT hdn hbk [3,4,7,8,11,12,13,14,15,16,17,18,19,20,21,22,23,24] (by decide +kernel)
    simp only[allB,and_true] at H G
    refine .inl ⟨trivial,.inl (.inl ?_)⟩
    simp only[go_sem,upd,zIf,hbk,H,G,E]
    refine zAB z (zj [] ?_ ?_)<;>simp only[go_sem,upd,zIf,hbk,H,G,E]
   ·skip
    have H:=upT hdn hde [2,1,0] (by decide +kernel)
    have G:=dnT hdn hbk [4,7,8,11,12,13,14,15,16,17,18,19,20,21,22,23,24] (by decide +kernel)
    simp only[allB,and_true] at H G
    refine .inl ⟨trivial,.inl (.inl ?_)⟩
    simp only[go_sem,upd,zIf,hbk,H,G,E]
    refine zAB z (zj [] ?_ ?_)<;>simp only[go_sem,upd,zIf,hbk,H,G,E]
   ·skip
    have H:=upT hdn hde [3,2,1,0] (by decide +kernel)
    have G:=dnT hdn hbk [7,8,11,12,13,14,15,16,17,18,19,20,21,22,23,24] (by decide +kernel)
    simp only[allB,and_true] at H G
    refine .inl ⟨trivial,.inl (.inl ?_)⟩
    simp only[go_sem,upd,zIf,hbk,H,G,E]
    refine zAB z (zj [] ?_ ?_)<;>simp only[go_sem,upd,zIf,hbk,H,G,E]
   ·skip
    have G:=dnT hdn hbk [6,7,8,11,12,13,14,15,16,17,18,19,20,21,22,23,24] (by decide +kernel)
    simp only[allB,and_true] at G
    refine .inl ⟨trivial,.inl (.inl ?_)⟩
    simp only[go_sem,upd,zIf,hbk,G,E]
    refine zAB z (zj [] ?_ ?_)<;>simp only[go_sem,upd,zIf,hbk,G,E]
   ·skip
    have H:=upT hdn hde [5] (by decide +kernel)
    have G:=dnT hdn hbk [7,8,11,12,13,14,15,16,17,18,19,20,21,22,23,24] (by decide +kernel)
    simp only[allB,and_true] at H G
    refine .inl ⟨trivial,.inl (.inl ?_)⟩
    simp only[go_sem,upd,zIf,hbk,H,G,E]
    refine zAB z (zj [] ?_ ?_)<;>simp only[go_sem,upd,zIf,hbk,H,G,E]
   ·skip
    have H:=upT hdn hde [4,6,3,5,2,1,0] (by decide +kernel)
    have G:=dnT hdn hbk [8,11,12,13,14,15,16,17,18,19,20,21,22,23,24] (by decide +kernel)
    simp only[allB,and_true] at H G
    refine .inl ⟨trivial,.inl (.inl ?_)⟩
    simp only[go_sem,upd,zIf,hbk,H,G,E]
    all_goals (try (refine⟨⟨by omega,by omega⟩,?_⟩))
    refine zAB z (zj [] ?_ ?_)<;>simp only[go_sem,upd,zIf,hbk,H,G,E]
   ·skip
    have H:=upT hdn hde [7,4,6,3,5,2,1,0] (by decide +kernel)
    have G:=dnT hdn hbk [11,12,13,14,15,16,17,18,19,20,21,22,23,24] (by decide +kernel)
    simp only[allB,and_true] at H G
    refine .inl ⟨trivial,.inl (.inl ?_)⟩
    simp only[go_sem,upd,zIf,hbk,H,G,E]
    refine zAB z (zj [] ?_ ?_)<;>simp only[go_sem,upd,zIf,hbk,H,G,E]
   ·skip
    have G:=dnT hdn hbk [10,11,12,13,14,15,16,17,18,19,20,21,22,23,24] (by decide +kernel)
    simp only[allB,and_true] at G
    refine .inl ⟨trivial,.inl (.inl ?_)⟩
    simp only[go_sem,upd,zIf,hbk,G,E]
    refine zAB z (zj [] ?_ ?_)<;>simp only[go_sem,upd,zIf,hbk,G,E]
   ·skip
    have H:=upT hdn hde [9] (by decide +kernel)
    have G:=dnT hdn hbk [11,12,13,14,15,16,17,18,19,20,21,22,23,24] (by decide +kernel)
    simp only[allB,and_true] at H G
    refine .inl ⟨trivial,.inl (.inl ?_)⟩
    simp only[go_sem,upd,zIf,hbk,H,G,E]
    refine zAB z (zj [] ?_ ?_)<;>simp only[go_sem,upd,zIf,hbk,H,G,E]
   ·skip
    have H:=upT hdn hde [8,10,7,9,4,6,3,5,2,1,0] (by decide +kernel)
    have G:=dnT hdn hbk [12,13,14,15,16,17,18,19,20,21,22,23,24] (by decide +kernel)
    simp only[allB,and_true] at H G
    refine .inl ⟨trivial,.inl (.inl ?_)⟩
    simp only[go_sem,upd,zIf,hbk,H,G,E]
    all_goals (try (refine⟨⟨by omega,by omega⟩,?_⟩))
    refine zAB z (zj [] ?_ ?_)<;>simp only[go_sem,upd,zIf,hbk,H,G,E]
   ·skip
    have H:=upT hdn hde [11,8,10,7,9,4,6,3,5,2,1,0] (by decide +kernel)
    have G:=dnT hdn hbk [13,14,15,16,17,18,19,20,21,22,23,24] (by decide +kernel)
    simp only[allB,and_true] at H G
    refine .inl ⟨trivial,.inl (.inl ?_)⟩
    simp only[go_sem,upd,zIf,hbk,H,G,E]
    refine zAB z (zj [] ?_ ?_)<;>simp only[go_sem,upd,zIf,hbk,H,G,E]
   ·skip
    have H:=upT hdn hde [12,11,8,10,7,9,4,6,3,5,2,1,0] (by decide +kernel)
    have G:=dnT hdn hbk [14,15,16,17,18,19,20,21,22,23,24] (by decide +kernel)
    simp only[allB,and_true] at H G
    refine .inl ⟨trivial,.inl (.inl ?_)⟩
    simp only[go_sem,upd,zIf,hbk,H,G,E]
    refine zAB z (zj [] ?_ ?_)<;>simp only[go_sem,upd,zIf,hbk,H,G,E]
   ·skip
    have H:=upT hdn hde [13,12,11,8,10,7,9,4,6,3,5,2,1,0] (by decide +kernel)
    have G:=dnT hdn hbk [15,16,17,18,19,20,21,22,23,24] (by decide +kernel)
    simp only[allB,and_true] at H G
    refine .inl ⟨trivial,.inl (.inl ?_)⟩
    simp only[go_sem,upd,zIf,hbk,H,G,E]
    refine zAB z (zj [] ?_ ?_)<;>simp only[go_sem,upd,zIf,hbk,H,G,E]
   ·skip
    have H:=upT hdn hde [14,13,12,11,8,10,7,9,4,6,3,5,2,1,0] (by decide +kernel)
    have G:=dnT hdn hbk [16,22,23,24] (by decide +kernel)
    simp only[allB,and_true] at H G
    refine .inl ⟨⟨25,by kernel_rfl,by simp only[go_sem,if_true,H]⟩,.inl (.inl ?_)⟩
    simp only[go_sem,upd,zIf,hbk,H,G,E]
    refine zAB z (zj [] ?_ ?_)<;>simp only[go_sem,upd,zIf,hbk,H,G,E]
   ·skip
    have H:=upT hdn hde [14,15,13,12,11,8,10,7,9,4,6,3,5,2,1,0] (by decide +kernel)
    have G:=dnT hdn hbk [22,23,24] (by decide +kernel)
    simp only[allB,and_true] at H G
    refine .inl ⟨⟨25,by kernel_rfl,by simp only[go_sem,if_true,H]⟩,.inl (.inl ?_)⟩
    simp only[go_sem,upd,zIf,hbk,H,G,E]
    refine zAB z (zj [] ?_ ?_)<;>simp only[go_sem,upd,zIf,hbk,H,G,E]
   ·skip
    have H:=upT hdn hde [14,13,12,11,8,10,7,9,4,6,3,5,2,1,0] (by decide +kernel)
    have G:=dnT hdn hbk [18,22,23,24] (by decide +kernel)
    simp only[allB,and_true] at H G
    refine .inl ⟨⟨25,by kernel_rfl,by simp only[go_sem,if_true,H]⟩,.inl (.inl ?_)⟩
    simp only[go_sem,upd,zIf,hbk,H,G,E]
    refine zAB z (zj [] ?_ ?_)<;>simp only[go_sem,upd,zIf,hbk,H,G,E]
   ·skip
    have H:=upT hdn hde [14,17,13,12,11,8,10,7,9,4,6,3,5,2,1,0] (by decide +kernel)
    have G:=dnT hdn hbk [22,23,24] (by decide +kernel)
    simp only[allB,and_true] at H G
    refine .inl ⟨⟨25,by kernel_rfl,by simp only[go_sem,if_true,H]⟩,.inl (.inl ?_)⟩
    simp only[go_sem,upd,zIf,hbk,H,G,E]
    refine zAB z (zj [] ?_ ?_)<;>simp only[go_sem,upd,zIf,hbk,H,G,E]
   ·skip
    have H:=upT hdn hde [14,13,12,11,8,10,7,9,4,6,3,5,2,1,0] (by decide +kernel)
    have G:=dnT hdn hbk [20,22,23,24] (by decide +kernel)
    simp only[allB,and_true] at H G
    refine .inl ⟨⟨25,by kernel_rfl,by simp only[go_sem,if_true,H]⟩,.inl (.inl ?_)⟩
    simp only[go_sem,upd,zIf,hbk,H,G,E]
    refine zAB z (zj [] ?_ ?_)<;>simp only[go_sem,upd,zIf,hbk,H,G,E]
   ·skip
    have H:=upT hdn hde [14,19,13,12,11,8,10,7,9,4,6,3,5,2,1,0] (by decide +kernel)
    have G:=dnT hdn hbk [22,23,24] (by decide +kernel)
    simp only[allB,and_true] at H G
    refine .inl ⟨⟨25,by kernel_rfl,by simp only[go_sem,if_true,H]⟩,.inl (.inl ?_)⟩
    simp only[go_sem,upd,zIf,hbk,H,G,E]
    refine zAB z (zj [] ?_ ?_)<;>simp only[go_sem,upd,zIf,hbk,H,G,E]
   ·skip
    have H:=upT hdn hde [14,13,12,11,8,10,7,9,4,6,3,5,2,1,0] (by decide +kernel)
    have G:=dnT hdn hbk [22,23,24] (by decide +kernel)
    simp only[allB,and_true] at H G
    refine .inl ⟨⟨25,by kernel_rfl,by simp only[go_sem,if_true,H]⟩,.inl (.inl ?_)⟩
    simp only[go_sem,upd,zIf,hbk,H,G,E]
    refine zAB z (zj [] ?_ ?_)<;>simp only[go_sem,upd,zIf,hbk,H,G,E]
   ·skip
    have H:=upT hdn hde [14,14,16,18,20,21,13,15,17,19,12,11,8,10,7,9,4,6,3,5,2,1,0] (by decide +kernel)
    have G:=dnT hdn hbk [23,24] (by decide +kernel)
    simp only[allB,and_true] at H G
    refine .inl ⟨⟨25,by kernel_rfl,by simp only[go_sem,if_true,H]⟩,?_⟩
    refine .inr ⟨106,[],_,_,rest,ll,rfl,?_,?_,?_,hY,?_,?_⟩
    ·(simp only[go_sem,upd,zIf,hbk,H,G,E])
    ·(simp only[go_sem,upd,zIf,hbk,H,G,E,evs,List.map_cons,List.map_nil])
     try rfl
    ·(simp only[go_sem,upd,zIf,hbk,H,G,E,evs,List.map_cons,List.map_nil])
     first|exact zAS _|exact⟨zEX _,zEX _⟩|exact⟨zEX _,zEX _,zEX _⟩|skip
    ·rw[zE3]
     (simp only[go_sem,upd,zIf,hbk,H,G,E])
     refine zAB true (zj [] ?_ ?_)<;>(simp only[go_sem,upd,zIf,hbk,H,G,E])
    ·rw[zE3]
     (simp only[go_sem,upd,zIf,hbk,H,G,E])
     refine zAB false (zj [] ?_ ?_)<;>(simp only[go_sem,upd,zIf,hbk,H,G,E])
   ·skip
    have H:=upT hdn hde [14,22,13,16,18,20,21,12,15,17,19,11,8,10,7,9,4,6,3,5,2,1,0] (by decide +kernel)
    have G:=dnT hdn hbk [24] (by decide +kernel)
    simp only[allB,and_true] at H G
    refine .inl ⟨⟨25,by kernel_rfl,by simp only[go_sem,if_true,H]⟩,.inl (.inl ?_)⟩
    simp only[go_sem,upd,zIf,hbk,H,G,E]
    refine zAB z (zj [] ?_ ?_)<;>simp only[go_sem,upd,zIf,hbk,H,G,E]
   ·skip
    have H:=upT hdn hde [14,23,13,22,12,16,18,20,21,11,15,17,19,8,10,7,9,4,6,3,5,2,1,0] (by decide +kernel)
    simp only[allB,and_true] at H
    refine .inl ⟨trivial,.inl (.inl ?_)⟩
    simp only[go_sem,upd,zIf,hbk,H,E]
    refine zAB z (zj [] ?_ ?_)<;>simp only[go_sem,upd,zIf,hbk,H,E]
   intro b vs z hb
   simp only[go_sem,yhF,yhR,vH,hb,if_true,cond_true,List.cons_append,List.nil_append]
   cases z
   ·rw[hG2]
    apply zw (zk [1,2,7,8,35]);simp only[go_sem]
    repeat apply zq
    apply zc rfl<;>intro hc<;>(try simp only[go_sem] at hc)
    apply ze;exact⟨ll,false,.inr rfl⟩
   ·rw[hG1]
    apply zw (zk [1,2,7,8,35]);simp only[go_sem]
    repeat apply zq
    apply zc rfl<;>intro hc<;>(try simp only[go_sem] at hc)
    apply zx
    try simp only[go_sem]
    repeat apply zq
    refine zb fun K hK=>?_;simp only[go_sem,w1];(try simp (disch:=omega) only[zI]);repeat first|intro _|refine⟨by omega,?_⟩
    apply hK;clear hK K
    try simp only[go_sem]
    refine⟨by omega,zj [] ?_ ?_⟩
    ·try simp only[go_sem]
    ·try simp only[go_sem]
  ·rw[if_neg hp]
   simp only[List.map_nil,List.nil_append]
   have hq1:decide (0<q)=false:=decide_eq_false hp
   repeat apply zq
   refine zg follows (by decide +kernel) (by kernel_rfl) fun K hK=>?_;simp only[go_sem,hck0,hBk,hsB,hq,hq1,w1,List.length_map];(try simp (disch:=omega) only[zI]);repeat first|intro _|refine⟨by omega,?_⟩
   repeat first|intro _|refine⟨by omega,?_⟩
   apply hK;clear hK K;apply zw (zk [1,2,7,8,35]);simp only[go_sem]
   repeat apply zq
   apply zc rfl<;>intro hc<;>(try simp only[go_sem] at hc)
   apply zx
   try simp only[go_sem]
   repeat apply zq
   refine zb fun K hK=>?_;simp only[go_sem,w1];(try simp (disch:=omega) only[zI]);repeat first|intro _|refine⟨by omega,?_⟩
   apply hK;clear hK K
   try simp only[go_sem]
   refine⟨by omega,zj [] ?_ ?_⟩
   ·try simp only[go_sem]
   ·try simp only[go_sem]
 ·have hie:i=dn:=by omega
  subst hie
  rw[hrE]
  repeat apply zq
  refine zb fun K hK=>?_;simp only[go_sem,Nat.lt_irrefl,Int.lt_irrefl];(try simp (disch:=omega) only[zI]);repeat first|intro _|refine⟨by omega,?_⟩
  apply hK;clear hK K;apply zw (zk [9]);simp only[go_sem]
  repeat apply zq
  apply zc rfl<;>intro hc<;>(try simp only[go_sem] at hc)
  apply zf;simp only[go_sem];exact⟨ll,false,.inl rfl⟩
theorem zOB (bs:List Int) (g:Int) (dn s:Nat) (h:BdsO bs) (hg:0≤g∧g≤2) (hk:1≤dn∧dn≤3) (hs:1≤s∧s≤1000) (hT:0<totO (cntO g bs s dn) s∧totO (cntO g bs s dn) s≤3000) :
 zAA Tryz.prog 40 [ouR bs g (dn:Int),i64 (s:Int)] (.tu [.sl 1 ((allO g bs s s dn).map fun w=>[ints w]),i64 0]):=by
 have hnf:=zKC bs g dn s h hg (by omega) hs
 have hcl:=zFt g bs s dn
 have hto:=zRZ bs g (cntO g bs s dn) s (s+1) (by omega) (fun r hr=>by
  obtain⟨j,hj,rfl⟩:=List.mem_map.1 hr
  have hj:=List.mem_range.1 hj
  exact⟨zEE g bs s j,zMy g bs h.len s (by omega)⟩) (by omega)
 have hit:=zVR bs g (fun b hb=>h.bed b hb) dn s (by omega) hs
 have hAl:=zUl (g:=g) (m:=s) (s:=s) h.len dn hk.2
 have z0:((0:Int) != 0)=false:=rfl
 generalize totO (cntO g bs s dn) s=T at *
 generalize allO g bs s s dn=W at *
 have d1:(T == 0)=false:=by rw[beq_eq_false_iff_ne];omega
 have d2:decide (3000<T)=false:=decide_eq_false (by omega)
 refine zAx (rs:=[.sl 1 (W.map fun w=>[ints w]),i64 0]) [.cell 4 81,.tmp 5] Tryz.func40 rfl (by kernel_rfl) Tryz.ntmps40 rfl (by simp) rfl fun C hC vs=>?_
 repeat apply zq
 refine zb fun K hK=>?_;simp only[go_sem];(try simp (disch:=omega) only[zI]);repeat first|intro _|refine⟨by omega,?_⟩
 apply hK;clear hK K;refine zw (zfP 2 2 [ints bs,i64 g,i64 (dn:Int)] (by omega) rfl rfl) ?_;apply zw (zk [1,2,4]);simp only[go_sem]
 repeat apply zq
 refine zb fun K hK=>?_;simp only[go_sem];(try simp (disch:=omega) only[zI])
 refine zh (hnf) rfl (by simp only[go_sem,i64,ints]) (by simp only[go_sem,i64,ints]) ?_
 (try simp only[go_sem]);(try simp (disch:=omega) only[zI]);repeat first|intro _|refine⟨by omega,?_⟩
 apply hK;clear hK K;refine zw (zfP 6 6 (finC bs g (dn:Int) dn s) (by omega) rfl rfl) ?_;apply zw (zk [1,4,5,6]);simp only[go_sem]
 repeat apply zq
 refine zb fun K hK=>?_;simp only[go_sem,z0];(try simp (disch:=omega) only[zI]);repeat first|intro _|refine⟨by omega,?_⟩
 apply hK;clear hK K;apply zw (zk [1,4,5,6,16]);simp only[go_sem]
 repeat apply zq
 apply zc rfl<;>intro hc<;>(try simp only[go_sem] at hc)
 apply zx
 try simp only[go_sem]
 repeat apply zq
 refine zb fun K hK=>?_;simp only[go_sem];(try simp (disch:=omega) only[zI])
 refine zh (hto) rfl (by simp only[go_sem,i64,ints]) (by simp only[go_sem,i64,ints]) ?_
 (try simp only[go_sem]);(try simp (disch:=omega) only[zI]);repeat first|intro _|refine⟨by omega,?_⟩
 apply hK;clear hK K;apply zw (zk [4,5,6,7]);simp only[go_sem]
 repeat apply zq
 apply zd
 repeat apply zq
 refine zb fun K hK=>?_;simp only[go_sem,d1];(try simp (disch:=omega) only[zI]);repeat first|intro _|refine⟨by omega,?_⟩
 apply hK;clear hK K;apply zw (zk [4,5,6,7,22]);simp only[go_sem]
 repeat apply zq
 apply zc rfl<;>intro hc<;>(try simp only[go_sem] at hc)
 repeat apply zq
 refine zb fun K hK=>?_;simp only[go_sem,d2];(try simp (disch:=omega) only[zI]);repeat first|intro _|refine⟨by omega,?_⟩
 apply hK;clear hK K;apply zw (zk [4,5,6,7,25]);simp only[go_sem]
 repeat apply zq
 apply zc rfl<;>intro hc<;>(try simp only[go_sem] at hc)
 apply zx
 try simp only[go_sem]
 repeat apply zq
 refine zBp ?_
 refine zBD 1 (by kernel_rfl) fun K hK=>?_
 simp only[go_sem,List.take_succ_cons,List.take_zero,List.drop_succ_cons,List.drop_zero,List.append_eq,List.cons_append,List.nil_append];(try simp (disch:=omega) only[zI]);repeat first|intro _|refine⟨by omega,?_⟩
 refine hK _ rfl ?_
 clear hK K
 refine zBc (zk [4,28]) ?_
 simp only[go_sem]
 refine zBl rfl (by intro t h;injection h with h;subst h;show 29<36;decide) (by intro c h;cases h) (zFo rfl rfl ?_)
 try simp only[go_sem]
 refine zBd (by kernel_rfl) fun K hK=>?_
 simp only[go_sem,List.drop_succ_cons,List.drop_zero,List.append_eq,List.cons_append,List.nil_append];(try simp (disch:=omega) only[zI]);repeat first|intro _|refine⟨by omega,?_⟩
 apply hK;clear hK K;refine zw (zCG 4 0 34 65 1 (by omega) (by omega) rfl rfl) ?_;apply zw (zk [4,29]);simp only[go_sem]
 repeat apply zq
 apply zd
 refine zHI hC (W.map fun w=>[ints w]) hit [4,29] (by decide) (fun vs=>[(4,.pt 4 (vs 4) 0),(29,.r (.bf 72 [.ag (finC bs g (dn:Int) dn s)]))])
  (fun i vs=>[(4,.box [.os 34 (vs 34) 1 0 i]),(34,.arr 65 1 ((W.take i).map fun w=>[ints w]))]) (fun _=>True) (zj [] ?_ ?_) trivial (fun _=>rfl) (fun _=>rfl) (fun _ _=>rfl) (by simp) (fun e he=>by obtain⟨x,_,rfl⟩:=List.mem_map.1 he;rfl) ?_ ?_
 ·try simp only[go_sem]
  try rfl
 ·try simp only[go_sem]
  try rfl
 ·intro i e vs us C' he _
  rw[List.getElem?_map] at he
  obtain⟨w,hw,rfl⟩:=Option.map_eq_some_iff.1 he
  have hi:=(List.getElem?_eq_some_iff.1 hw).1
  have hlt:((W.take i).map fun w=>[ints w]).length=i:=by rw[List.length_map,List.length_take];omega
  rw[zto hw,List.map_append]
  repeat apply zq
  refine zb fun K hK=>?_;simp only[go_sem];(try simp (disch:=omega) only[zI]);repeat first|intro _|refine⟨by omega,?_⟩
  apply hK;clear hK K
  refine⟨rfl,fun C'=>?_⟩
  apply zw (zk [4,8,29]);simp only[go_sem]
  repeat apply zq
  apply zd
  repeat apply zq
  refine zb fun K hK=>?_;simp only[go_sem,hlt];(try simp (disch:=omega) only[zI]);repeat first|intro _|refine⟨by omega,?_⟩
  repeat first|intro _|refine⟨by omega,?_⟩
  apply hK;clear hK K
  try simp only[go_sem]
  refine zj (F:=fun _=>[]) [] ?_ ?_
  ·try simp only[go_sem]
  ·try simp only[go_sem]
 ·intro vs us _
  have hWl:(W.map fun w=>[ints w]).length=W.length:=List.length_map _
  try simp only[go_sem]
  refine zw (zBk rfl) ?_
  try simp only[List.length_map,List.take_length]
  repeat apply zq
  refine zb fun K hK=>?_;simp only[go_sem];(try simp (disch:=omega) only[zI]);repeat first|intro _|refine⟨by omega,?_⟩
  apply hK;clear hK K;apply zw (zk [4,5]);simp only[go_sem];apply ze;simp only[go_sem]
  try simp
end Go.Proofs.YtgfbenanljjgaaaGreat.Du

namespace Go.Proofs.YtgfbenanljjgaaaGreat.Bo
open Go Go.Oc
set_option maxRecDepth 8000
set_option maxHeartbeats 4000000
def zA4:List RV:=[i64 60,i64 160,.sl 2 [[i64 990,i64 1]],.sl 2 [[i64 (-1),i64 1],[i64 1,i64 1],[i64 1,i64 (-1)],[i64 (-1),i64 (-1)]],ints [20,6,3,11],i64 0]
def fsW:List (FuncId × Nat):=[(147,0),(116,0),(159,0),(175,0),(190,0),(150,0),(191,0),(177,0),(178,0),(195,0),(192,0),(173,0),(108,0),(193,0),(181,0),(180,0),(176,0),(148,0)]
theorem zFJ:zHM Tryz.prog fsW=true:=by kernel_rfl
def wOrc:Orc:=[]
theorem zDR:zHS Tryz.prog wOrc:=trivial
theorem win0:zAA Tryz.prog 147 [i64 0,i64 20,ints [0]] (.bo true):=zBe follows zFJ zDR (k:=200) (by kernel_rfl) (by kernel_rfl)
theorem win1:zAA Tryz.prog 147 [i64 1,i64 5000,ints [60]] (.bo true):=zBe follows zFJ zDR (k:=200) (by kernel_rfl) (by kernel_rfl)
theorem win2:zAA Tryz.prog 147 [i64 61,i64 5000,ints [160]] (.bo true):=zBe follows zFJ zDR (k:=200) (by kernel_rfl) (by kernel_rfl)
theorem win3:zAA Tryz.prog 147 [i64 161,i64 5000,ints [990]] (.bo true):=zBe follows zFJ zDR (k:=200) (by kernel_rfl) (by kernel_rfl)
theorem fac0:zAA Tryz.prog 190 [.sl 2 [[i64 990,i64 1]],.fn 191 []] (.bo false):=zBe follows zFJ zDR (k:=200) (by kernel_rfl) (by kernel_rfl)
theorem zRu:zAA Tryz.prog 177 [.ag zA4] (.fn 194 [.rp zA4]):=by
 refine zas (rs:=[.fn 194 [.rp zA4]]) [.tmp 2] Tryz.func177 rfl (by kernel_rfl) Tryz.ntmps177 rfl (by simp) rfl fun C vs=>?_
 apply zq
 refine zb fun K hK=>?_;simp only[go_sem,zA4];apply hK;clear hK K;refine zw (zfP 1 1 zA4 (by omega) rfl rfl) ?_;apply zw (zk [1]);simp only[go_sem]
 apply zq
 refine zb fun K hK=>?_;simp only[go_sem];apply hK;clear hK K;apply zw (zk [2]);simp only[go_sem];apply ze;simp only[go_sem]
 try exact Du.zEX _
theorem zA1 {n:Nat}{l:List (Nat × AV)}{vs:Nat→Nat}{cs:List (Nat × RowC)}{P:Program}{d:Option Nat}{ll:Nat}{z:Bool}{e:List RV}{rest:List (List RV)}{xs:List AV}{K:AS→Prop}(hrow:zAG cs 999 = .gh P ll z (some (e::rest)))
 (hp:AV.pureL xs=true) (he:zAc (st n l vs cs).rows xs=e) (hfl:RV.flatL e=true∨z=false) (hK1:K ((st n l vs (insc cs 999 (.gh P ll z (some rest)))).put d (.r (.bo true)))) (hK2:K ((st n l vs (insc cs 999 (.gh P ll z none))).put d (.r (.bo false)))) :
 zJX P false (st n l vs cs) d (.r (.yl ll)) xs K:=by
 have hr:∀ c,(st n l vs cs).row 999 ⟨((st n l vs cs).rows 999).ver,c⟩=st n l vs (insc cs 999 c):=fun c=>by
  rw[zJt]
  congr 1
  exact zCt vs 999
 exact .inr (.inl ⟨rfl,.inr (.inr (.inl ⟨ll,z,e,rest,rfl,hrow,hp,he▸zAS _,hfl,by rw[hr];exact hK1,by rw[hr];exact hK2⟩))⟩)
theorem zUz:zGD Tryz.prog true 194 [.rp zA4] [[i64 60],[i64 160],[i64 990]]:=by
 refine zGx Tryz.func194 rfl (by kernel_rfl) Tryz.ntmps194 rfl (by simp) fun C ll=>?_
 repeat apply zq
 refine zb fun K hK=>?_;simp only[go_sem,argL,zA4]
 refine zA1 (z:=true) (e:=[i64 60]) (rest:=[[i64 160],[i64 990]]) (by simp only[go_sem]) rfl (by simp only[go_sem]) (.inl rfl) ?_ ?_
 ·simp only[go_sem]
  refine zA1 (z:=true) (e:=[i64 160]) (rest:=[[i64 990]]) (by simp only[go_sem]) rfl (by simp only[go_sem]) (.inl rfl) ?_ ?_
  ·simp only[go_sem];apply hK;clear hK K;apply zw (zk [0,1,16]);simp only[go_sem]
   apply zc rfl<;>intro hc<;>(try simp only[go_sem] at hc)
   apply zx
   try simp only[go_sem]
   apply zq
   refine zb fun K hK=>?_;simp only[go_sem];apply hK;clear hK K;apply zw (zk [0,18,19,20]);simp only[go_sem];apply zd
   refine zuv (n:=30) 1 (fun i vs=>[(0,.r (.yl ll)),(18,.r (.sl 2 [[i64 990,i64 1]])),(19,.r (i64 1)),(20,.r (i64 (i:Int)))])
    (fun i vs=>[(999,.gh Tryz.prog ll true (some (if i=0 then [[i64 990]] else [])))]) (fun _=>True) 0 (zj [] ?_ ?_) (Nat.zero_le _) trivial ?_
   ·try simp only[go_sem]
   ·try simp only[go_sem]
    try rfl
   intro i vs hi _
   have:i=0∨i=1:=by omega
   rcases this with rfl|rfl
   ·apply zq
    refine zb fun K hK=>?_;simp only[go_sem];apply hK;clear hK K;apply zw (zk [0,18,19,20,21]);simp only[go_sem]
    apply zq
    apply zc rfl<;>intro hc<;>(try simp only[go_sem] at hc)
    apply zx
    try simp only[go_sem]
    apply zq
    apply zd
    apply zq
    refine zb fun K hK=>?_;simp only[go_sem];apply hK;clear hK K;refine zw (zfP 4 4 [i64 990,i64 1] (by omega) rfl rfl) ?_;apply zw (zk [0,4,18,19,20]);simp only[go_sem]
    apply zq
    refine zb fun K hK=>?_;simp only[go_sem,if_true]
    refine zA1 (z:=true) (e:=[i64 990]) (rest:=[]) (by simp only[go_sem,if_true]) rfl (by simp only[go_sem]) (.inl rfl) ?_ ?_
    ·simp only[go_sem];apply hK;clear hK K;apply zw (zk [0,18,19,20,28]);simp only[go_sem]
     apply zc rfl<;>intro hc<;>(try simp only[go_sem] at hc)
     apply zx
     try simp only[go_sem]
     refine zb fun K hK=>?_;simp only[go_sem];(try simp (disch:=omega) only[zI]);apply hK;clear hK K
     try simp only[go_sem]
     refine zj [] ?_ ?_
     ·try simp only[go_sem]
      try rfl
     ·try simp only[go_sem]
      try rfl
    ·simp only[go_sem];apply hK;clear hK K;apply zw (zk [28]);simp only[go_sem]
     apply zc rfl<;>intro hc<;>(try simp only[go_sem] at hc)
     apply ze;simp only[go_sem];exact⟨_,_,.inr rfl⟩
   ·apply zq
    refine zb fun K hK=>?_;simp only[go_sem];apply hK;clear hK K;apply zw (zk [21]);simp only[go_sem]
    apply zq
    apply zc rfl<;>intro hc<;>(try simp only[go_sem] at hc)
    apply zf;simp only[go_sem];exact⟨ll,true,.inl rfl⟩
  ·simp only[go_sem];apply hK;clear hK K;apply zw (zk [16]);simp only[go_sem]
   apply zc rfl<;>intro hc<;>(try simp only[go_sem] at hc)
   apply ze;simp only[go_sem];exact⟨_,_,.inr rfl⟩
 ·simp only[go_sem];apply hK;clear hK K;apply zw (zk [16]);simp only[go_sem]
  apply zc rfl<;>intro hc<;>(try simp only[go_sem] at hc)
  apply ze;simp only[go_sem];exact⟨_,_,.inr rfl⟩
def zB8:Nat→Int
 | 0=>0
 | 1=>60
 | 2=>160
 | _=>990
theorem zRo:zAA Tryz.prog 172 [.ag zA4] (.bo true):=by
 have h0:=win0
 have h1:=win1
 have h2:=win2
 have h3:=win3
 have hf:=fac0
 have hra:=zRu
 have z1:((1:Int) == 0)=false:=rfl
 refine zAx (rs:=[.bo true]) [.cell 2 4] Tryz.func172 rfl (by kernel_rfl) Tryz.ntmps172 rfl (by simp) rfl fun C hC vs=>?_
 apply zq
 refine zb fun K hK=>?_;simp only[go_sem,zA4];apply hK;clear hK K;refine zw (zfP 1 1 zA4 (by omega) rfl rfl) ?_;apply zw (zk [1,2]);simp only[go_sem]
 repeat apply zq
 refine zb fun K hK=>?_;simp only[go_sem,zA4,z1]
 refine zh (h0) rfl (by simp only[go_sem,i64,ints,zA4,z1]) (by simp only[go_sem,i64,ints,zA4,z1]) ?_
 (try simp only[go_sem,zA4,z1])
 refine zh (hf) rfl (by simp only[go_sem,i64,ints,zA4,z1]) (by simp only[go_sem,i64,ints,zA4,z1]) ?_
 (try simp only[go_sem,zA4,z1]);apply hK;clear hK K;apply zw (zk [1,2,20]);simp only[go_sem]
 apply zc rfl<;>intro hc<;>(try simp only[go_sem] at hc)
 apply zx
 try simp only[go_sem]
 apply zq
 refine zb fun K hK=>?_;simp only[go_sem,zA4];(try simp (disch:=omega) only[zI]);apply hK;clear hK K;apply zw (zk [1,2,3]);simp only[go_sem]
 repeat apply zq
 refine zb fun K hK=>?_;simp only[go_sem]
 refine zh (hra) rfl (by simp only[go_sem,i64,ints,zA4]) (by simp only[go_sem,i64,ints,zA4]) ?_
 (try simp only[go_sem,zA4]);apply hK;clear hK K;apply zw (zk [1,2,3,25]);simp only[go_sem];apply zd
 refine zCU hC [[i64 60],[i64 160],[i64 990]] zUz [1,2,3,25] (by decide) (fun vs=>[(1,.r (.rp zA4)),(2,.pt 2 (vs 2) 0),(3,.pt 3 (vs 3) 0),(25,.r (.fn 194 [.rp zA4]))])
  (fun i vs=>[(2,.box [.r (.bo false)]),(3,.box [.r (i64 (zB8 i))])]) (fun _=>True) (zj [] ?_ ?_) trivial (fun _=>rfl) (fun _=>rfl) (fun _ _=>rfl) (by simp) (fun e he=>by simp only[List.mem_cons,List.not_mem_nil,or_false] at he;rcases he with rfl|rfl|rfl<;>rfl) ?_ ?_
 ·try simp only[go_sem]
  first|exact⟨rfl,rfl⟩|rfl
 ·try simp only[go_sem]
  try rfl
 ·intro i e vs us C' he _
  have hi:i=0∨i=1∨i=2:=by
   have:=(List.getElem?_eq_some_iff.1 he).1
   simp at this
   omega
  rcases hi with rfl|rfl|rfl
  ·simp only[List.getElem?_cons_zero,Option.some.injEq] at he
   subst he
   refine zb fun K hK=>?_;simp only[go_sem];apply hK;clear hK K
   refine⟨rfl,fun C'=>?_⟩
   apply zw (zk [1,2,3,4]);simp only[go_sem];apply zd
   repeat apply zq
   refine zb fun K hK=>?_;simp only[go_sem,zB8,zA4];(try simp (disch:=omega) only[zI])
   refine zh (h1) rfl (by simp only[go_sem,i64,ints,zB8]) (by simp only[go_sem,i64,ints,zB8]) ?_
   (try simp only[go_sem,zB8]);apply hK;clear hK K;apply zw (zk [1,2,3,4,36]);simp only[go_sem]
   apply zc rfl<;>intro hc<;>(try simp only[go_sem] at hc)
   apply zx
   try simp only[go_sem]
   refine zb fun K hK=>?_;simp only[go_sem];apply hK;clear hK K
   try simp only[go_sem]
   refine zj (F:=fun _=>[]) [] ?_ ?_
   ·try simp only[go_sem]
   ·try simp only[go_sem]
    try rfl
  ·simp only[List.getElem?_cons_succ,List.getElem?_cons_zero,Option.some.injEq] at he
   subst he
   refine zb fun K hK=>?_;simp only[go_sem];apply hK;clear hK K
   refine⟨rfl,fun C'=>?_⟩
   apply zw (zk [1,2,3,4]);simp only[go_sem];apply zd
   repeat apply zq
   refine zb fun K hK=>?_;simp only[go_sem,zB8,zA4];(try simp (disch:=omega) only[zI])
   refine zh (h2) rfl (by simp only[go_sem,i64,ints,zB8]) (by simp only[go_sem,i64,ints,zB8]) ?_
   (try simp only[go_sem,zB8]);apply hK;clear hK K;apply zw (zk [1,2,3,4,36]);simp only[go_sem]
   apply zc rfl<;>intro hc<;>(try simp only[go_sem] at hc)
   apply zx
   try simp only[go_sem]
   refine zb fun K hK=>?_;simp only[go_sem];apply hK;clear hK K
   try simp only[go_sem]
   refine zj (F:=fun _=>[]) [] ?_ ?_
   ·try simp only[go_sem]
   ·try simp only[go_sem]
    try rfl
  ·simp only[List.getElem?_cons_succ,List.getElem?_cons_zero,Option.some.injEq] at he
   subst he
   refine zb fun K hK=>?_;simp only[go_sem];apply hK;clear hK K
   refine⟨rfl,fun C'=>?_⟩
   apply zw (zk [1,2,3,4]);simp only[go_sem];apply zd
   repeat apply zq
   refine zb fun K hK=>?_;simp only[go_sem,zB8,zA4];(try simp (disch:=omega) only[zI])
   refine zh (h3) rfl (by simp only[go_sem,i64,ints,zB8]) (by simp only[go_sem,i64,ints,zB8]) ?_
   (try simp only[go_sem,zB8]);apply hK;clear hK K;apply zw (zk [1,2,3,4,36]);simp only[go_sem]
   apply zc rfl<;>intro hc<;>(try simp only[go_sem] at hc)
   apply zx
   try simp only[go_sem]
   refine zb fun K hK=>?_;simp only[go_sem];apply hK;clear hK K
   try simp only[go_sem]
   refine zj (F:=fun _=>[]) [] ?_ ?_
   ·try simp only[go_sem]
   ·try simp only[go_sem]
    try rfl
 ·intro vs us _
  try simp only[go_sem]
  refine zw (zBk rfl) ?_
  apply zq
  refine zb fun K hK=>?_;simp only[go_sem];apply hK;clear hK K;apply zw (zk [2]);simp only[go_sem];apply ze;simp only[go_sem]
theorem zTY:zAA Tryz.prog 149 [.ag zA4,.ag [i64 500,i64 500]] (.bo false):=by
 have z0:((0:Int) == 0)=true:=rfl
 refine zAx (rs:=[.bo false]) [.cell 4 4] Tryz.func149 rfl (by kernel_rfl) Tryz.ntmps149 rfl (by simp) rfl fun C hC vs=>?_
 apply zq
 refine zb fun K hK=>?_;simp only[go_sem,zA4];apply hK;clear hK K;refine zw (zfP 2 2 zA4 (by omega) rfl rfl) ?_;apply zw (zk [2,4]);simp only[go_sem]
 repeat apply zq
 refine zb fun K hK=>?_;simp only[go_sem,zA4,z0];apply hK;clear hK K;apply zw (zk [4,11]);simp only[go_sem]
 apply zc rfl<;>intro hc<;>(try simp only[go_sem] at hc)
 apply zq
 refine zb fun K hK=>?_;simp only[go_sem];apply hK;clear hK K;apply zw (zk [4]);simp only[go_sem];apply ze;simp only[go_sem]
theorem num0:zAA Tryz.prog 147 [i64 1,i64 20,ints [20]] (.bo true):=zBe follows zFJ zDR (k:=200) (by kernel_rfl) (by kernel_rfl)
theorem num1:zAA Tryz.prog 147 [i64 1,i64 20,ints [6]] (.bo true):=zBe follows zFJ zDR (k:=200) (by kernel_rfl) (by kernel_rfl)
theorem num2:zAA Tryz.prog 147 [i64 1,i64 20,ints [3]] (.bo true):=zBe follows zFJ zDR (k:=200) (by kernel_rfl) (by kernel_rfl)
theorem num3:zAA Tryz.prog 147 [i64 1,i64 20,ints [11]] (.bo true):=zBe follows zFJ zDR (k:=200) (by kernel_rfl) (by kernel_rfl)
def numN:Nat→Int
 | 0=>20
 | 1=>6
 | 2=>3
 | _=>11
def mapN:Nat→List (RV × RV)
 | 0=>[]
 | 1=>[(i64 20,.bo true)]
 | 2=>[(i64 20,.bo true),(i64 6,.bo true)]
 | 3=>[(i64 20,.bo true),(i64 6,.bo true),(i64 3,.bo true)]
 | _=>[(i64 20,.bo true),(i64 6,.bo true),(i64 3,.bo true),(i64 11,.bo true)]
theorem zTw:∀ i,i<4→zAA Tryz.prog 147 [i64 1,i64 20,ints [numN i]] (.bo true)
 | 0,_=>num0
 | 1,_=>num1
 | 2,_=>num2
 | 3,_=>num3
 | n+4,h=>by omega
theorem zTx:∀ i,i<4→([20,6,3,11]:List Int)[i]? = some (numN i)
 | 0,_=>rfl
 | 1,_=>rfl
 | 2,_=>rfl
 | 3,_=>rfl
 | n+4,h=>by omega
theorem zR0:∀ i,i<4→zEh (i64 (numN i)) (mapN i) 0=some none
 | 0,_=>rfl
 | 1,_=>rfl
 | 2,_=>rfl
 | 3,_=>rfl
 | n+4,h=>by omega
theorem zQB:∀ i,i<4→mapN (i+1)=mapN i++[(i64 (numN i),.bo true)]
 | 0,_=>rfl
 | 1,_=>rfl
 | 2,_=>rfl
 | 3,_=>rfl
 | n+4,h=>by omega
theorem zON:zAA Tryz.prog 174 [.ag zA4] (.bo true):=by
 refine zas (rs:=[.bo true]) [.tmp 2] Tryz.func174 rfl (by kernel_rfl) Tryz.ntmps174 rfl (by simp) rfl fun C vs=>?_
 apply zq
 refine zb fun K hK=>?_;simp only[go_sem,zA4];apply hK;clear hK K;refine zw (zfP 1 1 zA4 (by omega) rfl rfl) ?_;apply zw (zk [1]);simp only[go_sem]
 apply zq
 refine zb fun K hK=>?_;simp only[go_sem];apply hK;clear hK K;apply zw (zk [1,3]);simp only[go_sem]
 repeat apply zq
 refine zb fun K hK=>?_;simp only[go_sem,zA4];apply hK;clear hK K;apply zw (zk [1,3,8,9,10]);simp only[go_sem];apply zd
 refine zuv (n:=33) 4 (fun i vs=>[(1,.r (.rp zA4)),(3,.mp 6 (vs 6)),(8,.r (ints [20,6,3,11])),(9,.r (i64 4)),(10,.r (i64 (i:Int)))])
  (fun i vs=>[(6,.mp (mapN i))]) (fun _=>True) 0 (zj [] ?_ ?_) (Nat.zero_le _) trivial ?_
 ·try simp only[go_sem]
  try rfl
 ·try simp only[go_sem]
  try rfl
 intro i vs hi _
 by_cases hin:i<4
 ·have h1:=zTw i hin
  have h2:=zTx i hin
  have h3:=zR0 i hin
  have h4:=zQB i hin
  rw[h4]
  have c1:decide ((i:Int)<4)=true:=decide_eq_true (by omega)
  have hl:i<([20,6,3,11]:List Int).length:=hin
  have w1:IntKind.i64.wrap ((i:Int)+1)=(i:Int)+1:=by rw[zI]<;>omega
  generalize hL:([20,6,3,11]:List Int)=L at *
  generalize numN i=q at *
  generalize mapN i=M at *
  have hL4:L.length=4:=by rw[← hL];rfl
  apply zq
  refine zb fun K hK=>?_;simp only[go_sem,c1,hin];apply hK;clear hK K;apply zw (zk [1,3,8,9,10,11]);simp only[go_sem]
  apply zq
  apply zc rfl<;>intro hc<;>(try simp only[go_sem] at hc)
  apply zx
  try simp only[go_sem]
  apply zq
  apply zd
  apply zq
  refine zb fun K hK=>?_;simp only[go_sem,h2,hl,hL4,List.length_map]
  refine⟨by omega,?_⟩
  apply hK;clear hK K;apply zw (zk [1,3,5,8,9,10]);simp only[go_sem]
  repeat apply zq
  refine zb fun K hK=>?_;simp only[go_sem,h3]
  refine zh (h1) rfl (by simp only[go_sem,i64,ints,h3]) (by simp only[go_sem,i64,ints,h3]) ?_
  (try simp only[go_sem,h3]);apply hK;clear hK K;apply zw (zk [1,3,5,8,9,10,22]);simp only[go_sem]
  apply zc rfl<;>intro hc<;>(try simp only[go_sem] at hc)
  apply zx
  try simp only[go_sem]
  refine zb fun K hK=>?_;simp only[go_sem,h3];apply hK;clear hK K;apply zw (zk [1,3,8,9,10]);simp only[go_sem];refine zb fun K hK=>?_;simp only[go_sem,w1];apply hK;clear hK K
  try simp only[go_sem]
  refine⟨by omega,zj [] ?_ ?_⟩
  ·try simp only[go_sem]
  ·try simp only[go_sem]
 ·have hie:i=4:=by omega
  subst hie
  apply zq
  refine zb fun K hK=>?_;simp only[go_sem];apply hK;clear hK K;apply zw (zk [1,11]);simp only[go_sem]
  apply zq
  apply zc rfl<;>intro hc<;>(try simp only[go_sem] at hc)
  apply zf;simp only[go_sem]
  apply zq
  refine zb fun K hK=>?_;simp only[go_sem,zA4];apply hK;clear hK K;apply zw (zk [2]);simp only[go_sem];apply ze;simp only[go_sem]
def fsB:List (FuncId × Nat):=[(147,0),(116,0),(159,0),(175,0),(190,0),(150,0),(191,0),(177,0),(178,0),(195,0),(192,0),(173,0),(108,0),(193,0),(181,0),(180,0),(176,0),(148,0),(73,0),(107,0),(109,0),(146,0),(151,0),(152,0)]
theorem zVB:zHM Tryz.prog fsB=true:=by kernel_rfl
def bOrc:Orc:=[(172,[.ag zA4],.bo true),(174,[.ag zA4],.bo true),(149,[.ag zA4,.ag [i64 500,i64 500]],.bo false)]
theorem zUY:zHS Tryz.prog bOrc:=⟨zRo,zON,zTY,trivial⟩
theorem zVN:zAA Tryz.prog 73 [.ag zA4,.ag [i64 500,i64 500]] (.tu [i64 106,.bo false,i64 0]):=zBe follows zVB zUY (k:=400) (by kernel_rfl) (by kernel_rfl)
end Go.Proofs.YtgfbenanljjgaaaGreat.Bo

namespace Go.Proofs.YtgfbenanljjgaaaGreat.Du.Th.Ai
open Go Go.Oc
set_option maxRecDepth 8000
theorem zWL:zAA Tryz.prog 40 [.ag [ints [120,125,205,220,225,320],i64 1,i64 2],i64 110] (.tu [.sl 1 [[ints [320,225]]],i64 0]):=by
 have h:=zOB sixO 1 2 110 zTi (by omega) (by omega) (by omega) (by decide +kernel)
 have e:allO 1 sixO 110 110 2=[[320,225]]:=by decide +kernel
 rw[e] at h
 exact h
def fsO:List (FuncId × Nat):=[(41,0)]
theorem zVA:zHM Tryz.prog fsO=true:=by kernel_rfl
def oOrc:Orc:=[(73,[.ag Bo.zA4,.ag [i64 500,i64 500]],.tu [i64 106,.bo false,i64 0]),(40,[.ag [ints [120,125,205,220,225,320],i64 1,i64 2],i64 110],.tu [.sl 1 [[ints [320,225]]],i64 0])]
theorem zTv:zHS Tryz.prog oOrc:=⟨Bo.zVN,zWL,trivial⟩
theorem zLr:zAA Tryz.prog 41 [] (.bo true):=zBe follows zVA zTv (k:=200) (by kernel_rfl) (by kernel_rfl)
set_option maxHeartbeats 8000000
def dbK:Rk:=⟨2,[⟨201,[⟨0,1,1⟩,⟨201,1,1⟩]⟩],2,1⟩
theorem zTT:ROk dbK:=(zDb (by decide +kernel)).2
theorem vokK {l:List Int}(h:l.all (fun x=>decide (0≤x)&&decide (x≤1000000000) || decide (x=2000000000))=true):∀ x∈l,VOk x:=fun x hx=>by
 have:=List.all_eq_true.1 h x hx
 simp at this
 exact this
theorem ku:tabT dbK false=[0,0,1142858]:=by
 have h1:numA dbK false [0,0,0] 2=1142858:=zOO zTT (vokK (by decide)) (by decide) (by decide) (by omega) (by decide +kernel) (.inr (by decide +kernel))
 show ([0,0,0]:List Int).set 2 (numA dbK false [0,0,0] 2)=_
 rw[h1];rfl
theorem kl:tabT dbK true=[0,0,1142857]:=by
 have h1:numA dbK true [0,0,0] 2=1142857:=zOQ zTT (vokK (by decide)) (by decide) (by decide) (by omega) (.inr (by decide +kernel)) (.inr (by decide +kernel))
 show ([0,0,0]:List Int).set 2 (numA dbK true [0,0,0] 2)=_
 rw[h1];rfl
theorem wfK (d:Int) (hd:d=2):WfL d [⟨201,[⟨0,1,1⟩,⟨201,1,1⟩]⟩]:=by
 subst hd
 refine⟨by unfold I64;omega,fun a ha=>?_⟩
 simp only[List.mem_singleton] at ha
 subst ha
 refine⟨by unfold I64;decide,fun c hc=>?_⟩
 simp only[List.mem_cons,List.not_mem_nil,or_false] at hc
 rcases hc with rfl|rfl<;>(unfold I64;decide)
theorem zLs:zAA Tryz.prog 32 [] (.bo true):=by
 have hck:zBH dbK=0:=by decide +kernel
 have htb:=zMd dbK (wfK 2 rfl)
 rw[if_pos hck,if_pos hck,hck,ku,kl] at htb
 have htb':zAA Tryz.prog 22 [.ag [.it .i64 2,.sl 2 [[.it .i64 201,.sl 3 [[.it .i64 0,i64 1,i64 1],[.it .i64 201,i64 1,i64 1]]]],.it .i64 2,.it .i64 1]] (.tu [ints [0,0,1142858],ints [0,0,1142857],i64 0]):=htb
 have h1:=zN2 1 1
 refine zas (rs:=[.bo true]) [.tmp 0] Tryz.func32 rfl (by kernel_rfl) Tryz.ntmps32 rfl (by simp) rfl fun C vs=>?_
 repeat apply zq
 refine zb fun K hK=>?_;simp only[go_sem];(try simp (disch:=omega) only[zI]);repeat first|intro _|refine⟨by omega,?_⟩
 apply hK;apply zw (zk []);simp only[go_sem]
 repeat apply zq
 refine zb fun K hK=>?_;simp only[go_sem];(try simp (disch:=omega) only[zI])
 refine zh (h1) rfl (by simp only[go_sem,i64,ints]) (by simp only[go_sem,i64,ints]) ?_
 (try simp only[go_sem]);(try simp (disch:=omega) only[zI])
 refine zh (h1) rfl (by simp only[go_sem,i64,ints]) (by simp only[go_sem,i64,ints]) ?_
 (try simp only[go_sem]);(try simp (disch:=omega) only[zI])
 refine zh (htb') rfl (by simp only[go_sem,i64,ints]) (by simp only[go_sem,i64,ints]) ?_
 (try simp only[go_sem]);(try simp (disch:=omega) only[zI]);repeat first|intro _|refine⟨by omega,?_⟩
 apply hK;apply zw (zk [1,2,3]);simp only[go_sem]
 have e0:((0:Int) == 0)=true:=rfl
 have e1:((3:Int) == 3)=true:=rfl
 have e2:((1142858:Int) == 1142858)=true:=rfl
 have e3:((1142857:Int) == 1142857)=true:=rfl
 repeat apply zq
 refine zb fun K hK=>?_;simp only[go_sem,e0,e1,e2,e3,List.map_cons,List.map_nil,List.length_cons,List.length_nil];(try simp (disch:=omega) only[zI])
 (try intros)
 repeat first|intro _|refine⟨by omega,?_⟩
 apply hK;apply zw (zk [0]);simp only[go_sem];apply ze;simp only[go_sem]
abbrev btA (B:List Bool):List AV:=(B.map fun b=>RV.bo b).map AV.r
theorem zUp {L:List RV}{i:Nat}{x:RV}(h:L[i]? = some x):(L.map AV.r).drop i = .r x::(L.map AV.r).drop (i+1):=by
 refine zAH ?_
 simp [h]
theorem zVS {L:List RV}{i:Nat}{y:RV}(h:i<L.length):(L.map AV.r).take i++(AV.r y::(L.map AV.r).drop (i+1))=(L.set i y).map AV.r:=by
 rw[show (L.set i y).map AV.r=(L.map AV.r).set i (.r y) by simp [List.map_set],List.set_eq_take_append_cons_drop,if_pos (by simpa using h)]
theorem zQw {B:List Bool}{i:Nat}{x d:Bool}(h:B.getD i d=x) (hi:i<B.length):(List.drop i (btA B)).headD (AV.r RV.un)=AV.r (.bo x):=by
 obtain⟨y,hy⟩:=zol (l:=B) (i:=i) hi
 rw[List.getD_eq_getElem?_getD,hy] at h
 simp only[Option.getD_some] at h
 subst h
 rw[zUp (L:=B.map fun b=>RV.bo b) (x:=.bo y) (by rw[List.getElem?_map,hy];rfl)]
 rfl
theorem zQv (B:List Bool):(btA B).length=B.length:=by simp
theorem ty90:tyq Tryz.prog 90=some ⟨.arr 500 1 false,500,true,List.replicate 500 (.bo false)⟩:=by kernel_rfl
def zEi (st s:Nat):List Int:=(List.range (st+1)).map fun j=>if 1≤j∧j<s then (-1:Int) else 0
theorem zG5 (st s:Nat):(zEi st s).length=st+1:=by simp [zEi]
theorem zQd (st:Nat):zEi st 1=List.replicate (st+1) 0:=by
 refine List.ext_getElem (by simp [zEi]) fun x h1 h2=>?_
 simp only[zEi,List.getElem_map,List.getElem_range,List.getElem_replicate];rw[if_neg (by omega)]
theorem zQe (st:Nat):zEi st (st+1)=0::List.replicate st (-1):=by
 refine List.ext_getElem (by simp [zEi]) fun x h1 h2=>?_
 rw[zG5] at h1
 simp only[zEi,List.getElem_map,List.getElem_range]
 cases x with
 | zero=>simp
 | succ x =>
   rw[if_pos ⟨by omega,h1⟩]
   simp
theorem zQc (st s:Nat) (h1:1≤s) (h2:s≤st):(zEi st s).set s (-1)=zEi st (s+1):=by
 refine List.ext_getElem (by simp [zEi]) fun x g1 g2=>?_
 rw[List.getElem_set]
 simp only[zEi,List.getElem_map,List.getElem_range]
 split
 ·rename_i e
  subst e
  rw[if_pos ⟨h1,by omega⟩]
 ·split<;>split<;>first|rfl|omega
theorem law_neverout (W:List Int) (hW:∀ x∈W,0≤x∧x≤65535) (ch:List Nat) (hCh:∀ x∈ch,x<256) (v0 v1:Nat) (h0:v0<256) (h1:v1<256):zAA Tryz.prog 8 [u16L W,u8L ch,.ag [.it .u8 (v0:Int),.it .u8 (v1:Int)]] (.bo true):=by
 have hk1:=zLr
 have hk2:=zIy
 have hk3:=zLs
 have hal:=zRA W hW ch hCh
 obtain⟨hcv,hlen1,hlen3,hbeds⟩:=zT9 hW hCh (m:=3) (by omega)
 generalize lawA W ch 3=LA at *
 have m0:=Nat.mod_lt v0 (show 6 > 0 by omega)
 have m1:=Nat.mod_lt v1 (show 3 > 0 by omega)
 have k0:IntKind.i64.wrap (v0:Int)=v0:=by rw[zI]<;>omega
 have r0:Int.tmod (v0:Int) 6=((v0 % 6:Nat):Int):=rfl
 have r1:Int.tmod (v1:Int) 3=((v1 % 3:Nat):Int):=rfl
 have w0:IntKind.i64.wrap (2+((v0 % 6:Nat):Int))=((2+v0 % 6:Nat):Int):=by rw[zI]<;>omega
 have w1:IntKind.i64.wrap ((v1 % 3:Nat):Int)=((v1 % 3:Nat):Int):=by rw[zI]<;>omega
 generalize hst:2+v0 % 6=st at *
 generalize hg:v1 % 3=g at *
 have hst2:2≤st∧st≤7:=by omega
 obtain⟨hck,hr,hb2,hbd,hsf⟩:=zP5 (st:=st) (g:=g) hcv (fun a ha=>(hbeds a ha).2.2) hst2 m1
 have hwf:WfL 20 LA:=by
  refine⟨by unfold I64;omega,fun a ha=>?_⟩
  have hv:=(hbeds a ha).1
  simp only[zC9,zAb,chOk,Bool.and_eq_true,Bool.or_eq_true,decide_eq_true_eq,List.all_eq_true] at hv
  have hb3:=hb2 a ha
  refine⟨by unfold I64;omega,fun c hc=>?_⟩
  have h4:=hv.1.1.2 c hc
  have h5:=hb3 c hc
  unfold I64
  omega
 have hti:=zTE 20 LA hwf
 rw[if_pos hcv,hcv] at hti
 obtain⟨LT,hLT⟩:∃ LT,LT=LA.map (zCX 20):=⟨_,rfl⟩
 have hLl:LT.length=LA.length:=by rw[hLT,List.length_map]
 have hLg:∀ (i:Nat) (a:Am),LA[i]? = some a→LT[i]? = some (zCX 20 a):=fun i a h=>by rw[hLT,List.getElem?_map,h];rfl
 rw[← hLT] at hti
 clear hLT
 have htb:=zMd ⟨20,LA,st,g⟩ hwf
 have hnv:=zR7 ⟨20,LA,st,g⟩ hwf
 rw[if_pos hck,if_pos hck,hck] at htb
 rw[if_pos hck,hck] at hnv
 have htb2:zAA Tryz.prog 22 [.ag [.it .i64 20,zAl LA,.it .i64 (st:Int),.it .i64 (g:Int)]] (.tu [ints (tabT ⟨20,LA,st,g⟩ false),ints (tabT ⟨20,LA,st,g⟩ true),i64 0]):=htb
 have hnv2:zAA Tryz.prog 43 [.ag [.it .i64 20,zAl LA,.it .i64 (st:Int),.it .i64 (g:Int)]] (.tu [ints (nevL ⟨20,LA,st,g⟩ (tabT ⟨20,LA,st,g⟩ false) (cntA ⟨20,LA,st,g⟩)),i64 0]):=hnv
 have hlU:=zMe hr false
 have hlL:=zMe hr true
 have hstE:(⟨20,LA,st,g⟩:Rk).start=(st:Int):=rfl
 have houE:(⟨20,LA,st,g⟩:Rk).out=(g:Int):=rfl
 rw[hstE] at hlU hlL
 have hlg:=zBW (g:Int)
 have hlow:=zQ9 (g:Int)
 have hF:=zSk (g:Int) (bsA 20 LA) st
 have hfe:=fun h=>zQf (bsA 20 LA) g 3 st (hbd h) (by omega) (by omega) (by omega)
 have hcn:(cntA ⟨20,LA,st,g⟩:Int)=(st:Int)+1-lowG (g:Int):=by unfold cntA;rw[hstE,houE];omega
 have hnat:=fun (i:Nat)=>zT1 (r:=⟨20,LA,st,g⟩) (T:=tabT ⟨20,LA,st,g⟩ false) (i:=i) (n:=cntA ⟨20,LA,st,g⟩)
 have hnno:=fun (i:Nat)=>zR9 (r:=⟨20,LA,st,g⟩) (T:=tabT ⟨20,LA,st,g⟩ false) (i:=i) (n:=cntA ⟨20,LA,st,g⟩)
 have hnsu:=fun (i:Nat)=>zDv ⟨20,LA,st,g⟩ (tabT ⟨20,LA,st,g⟩ false) i
 have hnle:=fun (i:Nat)=>zIp ⟨20,LA,st,g⟩ (tabT ⟨20,LA,st,g⟩ false) i
 rw[houE] at hnat hnno hnsu
 have hn0:(nevL ⟨20,LA,st,g⟩ (tabT ⟨20,LA,st,g⟩ false) 0).length=0:=by simp [nevL]
 generalize nevL ⟨20,LA,st,g⟩ (tabT ⟨20,LA,st,g⟩ false)=Nf at *
 generalize tabT ⟨20,LA,st,g⟩ false=U at *
 generalize tabT ⟨20,LA,st,g⟩ true=L at *
 generalize cntA ⟨20,LA,st,g⟩=cnt at *
 obtain⟨base,hbase⟩:∃ base:Nat,(base:Int)=lowG (g:Int):=⟨(lowG (g:Int)).toNat,by omega⟩
 have hbt:(lowG (g:Int)).toNat=base:=by omega
 rw[hbt] at hnat hnno hnsu
 have lU:U.length=st+1:=by omega
 have lL:L.length=st+1:=by omega
 have ws:IntKind.i64.wrap ((st:Int)+1)=((st+1:Nat):Int):=by rw[zI]<;>omega
 have z0:((0:Int) != 0)=false:=rfl
 have zl:(((st+1:Nat):Int) != ((st+1:Nat):Int))=false:=by simp
 have zl2:((st:Int)+1 != (st:Int)+1)=false:=by simp
 have zA:((LA.length:Int) != (LA.length:Int))=false:=by simp
 refine zAx (rs:=[.bo true]) [.tmp 6] Tryz.func8 rfl (by kernel_rfl) Tryz.ntmps8 rfl (by simp) rfl fun C hC vs=>?_
 apply zq
 refine zb fun K hK=>?_;simp only[go_sem];apply hK;refine zw (zfP 5 5 [.it .u8 (v0:Int),.it .u8 (v1:Int)] (by omega) rfl rfl) ?_;apply zw (zk [0,1,5]);simp only[go_sem]
 apply zq
 refine zAF [(5,none)] follows (by decide +kernel) (by kernel_rfl) (by simp only[zAO,List.mem_cons,List.not_mem_nil,forall_eq_or_imp,Oc.keyOf,go_sem];simp) fun K hK=>?_
 simp only[go_sem];apply hK;apply zw (zk [0,1,7,8]);simp only[go_sem]
 apply zq
 refine zb fun K hK=>?_;simp only[go_sem]
 refine zh (hal) rfl (by simp only[go_sem,i64,ints]) (by simp only[go_sem,i64,ints]) ?_
 (try simp only[go_sem]);apply hK;refine zw (zfP 9 9 [i64 20,zAl LA] (by omega) (by try simp only[go_sem]) (by try simp only[go_sem])) ?_;apply zw (zk [7,8,9]);simp only[go_sem]
 apply zq
 refine zb fun K hK=>?_;simp only[go_sem,k0,r0,r1,w0,w1];apply hK;refine zw (zfP 10 10 [i64 20,zAl LA,i64 (st:Int),i64 (g:Int)] (by omega) (by try simp only[go_sem]) (by try simp only[go_sem])) ?_;apply zw (zk [9,10]);simp only[go_sem]
 apply zq
 refine zb fun K hK=>?_;simp only[go_sem]
 refine zh (hti) rfl (by simp only[go_sem,i64,ints]) (by simp only[go_sem,i64,ints]) ?_
 (try simp only[go_sem]);apply hK;refine zw (zfP 11 11 [i64 20,zAl LT] (by omega) (by try simp only[go_sem]) (by try simp only[go_sem])) ?_;apply zw (zk [9,10,11,12]);simp only[go_sem]
 repeat apply zq
 refine zb fun K hK=>?_;simp only[go_sem,z0,zA,hLl,List.length_map]
 (try intros)
 apply hK;apply zw (zk [9,10,11,58]);simp only[go_sem]
 apply zc rfl<;>intro hc<;>(try simp only[go_sem] at hc)
 apply zx
 try simp only[go_sem]
 apply zq
 refine zb fun K hK=>?_;simp only[go_sem,ty90];apply hK;refine zw (zIW 14 556 84 1 (by omega) rfl) ?_;apply zw (zk [9,10,11,13,14]);simp only[go_sem]
 repeat apply zq
 refine zb fun K hK=>?_;simp only[go_sem];apply hK;apply zw (zk [9,10,11,13,14,15]);simp only[go_sem];apply zd
 refine zuv (n:=256) LA.length (fun i vs=>[(9,.r (.rp [i64 20,zAl LA])),(10,.r (.rp [i64 20,zAl LA,i64 (st:Int),i64 (g:Int)])),(11,.r (.rp [i64 20,zAl LT])),(13,.pt 13 (vs 13) 0),(14,.os 556 (vs 556) 1 0 0),(15,.r (i64 (i:Int)))])
  (fun i vs=>[(13,.box (btA (zC7 20 LA i))),(556,.arr 84 1 [])]) (fun _=>True) 0 (zj [] ?_ ?_) (Nat.zero_le _) trivial ?_
 ·try simp only[go_sem]
  try rfl
 ·try simp only[go_sem]
  try rfl
 intro i vs hi _
 by_cases hiN:i<LA.length
 ·obtain⟨a,ha⟩:=zol hiN
  have hbl:=zFC 20 LA i
  have hmk:zC7 20 LA (i+1)=zCe 20 a (zC7 20 LA i) a.beds.length:=by
   show zCe 20 (LA.getD i ⟨0,[]⟩) _ (LA.getD i ⟨0,[]⟩).beds.length=_
   rw[List.getD_eq_getElem?_getD,ha];rfl
  rw[hmk]
  generalize zC7 20 LA i=B at *
  have hbb:=hb2 a (zmo ha)
  have hta:=hLg i a ha
  have hiT:i<LT.length:=by omega
  have htl:(zCX 20 a).beds.length=a.beds.length:=zPV 20 a.beds
  have htb3:(zCX 20 a).beds=zBj 20 a.beds:=rfl
  have c1:decide ((i:Int)<(LA.length:Int))=true:=decide_eq_true (by omega)
  have za:((a.beds.length:Int) != (a.beds.length:Int))=false:=by simp
  have wi:IntKind.i64.wrap ((i:Int)+1)=((i+1:Nat):Int):=by rw[zI]<;>omega
  repeat apply zq
  refine zb fun K hK=>?_;simp only[go_sem,c1,List.length_map]
  intro _
  apply hK;apply zw (zk [9,10,11,13,14,15,65]);simp only[go_sem]
  apply zc rfl<;>intro hc<;>(try simp only[go_sem] at hc)
  rotate_left
  ·exact absurd hiN hc
  apply zx
  try simp only[go_sem]
  apply zq
  apply zd
  repeat apply zq
  refine zg follows (by decide +kernel) (by kernel_rfl) fun K hK=>?_;simp only[go_sem,ha,hta,hiT,hiN,aimR,htl,za,List.length_map]
  (try intros)
  apply hK;apply zw (zk [9,10,11,13,14,15,82]);simp only[go_sem]
  apply zc rfl<;>intro hc<;>(try simp only[go_sem] at hc)
  apply zx
  try simp only[go_sem]
  apply zq
  refine zb fun K hK=>?_;simp only[go_sem];apply hK;apply zw (zk [9,10,11,13,14,15,16]);simp only[go_sem];apply zd
  refine zuv (n:=256) a.beds.length (fun k vs=>[(9,.r (.rp [i64 20,zAl LA])),(10,.r (.rp [i64 20,zAl LA,i64 (st:Int),i64 (g:Int)])),(11,.r (.rp [i64 20,zAl LT])),(13,.pt 13 (vs 13) 0),(14,.os 556 (vs 556) 1 0 0),(15,.r (i64 (i:Int))),(16,.r (i64 (k:Int)))])
   (fun k vs=>[(13,.box (btA (zCe 20 a B k))),(556,.arr 84 1 [])]) (fun _=>True) 0 (zj [] ?_ ?_) (Nat.zero_le _) trivial ?_
  ·try simp only[go_sem]
   try rfl
  ·try simp only[go_sem]
   try rfl
  intro k vs hk _
  by_cases hka:k<a.beds.length
  ·obtain⟨x,hx⟩:=zol hka
   have hxe:bAt a.beds k=x:=by unfold bAt;rw[List.getD_eq_getElem?_getD,hx];rfl
   have hxb:=hbb x (zmo hx)
   obtain⟨n,hn⟩:∃ n:Nat,x.b=n:=⟨x.b.toNat,by omega⟩
   obtain⟨y,hy⟩:=zol (l:=(zCX 20 a).beds) (i:=k) (by omega)
   have hyh:y.hi=canA a.beds k 20:=by
    have e:=zPW 20 a.beds k hka
    have e2:bAt (zBj 20 a.beds) k=y:=by unfold bAt;rw[List.getD_eq_getElem?_getD,← htb3,hy];rfl
    rw[← e,e2]
   have hBl:=zFD 20 a B k
   have hmb:zCe 20 a B (k+1)=(zCe 20 a B k).set n ((zCe 20 a B k).getD n false || decide (0<y.hi)):=by
    show (zCe 20 a B k).set (bAt a.beds k).b.toNat ((zCe 20 a B k).getD (bAt a.beds k).b.toNat false || decide (0<canA a.beds k 20))=_
    rw[hxe,hn,Int.toNat_natCast,hyh]
   rw[hmb]
   generalize zCe 20 a B k=D at *
   rw[hbl] at hBl
   have hnD:n<D.length:=by omega
   have hkT:k<(zCX 20 a).beds.length:=by omega
   have hget:(List.drop n (btA D)).headD (AV.r RV.un)=AV.r (.bo (D.getD n false)):=zQw (i:=n) (d:=false) rfl hnD
   have hset:=fun v:Bool=>zVS (L:=D.map fun b=>RV.bo b) (i:=n) (y:=.bo v) (by rw[List.length_map];omega)
   have hA:=fun v:Bool=>show btA (D.set n v)=List.map AV.r ((D.map fun b=>RV.bo b).set n (.bo v)) by
    show List.map AV.r (List.map _ (D.set n v))=_
    rw[List.map_set]
   have hdl:=zQv D
   have wk:IntKind.i64.wrap ((k:Int)+1)=((k+1:Nat):Int):=by rw[zI]<;>omega
   have n500:n<500:=by omega
   have c2:decide ((k:Int)<(a.beds.length:Int))=true:=decide_eq_true (by omega)
   repeat apply zq
   refine zb fun K hK=>?_;simp only[go_sem,ha,hiN,aimR,c2,List.length_map]
   intro _
   apply hK;apply zw (zk [9,10,11,13,14,15,16,91]);simp only[go_sem]
   apply zc rfl<;>intro hc<;>(try simp only[go_sem] at hc)
   rotate_left
   ·exact absurd hka hc
   apply zx
   try simp only[go_sem]
   apply zq
   apply zd
   cases hq:D.getD n false
   ·rw[hq] at hget
    refine zAF [(9,none),(11,none),(13,some 13)] follows (by decide +kernel) (by kernel_rfl) (by simp only[zAO,List.mem_cons,List.not_mem_nil,forall_eq_or_imp,Oc.keyOf,go_sem];simp) fun K hK=>?_
    simp only[go_sem,ty90,ha,hiN,hta,hiT,aimR,hx,hka,hn,bedR,hy,hkT,hget,hset,hdl,hBl,n500,List.length_map,Nat.mul_one,List.headD_cons]
    repeat refine⟨by omega,?_⟩
    apply hK;apply zw (zk [9,10,11,13,14,15,16]);simp only[go_sem];refine zb fun K hK=>?_;simp only[go_sem,wk];apply hK
    try simp only[go_sem]
    refine⟨hka,zj [] ?_ ?_⟩
    ·try simp only[go_sem]
    ·try simp only[go_sem]
     try simp [hA]
   ·rw[hq] at hget
    refine zAF [(9,none),(11,none),(13,some 13)] follows (by decide +kernel) (by kernel_rfl) (by simp only[zAO,List.mem_cons,List.not_mem_nil,forall_eq_or_imp,Oc.keyOf,go_sem];simp) fun K hK=>?_
    simp only[go_sem,ty90,ha,hiN,hta,hiT,aimR,hx,hka,hn,bedR,hy,hkT,hget,hset,hdl,hBl,n500,List.length_map,Nat.mul_one,List.headD_cons]
    repeat refine⟨by omega,?_⟩
    apply hK;apply zw (zk [9,10,11,13,14,15,16]);simp only[go_sem];refine zb fun K hK=>?_;simp only[go_sem,wk];apply hK
    try simp only[go_sem]
    refine⟨hka,zj [] ?_ ?_⟩
    ·try simp only[go_sem]
    ·try simp only[go_sem]
     try simp [hA]
  ·have hke:k=a.beds.length:=by omega
   subst hke
   repeat apply zq
   refine zb fun K hK=>?_;simp only[go_sem,ha,hiN,aimR,Int.lt_irrefl,Nat.lt_irrefl,List.length_map]
   intro _
   apply hK;apply zw (zk [9,10,11,13,14,15,91]);simp only[go_sem]
   apply zc rfl<;>intro hc<;>(try simp only[go_sem] at hc)
   apply zf;simp only[go_sem];refine zb fun K hK=>?_;simp only[go_sem,wi];apply hK
   try simp only[go_sem]
   refine⟨hiN,zj [] ?_ ?_⟩
   ·try simp only[go_sem]
   ·try simp only[go_sem]
 have hie:i=LA.length:=by omega
 subst hie
 repeat apply zq
 refine zb fun K hK=>?_;simp only[go_sem,Int.lt_irrefl,Nat.lt_irrefl,List.length_map]
 intro _
 apply hK;apply zw (zk [9,10,13,14,65]);simp only[go_sem]
 apply zc rfl<;>intro hc<;>(try simp only[go_sem] at hc)
 apply zf;simp only[go_sem]
 have hBl:=zFC 20 LA LA.length
 have hbsE:bsA 20 LA=(zD0 (zC7 20 LA LA.length) 500).map fun b:Nat=>(b:Int):=rfl
 generalize hbs:bsA 20 LA=bs at *
 generalize zC7 20 LA LA.length=B at *
 have hbl:=zQv B
 repeat apply zq
 refine zb fun K hK=>?_;simp only[go_sem];apply hK;apply zw (zk [9,10,13,14,17]);simp only[go_sem];apply zd
 refine zuv (n:=256) 500 (fun i vs=>[(9,.r (.rp [i64 20,zAl LA])),(10,.r (.rp [i64 20,zAl LA,i64 (st:Int),i64 (g:Int)])),(13,.pt 13 (vs 13) 0),(14,.os 556 (vs 556) 1 0 (zD0 B i).length),(17,.r (i64 (i:Int)))])
  (fun i vs=>[(13,.box (btA B)),(556,.arr 84 1 ((zD0 B i).map fun n:Nat=>[i64 (n:Int)]))]) (fun i=>1≤i) 1 (zj [] ?_ ?_) (by omega) (Nat.le_refl _) ?_
 ·try simp only[go_sem]
  try rfl
 ·try simp only[go_sem]
  try rfl
 intro i vs hi hi1
 by_cases hin:i<500
 ·have hsn:=zOh B i hi1
  have hll:(zD0 B i).length≤i:=by
   have:=List.length_filter_le (fun b=>decide (1≤b)&&B.getD b false) (List.range i)
   rw[List.length_range] at this
   exact this
  have g1:decide ((i:Int)<500)=true:=decide_eq_true (by omega)
  have wi:IntKind.i64.wrap ((i:Int)+1)=((i+1:Nat):Int):=by rw[zI]<;>omega
  have hget:(List.drop i (btA B)).headD (AV.r RV.un)=AV.r (.bo (B.getD i false)):=zQw (i:=i) (d:=false) rfl (by omega)
  rw[hsn]
  generalize zD0 B i=H at *
  repeat apply zq
  refine zb fun K hK=>?_;simp only[go_sem,g1];apply hK;apply zw (zk [9,10,13,14,17,132]);simp only[go_sem]
  apply zc rfl<;>intro hc<;>(try simp only[go_sem] at hc)
  apply zx
  try simp only[go_sem]
  apply zq
  apply zd
  apply zq
  refine zb fun K hK=>?_;simp only[go_sem,ty90,hget,hbl,hBl,hin,List.length_map,Nat.mul_one,List.headD_cons]
  repeat refine⟨by omega,?_⟩
  apply hK;apply zw (zk [9,10,13,14,17,137]);simp only[go_sem]
  cases hq:B.getD i false
  ·skip
   apply zc rfl<;>intro hc<;>(try simp only[go_sem] at hc)
   apply zx
   try simp only[go_sem]
   refine zb fun K hK=>?_;simp only[go_sem,wi];apply hK
   try simp only[go_sem]
   refine⟨hin,zj [] ?_ ?_⟩
   ·try simp only[go_sem]
   ·try simp only[go_sem]
  ·skip
   apply zc rfl<;>intro hc<;>(try simp only[go_sem] at hc)
   refine zb fun K hK=>?_;simp only[go_sem,List.length_map]
   refine⟨by omega,?_⟩
   apply hK;apply zw (zk [9,10,13,14,17]);simp only[go_sem];refine zb fun K hK=>?_;simp only[go_sem,wi];apply hK
   try simp only[go_sem]
   try simp only[if_true,List.length_append,List.length_cons,List.length_nil,List.map_append,List.map_cons,List.map_nil]
   refine⟨hin,zj [] ?_ ?_⟩
   ·try simp only[go_sem]
   ·try simp only[go_sem]
 have hie:i=500:=by omega
 subst hie
 repeat apply zq
 refine zb fun K hK=>?_;simp only[go_sem];apply hK;apply zw (zk [9,10,14,132]);simp only[go_sem]
 apply zc rfl<;>intro hc<;>(try simp only[go_sem] at hc)
 apply zf;simp only[go_sem];refine zw (zEW (ty:=84) (sz:=1) (off:=0) (m:=(zD0 B 500).length) (es:=(zD0 B 500).map fun n:Nat=>[i64 (n:Int)]) 14 556 (by omega) rfl (by rfl) (by simp)) ?_
 have tk2:(zD0 B 500).map (fun n:Nat=>[i64 (n:Int)])=bs.map fun n:Int=>[i64 n]:=by rw[hbsE,List.map_map];rfl
 try simp only[go_sem]
 try rw[List.take_of_length_le (by simp)]
 rw[tk2]
 apply zq
 refine zb fun K hK=>?_;simp only[go_sem]
 refine zh (hnv2) rfl (by simp only[go_sem,i64,ints]) (by simp only[go_sem,i64,ints]) ?_
 (try simp only[go_sem]);apply hK;apply zw (zk [10,12,14,18]);simp only[go_sem]
 apply zq
 refine zb fun K hK=>?_;simp only[go_sem]
 refine zh (htb2) rfl (by simp only[go_sem,i64,ints]) (by simp only[go_sem,i64,ints]) ?_
 (try simp only[go_sem]);apply hK;apply zw (zk [10,12,14,18,20,21]);simp only[go_sem]
 repeat apply zq
 refine zb fun K hK=>?_;simp only[go_sem,z0,lU,lL,ws,zl,zl2,List.length_map]
 (try intros)
 apply hK;apply zw (zk [10,14,18,20,166]);simp only[go_sem]
 apply zc rfl<;>intro hc<;>(try simp only[go_sem] at hc)
 apply zx
 try simp only[go_sem]
 apply zq
 refine zb fun K hK=>?_;simp only[go_sem,ws,List.length_map]
 refine⟨by omega,?_⟩
 apply hK;apply zw (zk [10,14,18,20,22]);simp only[go_sem]
 repeat apply zq
 refine zb fun K hK=>?_;simp only[go_sem];apply hK;apply zw (zk [10,14,18,20,22,23]);simp only[go_sem];apply zd
 refine zuv (n:=256) (st+1) (fun s vs=>[(10,.r (.rp [i64 20,zAl LA,i64 (st:Int),i64 (g:Int)])),(14,.r (ints bs)),(18,.r (ints (Nf cnt))),(20,.r (ints L)),(22,.os 170 (vs 170) 1 0 (st+1)),(23,.r (i64 (s:Int)))])
  (fun s vs=>[(170,.arr 3 1 (arrV (zEi st s)))]) (fun i=>1≤i) 1 (zj [13] ?_ ?_) (by omega) (Nat.le_refl _) ?_
 ·try simp only[go_sem]
  try rfl
 ·try simp only[go_sem]
  rw[zQd,List.replicate_succ]
  try simp
 intro s vs hs hs1
 by_cases hss:s≤st
 ·have e1:decide ((s:Int)≤(st:Int))=true:=decide_eq_true (by omega)
  have wl:IntKind.i64.wrap ((s:Int)+1)=((s+1:Nat):Int):=by rw[zI]<;>omega
  have hfl:=zG5 st s
  rw[← zQc st s hs1 hss]
  generalize zEi st s=D at *
  have hsD:s<D.length:=by omega
  have hset:∀ v:Int,(arrV D).set s [i64 v]=arrV (D.set s v):=fun v=>(zEO D s v).symm
  have hst1:s<st+1:=by omega
  obtain⟨x,hx⟩:=zol hsD
  repeat apply zq
  refine zb fun K hK=>?_;simp only[go_sem,e1];apply hK;apply zw (zk [10,14,18,20,22,23,174]);simp only[go_sem]
  apply zc rfl<;>intro hc<;>(try simp only[go_sem] at hc)
  rotate_left
  ·exact absurd hss hc
  apply zx
  try simp only[go_sem]
  apply zq
  apply zd;refine zb fun K hK=>?_;simp only[go_sem,hx,hsD,hst1,hfl,List.length_map]
  refine⟨by omega,?_⟩
  apply hK;apply zw (zk [10,14,18,20,22,23]);simp only[go_sem];refine zb fun K hK=>?_;simp only[go_sem,wl];apply hK
  try simp only[go_sem]
  refine⟨by omega,zj [] ?_ ?_⟩
  ·try simp only[go_sem]
  ·try simp only[go_sem]
   try rw[hset]
 have hse:s=st+1:=by omega
 subst hse
 have e1:decide (((st+1:Nat):Int)≤(st:Int))=false:=decide_eq_false (by omega)
 repeat apply zq
 refine zb fun K hK=>?_;simp only[go_sem,e1];apply hK;apply zw (zk [10,14,18,20,22,174]);simp only[go_sem]
 apply zc rfl<;>intro hc<;>(try simp only[go_sem] at hc)
 ·exact absurd hc (by omega)
 apply zf;simp only[go_sem]
 have hfe2:=zQe st
 have hfl:=zG5 st (st+1)
 generalize zEi st (st+1)=D at *
 generalize hFA:fewA (g:Int) bs st=F at *
 apply zq
 refine zaj (n:=256) (fun (_:Unit) vs=>[(10,.r (.rp [i64 20,zAl LA,i64 (st:Int),i64 (g:Int)])),(18,.r (ints (Nf cnt))),(20,.r (ints L)),(22,.r (ints F))]) (fun _=>[]) (fun _=>True) (fun _ h=>h) ?_ ?_
 ·refine zw (zEW (ty:=3) (sz:=1) (off:=0) (m:=st+1) (es:=arrV D) 22 170 (by omega) rfl (by rfl) (by simp [hfl])) ?_
  have tk3:List.take (st+1) (arrV D)=arrV D:=List.take_of_length_le (by simp [hfl])
  try simp only[go_sem]
  try rw[tk3]
  by_cases hbn:bs=[]
  ·have hFD:F=D:=by
    rw[← hFA,hfe2]
    unfold fewA
    rw[if_pos hbn]
   rw[hFD,hbn]
   apply zq
   refine zb fun K hK=>?_;simp only[go_sem];apply hK;apply zw (zk [10,14,18,20,22,182]);simp only[go_sem]
   apply zc rfl<;>intro hc<;>(try simp only[go_sem] at hc)
   apply zx
   try simp only[go_sem]
   refine⟨(),zfo [] ?_ ?_⟩
   ·try simp only[go_sem]
   ·try simp only[go_sem]
  ·have hbp:(0:Int)<(bs.length:Int):=by have:=List.length_pos_iff.2 hbn;omega
   have hFD:fewO (g:Int) bs st=F:=by
    rw[← hFA]
    unfold fewA
    rw[if_neg hbn]
   have hfe3:=hfe hbn
   rw[hFD] at hfe3
   have c1:decide ((0:Int)<(bs.length:Int))=true:=decide_eq_true hbp
   apply zq
   refine zb fun K hK=>?_;simp only[go_sem,c1,hbp,hbn,List.length_map]
   intro _
   apply hK;apply zw (zk [10,14,18,20,22,182]);simp only[go_sem]
   apply zc rfl<;>intro hc<;>(try simp only[go_sem] at hc)
   apply zq
   refine zb fun K hK=>?_;simp only[go_sem]
   refine zh (hfe3) rfl (by simp only[go_sem,i64,ints]) (by simp only[go_sem,i64,ints]) ?_
   (try simp only[go_sem]);apply hK;apply zw (zk [10,12,18,20,22]);simp only[go_sem]
   apply zq
   refine zb fun K hK=>?_;simp only[go_sem,z0,hF,ws,zl,zl2,List.length_map]
   (try intros)
   apply hK;apply zw (zk [10,18,20,22,202]);simp only[go_sem]
   apply zc rfl<;>intro hc<;>(try simp only[go_sem] at hc)
   apply zx
   try simp only[go_sem]
   refine⟨(),zfo [] ?_ ?_⟩
   ·try simp only[go_sem]
   ·try simp only[go_sem]
 intro _ vs _
 apply zq
 refine zb fun K hK=>?_;simp only[go_sem];apply hK;apply zw (zk [10,18,20,22,24]);simp only[go_sem]
 repeat apply zq
 refine zb fun K hK=>?_;simp only[go_sem]
 refine zh (hlow) rfl (by simp only[go_sem,i64,ints]) (by simp only[go_sem,i64,ints]) ?_
 (try simp only[go_sem]);apply hK;apply zw (zk [10,18,20,22,24,25]);simp only[go_sem];apply zd
 have hNc:=hnle cnt
 refine zup (n:=256) cnt (fun i vs=>[(10,.r (.rp [i64 20,zAl LA,i64 (st:Int),i64 (g:Int)])),(18,.r (ints (Nf cnt))),(20,.r (ints L)),(22,.r (ints F)),(24,.r (i64 ((Nf i).length:Int))),(25,.r (i64 ((base+i:Nat):Int)))])
  (fun i=>[]) (fun _=>True) 0 (zfo [] ?_ ?_) (Nat.zero_le _) trivial ?_
 ·try simp only[go_sem]
  rw[hn0,← hbase]
  exact⟨rfl,rfl⟩
 ·try simp only[go_sem]
 intro i vs hi _
 obtain⟨s,hs⟩:∃ s,s=base+i:=⟨_,rfl⟩
 have hnx:base+(i+1)=s+1:=by omega
 rw[hnx,← hs]
 have hni:=hnle i
 by_cases hic:i<cnt
 rotate_left
 ·have hie:i=cnt:=by omega
  subst hie
  have e1:decide ((s:Int)≤(st:Int))=false:=decide_eq_false (by omega)
  have e2:(((Nf i).length:Int) == ((Nf i).length:Int))=true:=by simp
  repeat apply zq
  refine zb fun K hK=>?_;simp only[go_sem,e1];apply hK;apply zw (zk [10,18,20,22,24,25,209]);simp only[go_sem]
  apply zc rfl<;>intro hc<;>(try simp only[go_sem] at hc)
  ·exact absurd hc (by omega)
  apply zf;simp only[go_sem]
  apply zq
  refine zb fun K hK=>?_;simp only[go_sem,e2,List.length_map]
  intro _
  refine zh (hk1) rfl (by simp only[go_sem,i64,ints,e2,List.length_map]) (by simp only[go_sem,i64,ints,e2,List.length_map]) ?_
  (try simp only[go_sem,e2,List.length_map])
  refine zh (hk2) rfl (by simp only[go_sem,i64,ints,e2,List.length_map]) (by simp only[go_sem,i64,ints,e2,List.length_map]) ?_
  (try simp only[go_sem,e2,List.length_map])
  refine zh (hk3) rfl (by simp only[go_sem,i64,ints,e2,List.length_map]) (by simp only[go_sem,i64,ints,e2,List.length_map]) ?_
  (try simp only[go_sem,e2,List.length_map]);apply hK;apply zw (zk [6]);simp only[go_sem];apply ze;simp only[go_sem]
 have hss:s≤st:=by omega
 have e1:decide ((s:Int)≤(st:Int))=true:=decide_eq_true (by omega)
 have ws1:IntKind.i64.wrap ((s:Int)+1)=((s+1:Nat):Int):=by rw[zI]<;>omega
 have hsF:s<F.length:=by omega
 have hsU:s<U.length:=by omega
 have hsL:s<L.length:=by omega
 obtain⟨f,hf⟩:=zol hsF
 obtain⟨u,hu⟩:=zol hsU
 obtain⟨v,hv⟩:=zol hsL
 have gf:F.getD s 0=f:=by simp [List.getD,hf]
 have gu:U.getD s 0=u:=by simp [List.getD,hu]
 have gv:L.getD s 0=v:=by simp [List.getD,hv]
 have hd:=hsf s (by omega) hss
 have hna:=hnat i hic
 have hno:=fun q y=>hnno i hic q (y:=y)
 have hns:=hnsu i
 rw[← hs,gu] at hna hns hno
 rw[gf,gu,gv] at hd
 repeat apply zq
 refine zb fun K hK=>?_;simp only[go_sem,e1];apply hK;apply zw (zk [10,18,20,22,24,25,209]);simp only[go_sem]
 apply zc rfl<;>intro hc<;>(try simp only[go_sem] at hc)
 rotate_left
 ·exact absurd hss hc
 apply zx
 try simp only[go_sem]
 apply zq
 apply zd
 by_cases hq:u=2000000000
 ·have hnn:=hna hq
  rw[if_pos hq] at hns
  have hnl:(Nf (i+1)).length=(Nf i).length+1:=by rw[hns];simp
  have hlt:(Nf i).length<(Nf cnt).length:=(List.getElem?_eq_some_iff.1 hnn).1
  rw[← hbase] at hnn
  have hnn2:(Nf cnt)[(Nf i).length]? = some (s:Int):=by rw[hnn];congr 1;omega
  have e2:((s:Int) == (s:Int))=true:=by simp
  have e4:decide (((Nf i).length:Int)<((Nf cnt).length:Int))=true:=decide_eq_true (by omega)
  have wa:IntKind.i64.wrap (((Nf i).length:Int)+1)=((Nf i).length:Int)+1:=by rw[zI]<;>omega
  rw[hnl]
  apply zq
  refine zb fun K hK=>?_;simp only[go_sem,hnn2,hlt,e2,e4,List.length_map]
  (try intros)
  apply hK;apply zw (zk [10,18,20,22,24,25,26]);simp only[go_sem]
  repeat apply zq
  refine zb fun K hK=>?_;simp only[go_sem];apply hK;apply zw (zk [10,18,20,22,24,25,26,224]);simp only[go_sem]
  apply zc rfl<;>intro hc<;>(try simp only[go_sem] at hc)
  refine zb fun K hK=>?_;simp only[go_sem,wa];apply hK;apply zw (zk [10,18,20,22,24,25,26]);simp only[go_sem]
  by_cases hf0:f<0
  ·have e3:(v != 1000000000)=false:=by rw[(hd hf0).2];rfl
   have c1:decide (f<0)=true:=decide_eq_true hf0
   apply zq
   refine zb fun K hK=>?_;simp only[go_sem,hf,hsF,c1,hv,hsL,e3,List.length_map]
   (try intros)
   apply hK;apply zw (zk [10,18,20,22,24,25,242]);simp only[go_sem]
   apply zc rfl<;>intro hc<;>(try simp only[go_sem] at hc)
   apply zx
   try simp only[go_sem]
   refine zb fun K hK=>?_;simp only[go_sem,ws1];apply hK
   try simp only[go_sem]
   refine⟨hic,zfo [] ?_ ?_⟩
   ·try simp only[go_sem]
    try simp
   ·try simp only[go_sem]
  ·have c1:decide (f<0)=false:=decide_eq_false hf0
   apply zq
   refine zb fun K hK=>?_;simp only[go_sem,hf,hsF,c1,List.length_map]
   (try intros)
   apply hK;apply zw (zk [10,18,20,22,24,25,242]);simp only[go_sem]
   apply zc rfl<;>intro hc<;>(try simp only[go_sem] at hc)
   apply zx
   try simp only[go_sem]
   refine zb fun K hK=>?_;simp only[go_sem,ws1];apply hK
   try simp only[go_sem]
   refine⟨hic,zfo [] ?_ ?_⟩
   ·try simp only[go_sem]
    try simp
   ·try simp only[go_sem]
 ·rw[if_neg hq] at hns
  rw[hns]
  have hf0:¬ f<0:=fun h=>hq (hd h).1
  have c1:decide (f<0)=false:=decide_eq_false hf0
  apply zq
  refine zaj (n:=256) (fun (_:Unit) vs=>[(10,.r (.rp [i64 20,zAl LA,i64 (st:Int),i64 (g:Int)])),(18,.r (ints (Nf cnt))),(20,.r (ints L)),(22,.r (ints F)),(24,.r (i64 ((Nf i).length:Int))),(25,.r (i64 (s:Int))),(26,.r (.bo false))]) (fun _=>[]) (fun _=>True) (fun _ h=>h) ?_ ?_
  ·by_cases hlt:(Nf i).length<(Nf cnt).length
   ·obtain⟨y,hy⟩:=zol hlt
    have hys:=hno hq y hy
    have e2:(y == (s:Int))=false:=by rw[beq_eq_false_iff_ne];omega
    have e4:decide (((Nf i).length:Int)<((Nf cnt).length:Int))=true:=decide_eq_true (by omega)
    refine zb fun K hK=>?_;simp only[go_sem,hy,hlt,e2,e4,List.length_map]
    (try intros)
    apply hK;exact⟨(),trivial,zfo [] (by try simp only[go_sem];try rfl) (by try simp only[go_sem])⟩
   ·have e4:decide (((Nf i).length:Int)<((Nf cnt).length:Int))=false:=decide_eq_false (by omega)
    refine zb fun K hK=>?_;simp only[go_sem,hlt,e4,List.length_map]
    (try intros)
    apply hK;exact⟨(),trivial,zfo [] (by try simp only[go_sem];try rfl) (by try simp only[go_sem])⟩
  intro _ vs _
  repeat apply zq
  refine zb fun K hK=>?_;simp only[go_sem];apply hK;apply zw (zk [10,18,20,22,24,25,26,224]);simp only[go_sem]
  apply zc rfl<;>intro hc<;>(try simp only[go_sem] at hc)
  apply zx
  try simp only[go_sem]
  apply zq
  refine zb fun K hK=>?_;simp only[go_sem,hf,hsF,c1,List.length_map]
  (try intros)
  apply hK;apply zw (zk [10,18,20,22,24,25,242]);simp only[go_sem]
  apply zc rfl<;>intro hc<;>(try simp only[go_sem] at hc)
  apply zx
  try simp only[go_sem]
  refine zb fun K hK=>?_;simp only[go_sem,ws1];apply hK
  try simp only[go_sem]
  refine⟨hic,zfo [] ?_ ?_⟩
  ·try simp only[go_sem]
   try simp
  ·try simp only[go_sem]
end Go.Proofs.YtgfbenanljjgaaaGreat.Du.Th.Ai

namespace Go.Oc
open Go Go.RowKit Go.ChangeShapes Go.WideShapes
inductive Sh where
 | int (k:IntKind)
 | bool
 | sl (es:List Sh)
def zFL (P:Program) (sh:TypeId→Option (List Sh)):List Field→Nat→Option (List Sh)
 | [],_=>some []
 | f::fs, o =>
   match sh f.type with
   | some ss=>if f.offset == o&&ss.length == P.cellsOf f.type then match zFL P sh fs (o+ss.length) with|some q=>some (ss++q)|none=>none else none
   | none=>none
def shape (P:Program):Nat→TypeId→Option (List Sh)
 | 0,_=>none
 | n+1, t =>
   match P.underlying t with
   | some (.int k)=>some [.int k]
   | some .bool=>some [.bool]
   | some (.slice e) =>
     match shape P n e with
     | some ss=>if ss.length == P.cellsOf e&&decide (0<ss.length) then some [.sl ss] else none
     | none=>none
   | some (.array m e) =>
     match shape P n e with
     | some ss=>if ss.length == P.cellsOf e&&P.cellsOf t == m*ss.length then some (List.replicate m ss).flatten else none
     | none=>none
   | some (.struct fs) =>
     match zFL P (shape P n) fs.toList 0 with
     | some ss=>if ss.length == P.cellsOf t then some ss else none
     | none=>none
   | _=>none
mutual
def Fits:Sh→RV→Prop
 | .int k,x=>∃ n,x = .it k n∧(Lit.int k n).wf=true
 | .bool,x=>∃ b,x = .bo b
 | .sl ss,x=>∃ es,x = .sl ss.length es∧zHg ss es
def zB1:List Sh→List RV→Prop
 | [],xs=>xs=[]
 | s::ss,xs=>∃ y ys,xs=y::ys∧Fits s y∧zB1 ss ys
def zHg (ss:List Sh):List (List RV)→Prop
 | []=>True
 | e::es=>zB1 ss e∧zHg ss es
end
theorem zF6:∀ {s1 s2:List Sh}{x1 x2:List RV},zB1 s1 x1→zB1 s2 x2→zB1 (s1++s2) (x1++x2)
 | [],_,_,_,h1,h2=>by simp only[zB1] at h1;subst h1;simpa using h2
 | s::ss, s2, x1, x2, h1, h2=>by
   simp only[zB1] at h1
   obtain⟨y,ys,rfl,h3,h4⟩:=h1
   simp only[List.cons_append,zB1];exact⟨y,_,rfl,h3,zF6 h4 h2⟩
theorem zF5:∀ {ss:List Sh}{xs:List RV},zB1 ss xs→xs.length=ss.length
 | [],_,h=>by simp only[zB1] at h;subst h;rfl
 | s::ss, _, h=>by
   simp only[zB1] at h
   obtain⟨y,ys,rfl,_,h⟩:=h
   simp [zF5 h]
theorem zNX:∀ {ss:List Sh}{es:List (List RV)},(∀ e∈es,zB1 ss e)→zHg ss es
 | _,[],_=>by simp only[zHg]
 | ss,e::es,h=>by simp only[zHg];exact⟨h e (by simp),zNX fun x hx=>h x (by simp [hx])⟩
theorem choice {α:Type}{Q:Nat→α→Prop}:∀ (n:Nat),(∀ i,i<n→∃ x,Q i x)→∃ xs:List α,xs.length=n∧∀ i x,xs[i]? = some x→Q i x
 | 0,_=>⟨[],rfl,by simp⟩
 | n+1, h=>by
   obtain⟨xs,hl,hx⟩:=choice n fun i hi=>h i (by omega)
   obtain⟨y,hy⟩:=h n (by omega)
   refine⟨xs++[y],by simp [hl],fun i x hi=>?_⟩
   by_cases h1:i<n
   ·rw[List.getElem?_append_left (by omega)] at hi;exact hx i x hi
   ·rw[List.getElem?_append_right (by omega)] at hi
    have:i=n:=by have:=(List.getElem?_eq_some_iff.1 hi).1;simp at this;omega
    subst this
    simp [hl] at hi
    exact hi▸hy
section
variable {w:World}{P:Program}
theorem zO0 {base n:Nat}{a:Addr}{cs:List Value}(h:w.cells? base a n=some cs):cs.length=n∧∀ i,i<n→w.cell? (a.add i)=cs[i]?:=by
 unfold World.cells? at h
 split at h
 ·exact⟨by simpa using mapM_some_length h,fun i hi=>mapM_some_get h i i (by simp [hi])⟩
 ·cases h
theorem cell_lt {a:Addr}{v:Value}(h:w.cell? a=some v):a.block<w.heap.size:=by
 refine Decidable.byContradiction fun hn=>?_
 have:w.heap[a.block]? = none:=by simp;omega
 simp [World.cell?,this] at h
def old (w:World):Nat→Prop:=fun b=>b<w.heap.size
theorem zIh {xs:List RV}{cs:List Value}{ad:Addr}(hV:RV.relV w (old w) xs cs) (hone:∀ u∈cs,u.oneCell'=true) (hc:∀ i,i<cs.length→w.cell? (ad.add i)=cs[i]?):RV.relC w (old w) xs ad 0:=by
 refine RV.relC_of_get fun i x hx=>?_
 obtain⟨u,hu,hr⟩:=RV.relV_get hV hx
 have hi:=(List.getElem?_eq_some_iff.1 hu).1
 refine⟨u,?_,hone u (List.mem_of_getElem? hu),hr⟩
 rw[Nat.zero_add,hc i hi,hu]
variable {H:Type}{enc:TypeId × Value→H}{base:Nat}{spare:Nat→Bool}{held:Bool}
def zPG (w:World) (ss:List Sh) (cs:List Value):Prop:=∃ xs,zB1 ss xs∧RV.relV w (old w) xs cs∧∀ u∈cs,u.oneCell'=true
theorem zF4 {s1 s2:List Sh}{c1 c2:List Value}(h1:zPG w s1 c1) (h2:zPG w s2 c2):zPG w (s1++s2) (c1++c2):=by
 obtain⟨x1,f1,r1,o1⟩:=h1
 obtain⟨x2,f2,r2,o2⟩:=h2
 refine⟨x1++x2,zF6 f1 f2,RV.relV_append r1 r2,fun u hu=>?_⟩
 rcases List.mem_append.1 hu with hu|hu
 ·exact o1 u hu
 ·exact o2 u hu
theorem zPU:∀ (fuel n:Nat) (t:TypeId) (cs:List Value) (x:DataW H × List MemPlace) (ss:List Sh),DataW.trod enc P w base spare held fuel t cs=some x→shape P n t=some ss→zPG w ss cs:=by
 intro fuel
 induction fuel with
 | zero=>intro n t cs x ss h;simp [DataW.trod] at h
 | succ fuel ih =>
   intro n t cs x ss h hs
   cases n with
   | zero=>simp [shape] at hs
   | succ n =>
     unfold shape at hs
     split at hs
     ·rename_i k ht
      injection hs with hs;subst hs
      obtain⟨m,rfl,_,hw⟩:=DataW.trod_int ht h
      exact⟨[.it k m],by simp only[zB1,Fits];exact⟨_,[],rfl,⟨m,rfl,hw⟩,rfl⟩,by simp only[RV.relV,RV.rel];exact⟨_,[],rfl,rfl,rfl⟩,by simp [Value.oneCell']⟩
     ·rename_i ht
      injection hs with hs;subst hs
      obtain⟨b,rfl,_⟩:=DataW.trod_bool ht h
      exact⟨[.bo b],by simp only[zB1,Fits];exact⟨_,[],rfl,⟨b,rfl⟩,rfl⟩,by simp only[RV.relV,RV.rel];exact⟨_,[],rfl,rfl,rfl⟩,by simp [Value.oneCell']⟩
     ·rename_i e ht
      split at hs
      ·rename_i es hes
       split at hs
       ·rename_i hc
        simp only[Bool.and_eq_true,beq_iff_eq,decide_eq_true_eq] at hc
        injection hs with hs;subst hs
        rcases DataW.trod_slice ht h with⟨rfl,_⟩|⟨a,len,cap,elems,rest,m,hm,rfl,_,_,hlc,hcm,hel,hget,_⟩
        ·refine⟨[.sl es.length []],?_,?_,by simp [Value.oneCell']⟩
         ·simp only[zB1,Fits];exact⟨_,[],rfl,⟨[],rfl,by simp only[zHg]⟩,rfl⟩
         ·simp only[RV.relV,RV.rel];exact⟨_,[],rfl,⟨none,0,rfl,Nat.le_refl _,Nat.zero_le _,fun h=>absurd rfl h⟩,rfl⟩
        ·injection hm with hm;subst hm
         have hall:∀ i,i<len→∃ e',zB1 es e'∧e'.length=es.length∧RV.relC w (old w) e' (a.add (i*es.length)) 0∧a.block<w.heap.size:=fun i hi=>by
          have h1:=hget i hi
          have h2:i<elems.length:=by omega
          rw[List.getElem?_eq_getElem h2] at h1
          obtain⟨ci,hci,htr⟩:=Option.bind_eq_some_iff.1 h1
          rw[← hc.1] at hci
          obtain⟨hl,hcell⟩:=zO0 hci
          obtain⟨xs,f,r,o⟩:=ih n e ci _ es htr hes
          refine⟨xs,f,zF5 f,zIh r o (fun j hj=>hcell j (by omega)),?_⟩
          have h3:=hcell 0 hc.2
          have h4:0<ci.length:=by omega
          rw[List.getElem?_eq_getElem h4] at h3
          have:=cell_lt h3
          rwa [block_add,block_add] at this
         obtain⟨els,hlen,hels⟩:=choice len hall
         refine⟨[.sl es.length els],?_,?_,by simp [Value.oneCell']⟩
         ·simp only[zB1,Fits]
          refine⟨_,[],rfl,⟨els,rfl,zNX fun e' he'=>?_⟩,rfl⟩
          obtain⟨i,hi⟩:=List.getElem?_of_mem he'
          exact (hels i e' hi).1
         ·simp only[RV.relV,RV.rel]
          refine⟨_,[],rfl,⟨some a,cap,by rw[hlen],by omega,hcm,fun hne=>?_⟩,rfl⟩
          obtain⟨e0,he0⟩:∃ e0,els[0]? = some e0:=by
           cases els with
           | nil=>exact absurd rfl hne
           | cons a l=>exact⟨a,rfl⟩
          refine⟨a,rfl,(hels 0 e0 he0).2.2.2,RV.relE_of_get fun i e' he'=>?_⟩
          obtain⟨_,q1,q2,_⟩:=hels i e' he'
          exact⟨q1,RV.relC_unbase _ q2⟩
       ·cases hs
      ·cases hs
     ·rename_i m e ht
      split at hs
      ·rename_i es hes
       split at hs
       ·rename_i hc
        simp only[Bool.and_eq_true,beq_iff_eq] at hc
        injection hs with hs;subst hs
        obtain⟨xs,fm,hm,_,hcl,hxl,hget⟩:=DataW.trod_array ht h
        injection hm with hm;subst hm
        have key:∀ j,j≤m→zPG w (List.replicate j es).flatten (cs.take (j*es.length)):=by
         intro j
         induction j with
         | zero=>intro _;exact⟨[],by simp [zB1],by simp [RV.relV],by simp⟩
         | succ j ihj =>
           intro hj
           have h1:=hget j (by omega)
           have h2:j<xs.length:=by omega
           rw[List.getElem?_eq_getElem h2,← hc.1] at h1
           have h3:=ih n e _ _ es h1 hes
           have:=zF4 (ihj (by omega)) h3
           rw[← List.take_add] at this
           rw[List.replicate_succ',List.flatten_append,Nat.add_mul]
           simpa using this
        have:=key m (Nat.le_refl _)
        rwa [← hc.2,← hcl,List.take_length] at this
       ·cases hs
      ·cases hs
     ·rename_i fs ht
      split at hs
      ·rename_i q hq
       split at hs
       ·rename_i hc
        simp only[beq_iff_eq] at hc
        injection hs with hs;subst hs
        obtain⟨xs,fm,hm,_,hcl,hxl,hget⟩:=DataW.trod_struct ht h
        injection hm with hm;subst hm
        have key:∀ (l:List Field) (o:Nat) (q:List Sh),(∀ f∈l,∃ y,DataW.trod enc P w base spare held fuel f.type ((cs.drop f.offset).take (P.cellsOf f.type))=some y)→zFL P (shape P n) l o=some q→zPG w q ((cs.drop o).take q.length):=by
         intro l
         induction l with
         | nil =>
           intro o q _ hq
           simp only[zFL,Option.some.injEq] at hq
           subst hq
           exact⟨[],by simp [zB1],by simp [RV.relV],by simp⟩
         | cons f l ihl =>
           intro o q hall hq
           simp only[zFL] at hq
           split at hq
           ·rename_i s1 hs1
            split at hq
            ·rename_i hc1
             simp only[Bool.and_eq_true,beq_iff_eq] at hc1
             split at hq
             ·rename_i q2 hq2
              injection hq with hq;subst hq
              obtain⟨y,hy⟩:=hall f (by simp)
              have g1:=ih n f.type _ _ s1 hy hs1
              have g2:=ihl (o+s1.length) q2 (fun f' hf'=>hall f' (by simp [hf'])) hq2
              rw[hc1.1,← hc1.2] at g1
              have:=zF4 g1 g2
              rw[← List.drop_drop,← List.take_add] at this
              simpa using this
             ·cases hq
            ·cases hq
           ·cases hq
        have:=key fs.toList 0 q (fun f hf=>by
         obtain⟨i,hi⟩:=List.getElem?_of_mem hf
         have hi':fs[i]? = some f:=by simpa using hi
         have h1:=hget i f hi'
         have h2:i<xs.length:=by have:=(Array.getElem?_eq_some_iff.1 hi').1;omega
         exact⟨xs[i],by rw[h1];exact List.getElem?_eq_getElem h2⟩) hq
        rwa [List.drop_zero,hc,← hcl,List.take_length] at this
       ·cases hs
      ·cases hs
     ·cases hs
def zHf (P:Program) (n:Nat) (t:TypeId) (x:RV):Prop:=∃ ss,shape P n t=some ss∧if zCr P t then ∃ xs,x = .ag xs∧zB1 ss xs else zB1 ss [x]
theorem zJM {n:Nat}{t:TypeId}{v:Value}{d:DataW H}{ps:List MemPlace}{r:Reach}{b0:Nat}(hs:(shape P n t).isSome=true) (hval:Value.okWide P w r b0 t v) (h:DataW.Trod enc P w base spare held t v d ps) :
 ∃ x,zHf P n t x∧x.rel w (old w) v:=by
 obtain⟨ss,hss⟩:=Option.isSome_iff_exists.1 hs
 obtain⟨fuel,hf⟩:=h
 obtain⟨xs,f,r,o⟩:=zPU fuel n t _ _ ss hf hss
 have one:zCr P t=false→v.cells.toList=[v]→∃ x,zHf P n t x∧x.rel w (old w) v:=fun ha hc=>by
  rw[hc] at r
  match xs,r with
  | [x], r =>
    simp only[RV.relV] at r
    obtain⟨u,us,e,hr,_⟩:=r
    injection e with e1 e2
    subst e1
    exact⟨x,⟨ss,hss,by rw[ha];exact f⟩,hr⟩
  | [],r=>simp [RV.relV] at r
  | _::_::_, r =>
    simp only[RV.relV] at r
    obtain⟨u,us,e,_,u2,us2,e2,_⟩:=r
    injection e with _ e
    rw[e2] at e;cases e
 cases n with
 | zero=>simp [shape] at hss
 | succ n =>
   have hss':=hss
   unfold shape at hss'
   split at hss'
   ·rename_i k ht
    obtain⟨m,rfl⟩:=okWide_int ht hval
    exact one (by simp [zCr,ht]) rfl
   ·rename_i ht
    obtain⟨b,rfl⟩:=okWide_bool ht hval
    exact one (by simp [zCr,ht]) rfl
   ·rename_i e ht
    obtain⟨a,l,c,rfl⟩:=okWide_slice ht hval
    exact one (by simp [zCr,ht]) rfl
   ·rename_i m e ht
    obtain⟨cs,rfl⟩:∃ cs,v = .agg cs:=by
     simp only[Value.okWide,ht] at hval
     obtain⟨cs,h1,_⟩:=hval
     exact⟨cs,h1⟩
    exact⟨.ag xs,⟨ss,hss,by simp only[zCr,ht,if_true];exact⟨xs,rfl,f⟩⟩,by simp only[RV.rel];exact⟨cs,rfl,o,r⟩⟩
   ·rename_i fs ht
    obtain⟨cs,rfl,_⟩:=okWide_struct ht hval
    exact⟨.ag xs,⟨ss,hss,by simp only[zCr,ht,if_true];exact⟨xs,rfl,f⟩⟩,by simp only[RV.rel];exact⟨cs,rfl,o,r⟩⟩
   ·cases hss'
theorem zSf {n:Nat}{t:TypeId}{x:RV}{ss:List Sh}(h:zHf P n t x) (hs:shape P n t=some ss) (ha:zCr P t=true):∃ xs,x = .ag xs∧zB1 ss xs:=by
 obtain⟨s',h1,h2⟩:=h
 rw[hs] at h1;injection h1 with h1;subst h1
 rw[ha] at h2
 exact h2
theorem zKf {n:Nat}{t:TypeId}{x:RV}{s:Sh}(h:zHf P n t x) (hs:shape P n t=some [s]) (ha:zCr P t=false):Fits s x:=by
 obtain⟨s',h1,h2⟩:=h
 rw[hs] at h1;injection h1 with h1;subst h1
 rw[ha] at h2
 simp only[Bool.false_eq_true,if_false,zB1] at h2
 obtain⟨y,ys,e,h3,_⟩:=h2
 injection e with e1 e2
 subst e1
 exact h3
end
end Go.Oc

namespace Go.Oc
open Go Go.RowKit
theorem wf_u16 {n:Int}(h:(Lit.int .u16 n).wf=true):0≤n∧n≤65535:=by
 simp only[Lit.wf,Bool.and_eq_true,decide_eq_true_eq] at h
 have h1:IntKind.min .u16=0:=by decide
 have h2:IntKind.max .u16=65535:=by decide
 rw[h1,h2] at h
 exact h
end Go.Oc

namespace Go.Proofs.YtgfbenanljjgaaaGreat.Du.Th.Ai
open Go Go.Oc
set_option maxRecDepth 8000
theorem wfq8 {n:Int}(h:(Lit.int .u8 n).wf=true):∃ k:Nat,n=k∧k<256:=by
 simp only[Lit.wf,Bool.and_eq_true,decide_eq_true_eq] at h
 have h1:IntKind.min .u8=0:=by decide
 have h2:IntKind.max .u8=255:=by decide
 rw[h1,h2] at h
 obtain⟨k,hk⟩:=Int.eq_ofNat_of_zero_le h.1
 exact⟨k,hk,by omega⟩
theorem zKg:∀ {es:List (List RV)},zHg [.int .u16] es→∃ l:List Int,es=l.map (fun x=>[.it .u16 x])∧∀ x∈l,0≤x∧x≤65535
 | [],_=>⟨[],rfl,by simp⟩
 | e::es, h=>by
   simp only[zHg,zB1,Oc.Fits] at h
   obtain⟨⟨y,ys,rfl,⟨n,rfl,hn⟩,rfl⟩,h⟩:=h
   obtain⟨l,rfl,hl⟩:=zKg h
   refine⟨n::l,rfl,fun x hx=>?_⟩
   rcases List.mem_cons.1 hx with rfl|hx
   ·exact wf_u16 hn
   ·exact hl x hx
theorem zNW:∀ {es:List (List RV)},zHg [.int .u8] es→∃ l:List Nat,es=l.map (fun n:Nat=>[.it .u8 (n:Int)])∧∀ x∈l,x<256
 | [],_=>⟨[],rfl,by simp⟩
 | e::es, h=>by
   simp only[zHg,zB1,Oc.Fits] at h
   obtain⟨⟨y,ys,rfl,⟨n,rfl,hn⟩,rfl⟩,h⟩:=h
   obtain⟨l,rfl,hl⟩:=zNW h
   obtain⟨k,rfl,kk⟩:=wfq8 hn
   refine⟨k::l,rfl,fun x hx=>?_⟩
   rcases List.mem_cons.1 hx with rfl|hx
   ·exact kk
   ·exact hl x hx
theorem fitsQ86 {x:RV}(h:zHf Tryz.prog 9 86 x):∃ W:List Int,x=u16L W∧∀ w∈W,0≤w∧w≤65535:=by
 have:=zKf (s:=.sl [.int .u16]) h (by kernel_rfl) (by kernel_rfl)
 simp only[Oc.Fits] at this
 obtain⟨es,rfl,hes⟩:=this
 obtain⟨l,rfl,hl⟩:=zKg hes
 exact⟨l,rfl,hl⟩
theorem fitsQ87 {x:RV}(h:zHf Tryz.prog 9 87 x):∃ ch:List Nat,x=u8L ch∧∀ n∈ch,n<256:=by
 have:=zKf (s:=.sl [.int .u8]) h (by kernel_rfl) (by kernel_rfl)
 simp only[Oc.Fits] at this
 obtain⟨es,rfl,hes⟩:=this
 obtain⟨l,rfl,hl⟩:=zNW hes
 exact⟨l,rfl,hl⟩
theorem fitsQ88 {x:RV}(h:zHf Tryz.prog 9 88 x):∃ a b:Nat,x = .ag [.it .u8 (a:Int),.it .u8 (b:Int)]∧a<256∧b<256:=by
 obtain⟨xs,rfl,hx⟩:=zSf (ss:=[.int .u8,.int .u8]) h (by kernel_rfl) (by kernel_rfl)
 simp only[Oc.zB1,Oc.Fits] at hx
 obtain⟨_,_,rfl,⟨a,rfl,ha⟩,_,_,rfl,⟨b,rfl,hb⟩,rfl⟩:=hx
 obtain⟨a,rfl,ka⟩:=wfq8 ha
 obtain⟨b,rfl,kb⟩:=wfq8 hb
 exact⟨a,b,rfl,ka,kb⟩
end Go.Proofs.YtgfbenanljjgaaaGreat.Du.Th.Ai

namespace Go.Proofs.YtgfbenanljjgaaaGreat
open Go Go.Oc
theorem zWK {x0 x1 x2:RV}(h0:zHf Tryz.prog 9 86 x0) (h1:zHf Tryz.prog 9 87 x1) (h2:zHf Tryz.prog 9 88 x2):zAA Tryz.prog 8 [x0,x1,x2] (.bo true):=by
 obtain⟨W,rfl,hW⟩:=Du.Th.Ai.fitsQ86 h0
 obtain⟨ch,rfl,hC⟩:=Du.Th.Ai.fitsQ87 h1
 obtain⟨a,b,rfl,ka,kb⟩:=Du.Th.Ai.fitsQ88 h2
 exact Du.Th.Ai.law_neverout W hW ch hC a b ka kb
end Go.Proofs.YtgfbenanljjgaaaGreat


namespace Go.Proofs.YtgfbenanljjgaaaGreat
open Go Go.Oc Go.ChangeShapes Go.WideShapes Go.RowKit
theorem own:ownKnob Tryz.prog.godebug=none:=by kernel_rfl
theorem laidOut:laidOutB Tryz.prog=true:=by kernel_rfl
set_option maxRecDepth 100000 in
theorem lifted (os:Os) (started:os.Started) (H:Type) (enc:TypeId × Value→H) :
 ReturnsInHanded {} Tryz.checked os 8 .any (Rows.topNeverOutSpec.pre6 enc Tryz.prog Tryz.f8 Rows.topNeverOutRow.domain false) (Rows.topNeverOutSpec.post enc Tryz.prog Tryz.f8 false true false false):=by
 refine returnsInHanded_of_change (C:=Tryz.checked) own started (by kernel_rfl) Tryz.func8
  (ChangeSpec.witness6 (enc:=enc) (C:=Tryz.checked) false ⟨#[], #[.slice none 0 0, .slice none 0 0, .agg #[.int .u8 0, .int .u8 0]], []⟩ 8 (by kernel_rfl) (by kernel_rfl) (by kernel_rfl) (by kernel_rfl)) ?_
 intro W base args ds gs before hval0 hW hcnd _
 have hval:∀ (j:Nat) t v, Tryz.f8.params[j]? = some t→args[j]? = some v→Value.okWide Tryz.prog W .any base t v:=hval0
 have hW':=hW
 obtain⟨p, q, hA0, hV, rfl, hfz, hnd⟩:=hW
 have hA:DataW.TrodAll enc Tryz.prog W 0 (fun _=>true) true Tryz.f8.params.toList args.toList ds p:=hA0
 rw[Tryz.params8] at hA hval
 obtain⟨v0, vs0, d0, ds0, p0, q0, hargs, rfl, rfl, h0, r0⟩:=trodAll_cons hA
 obtain⟨v1, vs1, d1, ds1, p1, q1, rfl, rfl, rfl, h1, r1⟩:=trodAll_cons r0
 obtain⟨v2, vs2, d2, ds2, p2, q2, rfl, rfl, rfl, h2, r2⟩:=trodAll_cons r1
 obtain⟨rfl, rfl, rfl⟩:=trodAll_nil r2
 obtain rfl:args = #[v0, v1, v2]:=by cases args;simp_all
 obtain⟨rfl, rfl⟩:=trodVars_none hV
 have lt0:∀ x∈p0, x.block<W.heap.size:=by obtain⟨m, hm⟩:=h0;exact DataW.trod_lt m _ _ _ hm
 have lt1:∀ x∈p1, x.block<W.heap.size:=by obtain⟨m, hm⟩:=h1;exact DataW.trod_lt m _ _ _ hm
 have lt2:∀ x∈p2, x.block<W.heap.size:=by obtain⟨m, hm⟩:=h2;exact DataW.trod_lt m _ _ _ hm
 obtain⟨x0, g0, e0⟩:=zJM (n:=9) (by kernel_rfl) (hval 0 86 v0 rfl rfl) h0
 obtain⟨x1, g1, e1⟩:=zJM (n:=9) (by kernel_rfl) (hval 1 87 v1 rfl rfl) h1
 obtain⟨x2, g2, e2⟩:=zJM (n:=9) (by kernel_rfl) (hval 2 88 v2 rfl rfl) h2
 clear hA0 hval0
 refine ((zWK g0 g1 g2).2 W (old W) #[v0, v1, v2] (fun _ h=>h) (by simp only[RV.relV];exact⟨_, _, rfl, e0, _, _, rfl, e1, _, _, rfl, e2, rfl⟩)).mono fun e W' he => ?_
 obtain⟨v, R', rfl, bel, _, _, _, hr⟩:=he
 simp only[RV.rel] at hr
 subst hr
 exact⟨_, rfl, _, _, _, [], _, [], hW', trodAll_mk1 (shut_bool Tryz.underlying4 _), (trodAll_cons_mk (Below.trod laidOut (by kernel_rfl) (of_decide_eq_true (by kernel_rfl)) h0 bel lt0) (trodAll_cons_mk (Below.trod laidOut (by kernel_rfl) (of_decide_eq_true (by kernel_rfl)) h1 bel lt1) (trodAll_cons_mk (Below.trod laidOut (by kernel_rfl) (of_decide_eq_true (by kernel_rfl)) h2 bel lt2) trodAll_mk0))), rfl, bel.frame _, fun h=>by cases h⟩
theorem over:Rows.topNeverOutRow.holds Tryz.pinned (OpenSpec.ofChange Rows.topNeverOutSpec) :=
 OpenClaim.holds_of_wide 8 Tryz.f8 rfl rfl rfl rfl rfl rfl rfl ⟨rfl, rfl, rfl, rfl, rfl⟩ rfl rfl rfl rfl rfl (by kernel_rfl) Tryz.func8 (by kernel_rfl)
  (of_decide_eq_true (by kernel_rfl)) (by unfold Func.isWrapper;first|(rw[if_pos (by decide +kernel)];kernel_rfl)|(rw[if_neg (by decide +kernel)];exact⟨rfl, rfl⟩))
  (fun os started H enc _=>lifted os started H enc)
theorem topNeverOut_holds:Rows.TopNeverOutSaid:=over
#print axioms topNeverOut_holds
end Go.Proofs.YtgfbenanljjgaaaGreat
