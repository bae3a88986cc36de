/- Part 8 of the texts of this claim. -/
import Derived.Test.YtgfbenanljjgaaaGreatVD7
set_option linter.unusedSimpArgs false
set_option linter.unusedVariables false
namespace Go.Proofs.YtgfbenanljjgaaaGreat.Du
open Go Go.Oc
set_option maxRecDepth 8000
set_option maxHeartbeats 4000000
theorem fitG_sub {n:Nat}{F:(Nat→Nat)→Bool→List (Nat × AV)}{R:(Nat→Nat)→Bool→List (Nat × RowC)}{s s':AS}(h:Sub s s') (hf:FitG n F R s'):FitG n F R s:=by
 obtain⟨vs,z,hs⟩:=hf
 exact⟨vs,z,fun C a w hw=>hs C a w (h C a w hw)⟩
theorem clipB_ok (l:List Int) (hl:l.length≤1000):ACalls Tryz.prog 145 [ints l] (if l=[] then .ns else .sx 1 (l.map fun x=>[i64 x])):=by
 refine zas (rs:=[if l=[] then .ns else .sx 1 (l.map fun x=>[i64 x])]) [.tmp 2] Tryz.func145 rfl (by kernel_rfl) Tryz.ntmps145 rfl (by simp) rfl fun C vs=>?_
 repeat apply zq
 refine zb fun K hK=>?_;simp only[go_sem];(try simp (disch:=omega) only[zI]);repeat first|intro _|refine⟨by omega,?_⟩
 apply hK;clear hK K;apply zw (zk [0]);simp only[go_sem]
 repeat apply zq
 refine awp_long ?_
 refine sops_take 5 (by kernel_rfl) fun K hK=>?_
 simp only[go_sem,List.take_succ_cons,List.take_zero,List.drop_succ_cons,List.drop_zero,List.append_eq,List.cons_append,List.nil_append];(try simp (disch:=omega) only[zI]);repeat first|intro _|refine⟨by omega,?_⟩
 refine hK _ rfl ?_
 clear hK K
 refine sops_sub (zk [3,5,7]) ?_
 simp only[go_sem]
 refine sops_gop rfl (by intro t h;injection h with h;subst h;show 8<9;decide) (by intro c h;cases h) (gop_clip rfl (s:=_) ty65 (sz:=1) (es:=l.map fun x=>[i64 x]) rfl (k1:=.i64) (k2:=.i64) (by simp only[go_sem,List.length_map]) (by simp only[go_sem,List.length_map]) ?_)
 try simp only[go_sem]
 refine sops_end (by kernel_rfl) fun K hK=>?_
 simp only[go_sem,List.drop_succ_cons,List.drop_zero,List.append_eq,List.cons_append,List.nil_append];(try simp (disch:=omega) only[zI]);repeat first|intro _|refine⟨by omega,?_⟩
 apply hK;clear hK K;apply zw (zk [2]);simp only[go_sem];apply ze;simp only[go_sem]
 by_cases h:l=[]
 ·subst h;simp
  exact leL_refl.le_refl _
 ·have:¬ (l.map fun x=>[i64 x])=[]:=by simpa using h
  simp only[if_neg h,if_neg this];exact leL_refl.le_refl _
def vI (b:Nat→Bool) (j:Nat) (v:AV):AV:=if b j then v else .r .un
def ygF (bs:List Int) (g:Int) (cs:List (List Int)) (k1 k y q x:Int) (B fi:List Int) (cl:RV) (ll:Nat) (gd:Bool) (b:Nat→Bool) (vs:Nat→Nat) (z:Bool):List (Nat × AV) :=
 [(5,.r (.rp [brdP bs g cs])),(7,.r (.rp [i64 k1])),(8,.r (.rp [ints fi])),(9,.r (.rp [.yl ll])),(10,.pt 10 (vs 10) 0),(11,.r (.rp [i64 x])),(12,.r (i64 y)),
  (23,vI b 0 (.r (brdP bs g cs))),
  (24,vI b 1 (.r (brdP bs g cs))),
  (25,vI b 2 (.r (.rp [tabR cs]))),
  (26,vI b 3 (.r (tabR cs))),
  (27,vI b 4 (.r (i64 k1))),
  (28,vI b 5 (.r (i64 k))),
  (29,vI b 6 (.r (.rp [ints B]))),
  (30,vI b 7 (.r (ints B))),
  (31,vI b 8 (.r (i64 y))),
  (32,vI b 9 (.r (.rp [i64 q]))),
  (33,vI b 10 (.r (i64 q))),
  (34,vI b 11 (.r (.bo gd))),
  (35,vI b 12 (.r (.bo gd))),
  (36,vI b 13 (.r (brdP bs g cs))),
  (37,vI b 14 (.r (i64 y))),
  (38,vI b 15 (.r (i64 k1))),
  (39,vI b 16 (.r (i64 k))),
  (40,vI b 17 (.r (ints fi))),
  (41,vI b 18 (.r cl)),
  (42,vI b 19 (.r (.rp [i64 x]))),
  (43,vI b 20 (.r (i64 x))),
  (44,vI b 21 (.r (.sl 1 [[i64 x]]))),
  (45,vI b 22 (.r (ints (fi++[x])))),
  (46,vI b 23 (.r (.yl ll))),
  (47,vI b 24 (.r (.bo z))),
  (48,vI b 25 (.r (.bo (!z)))),
  (49,vI b 26 (.r (.bo (!z))))]
def ygR (SA:(Nat→Nat)→List AV) (us:List Value) (G:Bool→Bool→RowC) (b:Nat→Bool) (vs:Nat→Nat) (z:Bool):List (Nat × RowC) :=
 [(0,.sus (SA vs) us),(10,.box [.r (.bo false)]),(999,G (b 24) z)]
def ygF2 (bs:List Int) (g:Int) (cs:List (List Int)) (k1 k y q x:Int) (B fi:List Int) (cl:RV) (ll:Nat) (gd:Bool) (b:Nat→Bool) (vs:Nat→Nat) (z:Bool):List (Nat × AV) :=
 [(5,.r (.rp [brdP bs g cs])),(7,.r (.rp [i64 k1])),(8,.r (.rp [ints fi])),(9,.r (.rp [.yl ll])),(10,.pt 10 (vs 10) 0),(11,.r (.rp [i64 x])),(12,.r (i64 y)),
  (23,vI b 0 (.r (brdP bs g cs))),
  (24,vI b 1 (.r (brdP bs g cs))),
  (25,vI b 2 (.r (.rp [tabR cs]))),
  (26,vI b 3 (.r (tabR cs))),
  (27,vI b 4 (.r (i64 k1))),
  (28,vI b 5 (.r (i64 k))),
  (29,vI b 6 (.r (.rp [ints B]))),
  (30,vI b 7 (.r (ints B))),
  (31,vI b 8 (.r (i64 y))),
  (32,vI b 9 (.r (.rp [i64 q]))),
  (33,vI b 10 (.r (i64 q))),
  (34,vI b 11 (.r (.bo gd))),
  (35,vI b 12 (.r (.bo gd))),
  (36,vI b 13 (.r .ud)),
  (37,vI b 14 (.r .ud)),
  (38,vI b 15 (.r .ud)),
  (39,vI b 16 (.r .ud)),
  (40,vI b 17 (.r .ud)),
  (41,vI b 18 (.r .ud)),
  (42,vI b 19 (.r .ud)),
  (43,vI b 20 (.r .ud)),
  (44,vI b 21 (.r .ud)),
  (45,vI b 22 (.r .ud)),
  (46,vI b 23 (.r .ud)),
  (47,vI b 24 (.r .ud)),
  (48,vI b 25 (.r .ud)),
  (49,vI b 26 (.r (.bo false)))]
def ygR2 (SA:(Nat→Nat)→List AV) (us:List Value) (G:RowC) (b:Nat→Bool) (vs:Nat→Nat) (z:Bool):List (Nat × RowC) :=
 [(0,.sus (SA vs) us),(10,.box [.r (.bo false)]),(999,G)]
attribute [go_sem] ygF ygR ygF2 ygR2 vI
theorem ways_zero (bs:List Int) (g:Int) (m dn s:Nat) (fi:List Int):YCalls Tryz.prog 106 (fun ll=>[brdP bs g (cntO g bs m dn),i64 (s:Int),i64 ((0:Nat):Int),ints fi,.yl ll]) ((waysO g bs m 0 s fi).map fun w=>[ints w]):=by
 generalize cntO g bs m dn=cs
 have z0:(((0:Nat):Int) == 0)=true:=rfl
 refine ycalls_stR (n:=50) (rv:=.cell 10 4) Tryz.func106 rfl (by kernel_rfl) Tryz.ntmps106 rfl (by simp) fun C ll rest hC=>?_
 repeat apply zq
 refine zb fun K hK=>?_;simp only[go_sem];(try simp (disch:=omega) only[zI]);repeat first|intro _|refine⟨by omega,?_⟩
 apply hK;clear hK K;refine zw (zfP 5 5 [brdP bs g cs] (by omega) rfl rfl) ?_;refine zw (zfP 7 7 [i64 ((0:Nat):Int)] (by omega) rfl rfl) ?_;refine zw (zfP 8 8 [ints fi] (by omega) rfl rfl) ?_;refine zw (zfP 9 9 [.yl ll] (by omega) rfl rfl) ?_;apply zw (zk [1,5,7,8,9,10]);simp only[go_sem]
 repeat apply zq
 refine zb fun K hK=>?_;simp only[go_sem,z0];(try simp (disch:=omega) only[zI]);repeat first|intro _|refine⟨by omega,?_⟩
 apply hK;clear hK K;apply zw (zk [8,9,10,14]);simp only[go_sem]
 repeat apply zq
 apply zc rfl<;>intro hc<;>(try simp only[go_sem] at hc)
 repeat apply zq
 refine zb fun K hK=>?_;simp only[go_sem];(try simp (disch:=omega) only[zI])
 refine xcall_yield (e:=[ints fi]) (rest:=rest) (by simp only[go_sem,waysO,List.map_cons,List.map_nil,List.cons_append,List.nil_append]) rfl (by simp only[go_sem]) (.inr rfl) ?_ ?_
 ·simp only[go_sem];repeat first|intro _|refine⟨by omega,?_⟩
  apply hK;clear hK K;apply zw (zk [10]);simp only[go_sem];apply ze;exact⟨true,ll,by simp only[go_sem],rfl⟩
 ·simp only[go_sem];repeat first|intro _|refine⟨by omega,?_⟩
  apply hK;clear hK K;apply zw (zk [10]);simp only[go_sem];apply ze;exact⟨false,ll,by simp only[go_sem],rfl⟩
theorem ways_succ (bs:List Int) (g:Int) (hB:∀ b∈bs,bedOk b=true∧0≤b∧b≤499) (m dn:Nat) (hm:m≤1000) (k s:Nat) (fi:List Int) (hs:s≤m) (hk:k+1≤dn) (hf:fi.length+(k+1)≤9)
 (ih:∀ (y:Nat) (x:Int),y≤m→YCalls Tryz.prog 106 (fun ll=>[brdP bs g (cntO g bs m dn),i64 (y:Int),i64 (k:Int),ints (fi++[x]),.yl ll]) ((waysO g bs m k y (fi++[x])).map fun w=>[ints w])) :
 YCalls Tryz.prog 106 (fun ll=>[brdP bs g (cntO g bs m dn),i64 (s:Int),i64 ((k+1:Nat):Int),ints fi,.yl ll]) ((waysO g bs m (k+1) s fi).map fun w=>[ints w]):=by
 have hBl0:=rowN_len g bs m k
 have hck0:(cntO g bs m dn)[k]? = some (rowN g bs m k):=by
  unfold cntO
  rw[List.getElem?_map,List.getElem?_range (by omega)]
  rfl
 have hcl0:=cnt_len g bs m dn
 have hb1:∀ b∈bs,bedOk b=true:=fun b h=>(hB b h).1
 have hmem:=fun x (hx:x∈throwsO g (s:Int) bs)=>throws_mem hb1 hx
 have hwd:(waysO g bs m (k+1) (s:Int) fi)=(throwsO g (s:Int) bs).flatMap fun x=>if 0<(rowN g bs m k).getD x.2.toNat 0 then waysO g bs m k x.2 (fi++[x.1]) else []:=rfl
 rw[hwd]
 have hcl:=clipB_ok fi (by omega)
 obtain⟨cl,hcl2⟩:∃ cl,cl=(if fi=[] then .ns else .sx 1 (fi.map fun x=>[i64 x]):RV):=⟨_,rfl⟩
 have hclv:(fi=[]∧cl = .ns)∨cl = .sx 1 (fi.map fun x=>[i64 x]):=by
  rw[hcl2]
  by_cases e:fi=[]
  ·exact .inl ⟨e,if_pos e⟩
  ·exact .inr (if_neg e)
 rw[← hcl2] at hcl
 generalize cntO g bs m dn=cs at *
 generalize rowN g bs m k=B at *
 have hth:=throws_ok bs g cs (s:Int)
 have hit:=throws1_ok bs g cs (s:Int) (by omega) (fun b h=>(hB b h).2)
 generalize hT:throwsO g (s:Int) bs=T at *
 obtain⟨H,hH⟩:∃ H:Int × Int→List (List Int),H=fun x=>if 0<B.getD x.2.toNat 0 then waysO g bs m k x.2 (fi++[x.1]) else []:=⟨_,rfl⟩
 rw[← hH]
 have z0:(((k+1:Nat):Int) == 0)=false:=by rw[beq_eq_false_iff_ne];omega
 have z1:((k:Int)+1 == 0)=false:=by rw[beq_eq_false_iff_ne];omega
 refine ycalls_stR (n:=50) (rv:=.cell 10 4) Tryz.func106 rfl (by kernel_rfl) Tryz.ntmps106 rfl (by simp) fun C ll rest hC=>?_
 repeat apply zq
 refine zb fun K hK=>?_;simp only[go_sem];(try simp (disch:=omega) only[zI]);repeat first|intro _|refine⟨by omega,?_⟩
 apply hK;clear hK K;refine zw (zfP 5 5 [brdP bs g cs] (by omega) rfl rfl) ?_;refine zw (zfP 7 7 [i64 ((k+1:Nat):Int)] (by omega) rfl rfl) ?_;refine zw (zfP 8 8 [ints fi] (by omega) rfl rfl) ?_;refine zw (zfP 9 9 [.yl ll] (by omega) rfl rfl) ?_;apply zw (zk [1,5,7,8,9,10]);simp only[go_sem]
 repeat apply zq
 refine zb fun K hK=>?_;simp only[go_sem,z0,z1];(try simp (disch:=omega) only[zI]);repeat first|intro _|refine⟨by omega,?_⟩
 apply hK;clear hK K;apply zw (zk [1,5,7,8,9,10,14]);simp only[go_sem]
 repeat apply zq
 apply zc rfl<;>intro hc<;>(try simp only[go_sem] at hc)
 apply zx
 try simp only[go_sem]
 repeat apply zq
 refine zb fun K hK=>?_;simp only[go_sem];(try simp (disch:=omega) only[zI])
 refine zh (hth) rfl (by simp only[go_sem,i64,ints]) (by simp only[go_sem,i64,ints]) ?_
 (try simp only[go_sem]);(try simp (disch:=omega) only[zI]);repeat first|intro _|refine⟨by omega,?_⟩
 apply hK;clear hK K;apply zw (zk [5,7,8,9,10,20]);simp only[go_sem]
 obtain⟨rem,hrem⟩:∃ rem:Nat→List (List RV),rem=fun i=>((T.drop i).flatMap H).map fun w=>[ints w]:=⟨_,rfl⟩
 have hr0:(T.flatMap H).map (fun w=>[ints w])=rem 0:=by rw[hrem];rfl
 have hrE:rem T.length=[]:=by rw[hrem];simp
 have hrS:∀ (i:Nat) (x:Int × Int),T[i]? = some x→rem i=((H x).map fun w=>[ints w])++rem (i+1):=fun i x hx=>by
  rw[hrem]
  have hd:T.drop i=x::T.drop (i+1):=by
   obtain⟨h1,h2⟩:=List.getElem?_eq_some_iff.1 hx
   rw[List.drop_eq_getElem_cons h1,h2]
  simp only[hd,List.flatMap_cons,List.map_append]
 rw[hr0]
 repeat apply zq
 apply zd
 refine awp_rangeFY hC (T.map thrR) hit [5,7,8,9,10,20] (by decide) (fun vs=>[(5,.r (.rp [brdP bs g cs])),(7,.r (.rp [i64 ((k+1:Nat):Int)])),(8,.r (.rp [ints fi])),(9,.r (.rp [.yl ll])),(10,.pt 10 (vs 10) 0),(20,.r (.fn 104 [.rp [brdP bs g cs],.rp [i64 (s:Int)]]))])
  (fun i vs=>[(10,.box [.r (.bo false)]),(999,.gh Tryz.prog ll false (some (rem i++rest)))]) (fun _=>True) (zj [] ?_ ?_) trivial (fun _=>rfl) (fun _=>rfl) (fun _ _=>rfl) (fun i vs=>⟨ll,_,rfl⟩) (by simp) (fun e he=>by obtain⟨x,_,rfl⟩:=List.mem_map.1 he;rfl) ?_ ?_
 ·try simp only[go_sem]
 ·try simp only[go_sem]
 ·intro i e vs us C' he _
  rw[List.getElem?_map] at he
  obtain⟨x,hx,rfl⟩:=Option.map_eq_some_iff.1 he
  obtain⟨m1,m2,m3,m4⟩:=hmem x (zmo hx)
  have hst:=hrS i x hx
  obtain⟨y,hy⟩:∃ y:Nat,x.2=y:=⟨x.2.toNat,by omega⟩
  have hHx:H x=if 0<B.getD x.2.toNat 0 then waysO g bs m k x.2 (fi++[x.1]) else []:=by rw[hH]
  have hY:=ih y x.1 (by omega)
  rw[hy,Int.toNat_natCast] at hHx
  obtain⟨bd,lf⟩:=x
  simp only at hy hHx hY m1 m2 m3 m4
  subst hy
  have hyB:y<B.length:=by omega
  obtain⟨q,hq⟩:=zol hyB
  have hqg:B.getD y 0=q:=by simp [List.getD,hq]
  rw[hqg] at hHx
  have hBk:k<cs.length:=by omega
  have w1:IntKind.i64.wrap (((k+1:Nat):Int)-1)=(k:Int):=by rw[zI]<;>omega
  have w2:IntKind.i64.wrap ((k:Int)+1-1)=(k:Int):=by rw[zI]<;>omega
  generalize rem (i+1)=rem1 at *
  rw[hst]
  clear hst
  simp only[thrR]
  repeat apply zq
  refine zb fun K hK=>?_;simp only[go_sem];(try simp (disch:=omega) only[zI]);repeat first|intro _|refine⟨by omega,?_⟩
  apply hK;clear hK K;refine zw (zfP 11 11 [i64 bd] (by omega) rfl rfl) ?_;apply zw (zk [5,7,8,9,10,11,20,22]);simp only[go_sem]
  repeat apply zq
  refine zb fun K hK=>?_;simp only[go_sem];(try simp (disch:=omega) only[zI]);repeat first|intro _|refine⟨by omega,?_⟩
  apply hK;clear hK K
  refine⟨rfl,⟨ll,_,rfl⟩,fun C'=>?_⟩
  apply zw (zk [5,7,8,9,10,11,12]);simp only[go_sem]
  repeat apply zq
  apply zd
  by_cases hp:0<q
  ·rw[if_pos hp] at hHx
   have hq1:decide (0<q)=true:=decide_eq_true hp
   rw[hHx]
   generalize hXX:(waysO g bs m k (y:Int) (fi++[bd])).map (fun w=>[ints w])=X at *
   rw[List.append_assoc]
   generalize rem1++rest=rest1 at *
   repeat apply zq
   obtain⟨SA,hSA⟩:∃ SA:(Nat→Nat)→List AV,SA=fun vs=>[.r (.rp [brdP bs g cs]),.r (.rp [i64 ((k+1:Nat):Int)]),.r (.rp [ints fi]),.r (.rp [.yl ll]),.pt 10 (vs 10) 0,.r (.fn 104 [.rp [brdP bs g cs],.rp [i64 (s:Int)]])]:=⟨_,rfl⟩
   obtain⟨GG,hG0,hG1,hG2⟩:∃ GG:Bool→Bool→RowC,(∀ z,GG false z = .gh Tryz.prog ll false (some (X++rest1)))∧GG true true = .gh Tryz.prog ll false (some rest1)∧GG true false = .gh Tryz.prog ll false none :=
    ⟨fun x z=>bif x then (bif z then .gh Tryz.prog ll false (some rest1) else .gh Tryz.prog ll false none) else .gh Tryz.prog ll false (some (X++rest1)),fun _=>rfl,rfl,rfl⟩
   have E:=And.intro hck0 (And.intro hBk (And.intro hyB (And.intro hq (And.intro hq1 (And.intro w1 (And.intro w2 (And.intro hSA (And.intro hG0 (And.intro hG1 hG2)))))))))
   refine awp_invY (n:=50) (ygF bs g cs ((k+1:Nat):Int) (k:Int) (y:Int) q bd B fi cl ll true) (ygR SA us GG) follows (by kernel_rfl) (by decide +kernel) (fitG_of true (zj [] ?_ ?_)) ?_ ?_
   ·simp only[go_sem,ygF,vI,if_true,if_false,Bool.false_eq_true,cond_false]
   ·simp only[go_sem,ygR,cond_false,hSA,hG0,List.cons_append,List.nil_append]
    try exact congrArg _ (hG0 _).symm
   refine⟨fun b vs z hdn hbk hde=>?_,fun b vs z hdn hbk hde=>?_,fun b vs z hdn hbk hde=>?_,fun b vs z hdn hbk hde=>?_,fun b vs z hdn hbk hde=>?_,fun b vs z hdn hbk hde=>?_,fun b vs z hdn hbk hde=>?_,fun b vs z hdn hbk hde=>?_,fun b vs z hdn hbk hde=>?_,fun b vs z hdn hbk hde=>?_,fun b vs z hdn hbk hde=>?_,fun b vs z hdn hbk hde=>?_,fun b vs z hdn hbk hde=>?_,fun b vs z hdn hbk hde=>?_,fun b vs z hdn hbk hde=>?_,fun b vs z hdn hbk hde=>?_,fun b vs z hdn hbk hde=>?_,fun b vs z hdn hbk hde=>?_,fun b vs z hdn hbk hde=>?_,fun b vs z hdn hbk hde=>?_,fun b vs z hdn hbk hde=>?_,fun b vs z hdn hbk hde=>?_,fun b vs z hdn hbk hde=>?_,fun b vs z hdn hbk hde=>?_,fun b vs z hdn hbk hde=>?_,fun b vs z hdn hbk hde=>?_,fun b vs z hdn hbk hde=>?_,trivial⟩
   ·skip
    have G:=dnT hdn hbk [1,2,3,6,7,9,10,11,12,13,14,15,16,17,18,19,20,21,22,23,24,25,26] (by decide +kernel)
    simp only[allB,and_true] at G
    refine .inl ⟨trivial,.inl (.inl ?_)⟩
    simp only[go_sem,upd,if_true,Bool.false_eq_true,if_false,hbk,G,E]
    refine fitG_of z (zj [] ?_ ?_)<;>simp only[go_sem,upd,if_true,Bool.false_eq_true,if_false,hbk,G,E]
   ·skip
    have H:=upT hdn hde [0] (by decide +kernel)
    have G:=dnT hdn hbk [2,3,6,7,9,10,11,12,13,14,15,16,17,18,19,20,21,22,23,24,25,26] (by decide +kernel)
    simp only[allB,and_true] at H G
    refine .inl ⟨trivial,.inl (.inl ?_)⟩
    simp only[go_sem,upd,if_true,Bool.false_eq_true,if_false,hbk,H,G,E]
    refine fitG_of z (zj [] ?_ ?_)<;>simp only[go_sem,upd,if_true,Bool.false_eq_true,if_false,hbk,H,G,E]
   ·skip
    have H:=upT hdn hde [1,0] (by decide +kernel)
    have G:=dnT hdn hbk [3,6,7,9,10,11,12,13,14,15,16,17,18,19,20,21,22,23,24,25,26] (by decide +kernel)
    simp only[allB,and_true] at H G
    refine .inl ⟨trivial,.inl (.inl ?_)⟩
    simp only[go_sem,upd,if_true,Bool.false_eq_true,if_false,hbk,H,G,E]
    refine fitG_of z (zj [] ?_ ?_)<;>simp only[go_sem,upd,if_true,Bool.false_eq_true,if_false,hbk,H,G,E]
   ·skip
    have H:=upT hdn hde [2,1,0] (by decide +kernel)
    have G:=dnT hdn hbk [6,7,9,10,11,12,13,14,15,16,17,18,19,20,21,22,23,24,25,26] (by decide +kernel)
    simp only[allB,and_true] at H G
    refine .inl ⟨trivial,.inl (.inl ?_)⟩
    simp only[go_sem,upd,if_true,Bool.false_eq_true,if_false,hbk,H,G,E]
    refine fitG_of z (zj [] ?_ ?_)<;>simp only[go_sem,upd,if_true,Bool.false_eq_true,if_false,hbk,H,G,E]
   ·skip
    have G:=dnT hdn hbk [5,6,7,9,10,11,12,13,14,15,16,17,18,19,20,21,22,23,24,25,26] (by decide +kernel)
    simp only[allB,and_true] at G
    refine .inl ⟨trivial,.inl (.inl ?_)⟩
    simp only[go_sem,upd,if_true,Bool.false_eq_true,if_false,hbk,G,E]
    refine fitG_of z (zj [] ?_ ?_)<;>simp only[go_sem,upd,if_true,Bool.false_eq_true,if_false,hbk,G,E]
   ·skip
    have H:=upT hdn hde [4] (by decide +kernel)
    have G:=dnT hdn hbk [6,7,9,10,11,12,13,14,15,16,17,18,19,20,21,22,23,24,25,26] (by decide +kernel)
    simp only[allB,and_true] at H G
    refine .inl ⟨trivial,.inl (.inl ?_)⟩
    simp only[go_sem,upd,if_true,Bool.false_eq_true,if_false,hbk,H,G,E]
    refine fitG_of z (zj [] ?_ ?_)<;>simp only[go_sem,upd,if_true,Bool.false_eq_true,if_false,hbk,H,G,E]
   ·skip
    have H:=upT hdn hde [3,5,2,4,1,0] (by decide +kernel)
    have G:=dnT hdn hbk [7,9,10,11,12,13,14,15,16,17,18,19,20,21,22,23,24,25,26] (by decide +kernel)
    simp only[allB,and_true] at H G
    refine .inl ⟨trivial,.inl (.inl ?_)⟩
    simp only[go_sem,upd,if_true,Bool.false_eq_true,if_false,hbk,H,G,E]
    all_goals (try (refine⟨⟨by omega,by omega⟩,?_⟩))
    refine fitG_of z (zj [] ?_ ?_)<;>simp only[go_sem,upd,if_true,Bool.false_eq_true,if_false,hbk,H,G,E]
   ·skip
    have H:=upT hdn hde [6,3,5,2,4,1,0] (by decide +kernel)
    have G:=dnT hdn hbk [9,10,11,12,13,14,15,16,17,18,19,20,21,22,23,24,25,26] (by decide +kernel)
    simp only[allB,and_true] at H G
    refine .inl ⟨trivial,.inl (.inl ?_)⟩
    simp only[go_sem,upd,if_true,Bool.false_eq_true,if_false,hbk,H,G,E]
    refine fitG_of z (zj [] ?_ ?_)<;>simp only[go_sem,upd,if_true,Bool.false_eq_true,if_false,hbk,H,G,E]
   ·skip
    have G:=dnT hdn hbk [9,10,11,12,13,14,15,16,17,18,19,20,21,22,23,24,25,26] (by decide +kernel)
    simp only[allB,and_true] at G
    refine .inl ⟨trivial,.inl (.inl ?_)⟩
    simp only[go_sem,upd,if_true,Bool.false_eq_true,if_false,hbk,G,E]
    refine fitG_of z (zj [] ?_ ?_)<;>simp only[go_sem,upd,if_true,Bool.false_eq_true,if_false,hbk,G,E]
   ·skip
    have H:=upT hdn hde [7,8,6,3,5,2,4,1,0] (by decide +kernel)
    have G:=dnT hdn hbk [10,11,12,13,14,15,16,17,18,19,20,21,22,23,24,25,26] (by decide +kernel)
    simp only[allB,and_true] at H G
    refine .inl ⟨trivial,.inl (.inl ?_)⟩
    simp only[go_sem,upd,if_true,Bool.false_eq_true,if_false,hbk,H,G,E]
    all_goals (try (refine⟨⟨by omega,by omega⟩,?_⟩))
    refine fitG_of z (zj [] ?_ ?_)<;>simp only[go_sem,upd,if_true,Bool.false_eq_true,if_false,hbk,H,G,E]
   ·skip
    have H:=upT hdn hde [9,7,8,6,3,5,2,4,1,0] (by decide +kernel)
    have G:=dnT hdn hbk [11,12,13,14,15,16,17,18,19,20,21,22,23,24,25,26] (by decide +kernel)
    simp only[allB,and_true] at H G
    refine .inl ⟨trivial,.inl (.inl ?_)⟩
    simp only[go_sem,upd,if_true,Bool.false_eq_true,if_false,hbk,H,G,E]
    refine fitG_of z (zj [] ?_ ?_)<;>simp only[go_sem,upd,if_true,Bool.false_eq_true,if_false,hbk,H,G,E]
   ·skip
    have H:=upT hdn hde [10,9,7,8,6,3,5,2,4,1,0] (by decide +kernel)
    have G:=dnT hdn hbk [12,13,14,15,16,17,18,19,20,21,22,23,24,25,26] (by decide +kernel)
    simp only[allB,and_true] at H G
    refine .inl ⟨trivial,.inl (.inl ?_)⟩
    simp only[go_sem,upd,if_true,Bool.false_eq_true,if_false,hbk,H,G,E]
    refine fitG_of z (zj [] ?_ ?_)<;>simp only[go_sem,upd,if_true,Bool.false_eq_true,if_false,hbk,H,G,E]
   ·skip
    have H:=upT hdn hde [11,10,9,7,8,6,3,5,2,4,1,0] (by decide +kernel)
    have G:=dnT hdn hbk [13,14,15,16,17,18,19,20,21,22,23,24,25,26] (by decide +kernel)
    simp only[allB,and_true] at H G
    refine .inl ⟨trivial,.inl (.inl ?_)⟩
    simp only[go_sem,upd,if_true,Bool.false_eq_true,if_false,hbk,H,G,E]
    refine fitG_of z (zj [] ?_ ?_)<;>simp only[go_sem,upd,if_true,Bool.false_eq_true,if_false,hbk,H,G,E]
   ·skip
    have H:=upT hdn hde [12,11,10,9,7,8,6,3,5,2,4,1,0] (by decide +kernel)
    have G:=dnT hdn hbk [24,25,26] (by decide +kernel)
    simp only[allB,and_true] at H G
    refine .inl ⟨⟨35,by kernel_rfl,by simp only[go_sem,if_true,H]⟩,.inl (.inl ?_)⟩
    simp only[go_sem,upd,if_true,Bool.false_eq_true,if_false,hbk,H,G,E]
    refine fitG_of z (zj [] ?_ ?_)<;>simp only[go_sem,upd,if_true,Bool.false_eq_true,if_false,hbk,H,G,E]
   ·skip
    have H:=upT hdn hde [12,11,10,9,7,8,6,3,5,2,4,1,0] (by decide +kernel)
    have G:=dnT hdn hbk [24,25,26] (by decide +kernel)
    simp only[allB,and_true] at H G
    refine .inl ⟨⟨35,by kernel_rfl,by simp only[go_sem,if_true,H]⟩,.inl (.inl ?_)⟩
    simp only[go_sem,upd,if_true,Bool.false_eq_true,if_false,hbk,H,G,E]
    refine fitG_of z (zj [] ?_ ?_)<;>simp only[go_sem,upd,if_true,Bool.false_eq_true,if_false,hbk,H,G,E]
   ·skip
    have H:=upT hdn hde [12,11,10,9,7,8,6,3,5,2,4,1,0] (by decide +kernel)
    have G:=dnT hdn hbk [16,24,25,26] (by decide +kernel)
    simp only[allB,and_true] at H G
    refine .inl ⟨⟨35,by kernel_rfl,by simp only[go_sem,if_true,H]⟩,.inl (.inl ?_)⟩
    simp only[go_sem,upd,if_true,Bool.false_eq_true,if_false,hbk,H,G,E]
    refine fitG_of z (zj [] ?_ ?_)<;>simp only[go_sem,upd,if_true,Bool.false_eq_true,if_false,hbk,H,G,E]
   ·skip
    have H:=upT hdn hde [12,15,11,10,9,7,8,6,3,5,2,4,1,0] (by decide +kernel)
    have G:=dnT hdn hbk [24,25,26] (by decide +kernel)
    simp only[allB,and_true] at H G
    refine .inl ⟨⟨35,by kernel_rfl,by simp only[go_sem,if_true,H]⟩,.inl (.inl ?_)⟩
    simp only[go_sem,upd,if_true,Bool.false_eq_true,if_false,hbk,H,G,E]
    refine fitG_of z (zj [] ?_ ?_)<;>simp only[go_sem,upd,if_true,Bool.false_eq_true,if_false,hbk,H,G,E]
   ·skip
    have H:=upT hdn hde [12,11,10,9,7,8,6,3,5,2,4,1,0] (by decide +kernel)
    have G:=dnT hdn hbk [18,22,24,25,26] (by decide +kernel)
    simp only[allB,and_true] at H G
    refine .inl ⟨⟨35,by kernel_rfl,by simp only[go_sem,if_true,H]⟩,.inl (.inl ?_)⟩
    simp only[go_sem,upd,if_true,Bool.false_eq_true,if_false,hbk,H,G,E]
    refine fitG_of z (zj [] ?_ ?_)<;>simp only[go_sem,upd,if_true,Bool.false_eq_true,if_false,hbk,H,G,E]
   ·skip
    have H:=upT hdn hde [12,12,17,11,10,9,7,8,6,3,5,2,4,1,0] (by decide +kernel)
    have G:=dnT hdn hbk [22,24,25,26] (by decide +kernel)
    simp only[allB,and_true] at H G
    refine .inl ⟨⟨35,by kernel_rfl,by simp only[go_sem,if_true,H]⟩,.inl (.inl ?_)⟩
    (simp only[go_sem,upd,if_true,Bool.false_eq_true,if_false,hbk,H,G,E])
    refine zh hcl rfl (by simp only[go_sem,i64,ints]) (by simp only[go_sem,i64,ints]) ?_
    (simp only[go_sem,upd,if_true,Bool.false_eq_true,if_false,hbk,H,G,E])
    refine fitG_of z (zj [] ?_ ?_)<;>(simp only[go_sem,upd,if_true,Bool.false_eq_true,if_false,hbk,H,G,E])
   ·skip
    have H:=upT hdn hde [12,11,10,9,7,8,6,3,5,2,4,1,0] (by decide +kernel)
    have G:=dnT hdn hbk [20,21,22,24,25,26] (by decide +kernel)
    simp only[allB,and_true] at H G
    refine .inl ⟨⟨35,by kernel_rfl,by simp only[go_sem,if_true,H]⟩,.inl (.inl ?_)⟩
    simp only[go_sem,upd,if_true,Bool.false_eq_true,if_false,hbk,H,G,E]
    refine fitG_of z (zj [] ?_ ?_)<;>simp only[go_sem,upd,if_true,Bool.false_eq_true,if_false,hbk,H,G,E]
   ·skip
    have H:=upT hdn hde [12,19,11,10,9,7,8,6,3,5,2,4,1,0] (by decide +kernel)
    have G:=dnT hdn hbk [21,22,24,25,26] (by decide +kernel)
    simp only[allB,and_true] at H G
    refine .inl ⟨⟨35,by kernel_rfl,by simp only[go_sem,if_true,H]⟩,.inl (.inl ?_)⟩
    simp only[go_sem,upd,if_true,Bool.false_eq_true,if_false,hbk,H,G,E]
    refine fitG_of z (zj [] ?_ ?_)<;>simp only[go_sem,upd,if_true,Bool.false_eq_true,if_false,hbk,H,G,E]
   ·skip
    have H:=upT hdn hde [12,20,11,19,10,9,7,8,6,3,5,2,4,1,0] (by decide +kernel)
    have G:=dnT hdn hbk [22,24,25,26] (by decide +kernel)
    simp only[allB,and_true] at H G
    refine .inl ⟨⟨35,by kernel_rfl,by simp only[go_sem,if_true,H]⟩,.inl (.inl ?_)⟩
    simp only[go_sem,upd,if_true,Bool.false_eq_true,if_false,hbk,H,G,E]
    refine fitG_of z (zj [] ?_ ?_)<;>simp only[go_sem,upd,if_true,Bool.false_eq_true,if_false,hbk,H,G,E]
   ·skip
    have H:=upT hdn hde [12,18,18,21,11,17,20,10,19,9,7,8,6,3,5,2,4,1,0] (by decide +kernel)
    have G:=dnT hdn hbk [24,25,26] (by decide +kernel)
    simp only[allB,and_true] at H G
    refine .inl ⟨⟨35,by kernel_rfl,by simp only[go_sem,if_true,H]⟩,.inl (.inl ?_)⟩
    rcases hclv with⟨e0,e1⟩|e1
    ·rw[e1]
     (simp only[go_sem,upd,if_true,Bool.false_eq_true,if_false,hbk,H,G,E])
     (try refine⟨⟨by omega,by omega⟩,?_⟩)
     refine fitG_sub (sub_frz (ty:=84) (sz:=1) (off:=0) (m:=1) (es:=[[i64 bd]]) 45 45 (by omega) rfl (by rfl) (by simp)) ?_
     (simp only[go_sem,upd,if_true,Bool.false_eq_true,if_false,hbk,H,G,E,List.drop_zero,e0,List.nil_append])
     refine fitG_of z (zj [] ?_ ?_)<;>(simp only[go_sem,upd,if_true,Bool.false_eq_true,if_false,hbk,H,G,E])
    ·rw[e1]
     (simp only[go_sem,upd,if_true,Bool.false_eq_true,if_false,hbk,H,G,E])
     (try refine⟨⟨by omega,by omega⟩,?_⟩)
     refine fitG_sub (sub_frz (ty:=84) (sz:=1) (off:=0) (m:=fi.length+1) (es:=(fi.map fun x=>[i64 x])++[[i64 bd]]) 45 45 (by omega) rfl (by rfl) (by simp)) ?_
     (simp only[go_sem,upd,if_true,Bool.false_eq_true,if_false,hbk,H,G,E,List.drop_zero])
     refine fitG_of z (zj [] ?_ ?_)<;>(simp only[go_sem,upd,if_true,Bool.false_eq_true,if_false,hbk,H,G,E])
     rw[List.take_of_length_le (by simp)]
     simp
   ·skip
    have H:=upT hdn hde [12,11,10,9,7,8,6,3,5,2,4,1,0] (by decide +kernel)
    have G:=dnT hdn hbk [24,25,26] (by decide +kernel)
    simp only[allB,and_true] at H G
    refine .inl ⟨⟨35,by kernel_rfl,by simp only[go_sem,if_true,H]⟩,.inl (.inl ?_)⟩
    simp only[go_sem,upd,if_true,Bool.false_eq_true,if_false,hbk,H,G,E]
    refine fitG_of z (zj [] ?_ ?_)<;>simp only[go_sem,upd,if_true,Bool.false_eq_true,if_false,hbk,H,G,E]
   ·skip
    have H:=upT hdn hde [12,13,14,16,22,22,23,11,15,18,21,10,17,20,9,19,7,8,6,3,5,2,4,1,0] (by decide +kernel)
    have G:=dnT hdn hbk [25,26] (by decide +kernel)
    simp only[allB,and_true] at H G
    refine .inl ⟨⟨35,by kernel_rfl,by simp only[go_sem,if_true,H]⟩,?_⟩
    refine .inr ⟨106,[],_,_,rest1,ll,rfl,?_,?_,?_,hY,?_,?_⟩
    ·(simp only[go_sem,upd,if_true,Bool.false_eq_true,if_false,hbk,H,G,E])
    ·(simp only[go_sem,upd,if_true,Bool.false_eq_true,if_false,hbk,H,G,E,evs,List.map_cons,List.map_nil])
     try rfl
    ·(simp only[go_sem,upd,if_true,Bool.false_eq_true,if_false,hbk,H,G,E,evs,List.map_cons,List.map_nil])
     first|exact leL_refl _|exact⟨rv_le _,rv_le _⟩|exact⟨rv_le _,rv_le _,rv_le _⟩|skip
    ·rw[row999_st]
     (simp only[go_sem,upd,if_true,Bool.false_eq_true,if_false,hbk,H,G,E])
     refine fitG_of true (zj [] ?_ ?_)<;>(simp only[go_sem,upd,if_true,Bool.false_eq_true,if_false,hbk,H,G,E])
    ·rw[row999_st]
     (simp only[go_sem,upd,if_true,Bool.false_eq_true,if_false,hbk,H,G,E])
     refine fitG_of false (zj [] ?_ ?_)<;>(simp only[go_sem,upd,if_true,Bool.false_eq_true,if_false,hbk,H,G,E])
   ·skip
    have H:=upT hdn hde [12,24,11,13,14,16,22,23,10,15,18,21,9,17,20,7,8,19,6,3,5,2,4,1,0] (by decide +kernel)
    have G:=dnT hdn hbk [26] (by decide +kernel)
    simp only[allB,and_true] at H G
    refine .inl ⟨⟨35,by kernel_rfl,by simp only[go_sem,if_true,H]⟩,.inl (.inl ?_)⟩
    simp only[go_sem,upd,if_true,Bool.false_eq_true,if_false,hbk,H,G,E]
    refine fitG_of z (zj [] ?_ ?_)<;>simp only[go_sem,upd,if_true,Bool.false_eq_true,if_false,hbk,H,G,E]
   ·skip
    have H:=upT hdn hde [12,25,11,24,10,13,14,16,22,23,9,15,18,21,7,8,17,20,6,19,3,5,2,4,1,0] (by decide +kernel)
    simp only[allB,and_true] at H
    refine .inl ⟨trivial,.inl (.inl ?_)⟩
    simp only[go_sem,upd,if_true,Bool.false_eq_true,if_false,hbk,H,E]
    refine fitG_of z (zj [] ?_ ?_)<;>simp only[go_sem,upd,if_true,Bool.false_eq_true,if_false,hbk,H,E]
   intro b vs z hb
   simp only[go_sem,ygF,ygR,vI,hb,if_true,cond_true,List.cons_append,List.nil_append];rw[hSA]
   cases z
   ·rw[hG2]
    apply zw (zk [10,49]);simp only[go_sem]
    repeat apply zq
    apply zc rfl<;>intro hc<;>(try simp only[go_sem] at hc)
    repeat apply zq
    refine zb fun K hK=>?_;simp only[go_sem];(try simp (disch:=omega) only[zI]);repeat first|intro _|refine⟨by omega,?_⟩
    apply hK;clear hK K;apply zw (zk [10]);simp only[go_sem];apply ze
    try simp only[go_sem]
    refine rfY_ret (ll:=ll) (o:=none) rfl (by simp only[go_sem];rfl) ?_
    try simp only[go_sem]
    exact⟨false,ll,by simp only[go_sem],rfl⟩
   ·rw[hG1]
    apply zw (zk [10,49]);simp only[go_sem]
    repeat apply zq
    apply zc rfl<;>intro hc<;>(try simp only[go_sem] at hc)
    apply zx
    try simp only[go_sem]
    refine zj (F:=fun _=>[]) [] ?_ ?_
    ·try simp only[go_sem]
    ·try simp only[go_sem]
  ·rw[if_neg hp] at hHx
   rw[hHx]
   simp only[List.map_nil,List.nil_append]
   have hq1:decide (0<q)=false:=decide_eq_false hp
   repeat apply zq
   obtain⟨SA,hSA⟩:∃ SA:(Nat→Nat)→List AV,SA=fun vs=>[.r (.rp [brdP bs g cs]),.r (.rp [i64 ((k+1:Nat):Int)]),.r (.rp [ints fi]),.r (.rp [.yl ll]),.pt 10 (vs 10) 0,.r (.fn 104 [.rp [brdP bs g cs],.rp [i64 (s:Int)]])]:=⟨_,rfl⟩
   obtain⟨G2,hG2⟩:∃ G2:RowC,G2 = .gh Tryz.prog ll false (some (rem1++rest)):=⟨_,rfl⟩
   rw[← hG2]
   have E:=And.intro hck0 (And.intro hBk (And.intro hyB (And.intro hq (And.intro hq1 (And.intro w1 (And.intro w2 hSA))))))
   refine awp_invY (n:=50) (ygF2 bs g cs ((k+1:Nat):Int) (k:Int) (y:Int) q bd B fi cl ll false) (ygR2 SA us G2) follows (by kernel_rfl) (by decide +kernel) (fitG_of true (zj [] ?_ ?_)) ?_ ?_
   ·simp only[go_sem,ygF2,vI,if_true,if_false,Bool.false_eq_true,cond_false]
   ·simp only[go_sem,ygR2,hSA,List.cons_append,List.nil_append]
   refine⟨fun b vs z hdn hbk hde=>?_,fun b vs z hdn hbk hde=>?_,fun b vs z hdn hbk hde=>?_,fun b vs z hdn hbk hde=>?_,fun b vs z hdn hbk hde=>?_,fun b vs z hdn hbk hde=>?_,fun b vs z hdn hbk hde=>?_,fun b vs z hdn hbk hde=>?_,fun b vs z hdn hbk hde=>?_,fun b vs z hdn hbk hde=>?_,fun b vs z hdn hbk hde=>?_,fun b vs z hdn hbk hde=>?_,fun b vs z hdn hbk hde=>?_,fun b vs z hdn hbk hde=>?_,fun b vs z hdn hbk hde=>?_,fun b vs z hdn hbk hde=>?_,fun b vs z hdn hbk hde=>?_,fun b vs z hdn hbk hde=>?_,fun b vs z hdn hbk hde=>?_,fun b vs z hdn hbk hde=>?_,fun b vs z hdn hbk hde=>?_,fun b vs z hdn hbk hde=>?_,fun b vs z hdn hbk hde=>?_,fun b vs z hdn hbk hde=>?_,fun b vs z hdn hbk hde=>?_,fun b vs z hdn hbk hde=>?_,fun b vs z hdn hbk hde=>?_,trivial⟩
   ·skip
    have G:=dnT hdn hbk [1,2,3,6,7,9,10,11,12,13,14,15,16,17,18,19,20,21,22,23,24,25,26] (by decide +kernel)
    simp only[allB,and_true] at G
    refine .inl ⟨trivial,.inl (.inl ?_)⟩
    simp only[go_sem,upd,if_true,Bool.false_eq_true,if_false,hbk,G,E]
    refine fitG_of z (zj [] ?_ ?_)<;>simp only[go_sem,upd,if_true,Bool.false_eq_true,if_false,hbk,G,E]
   ·skip
    have H:=upT hdn hde [0] (by decide +kernel)
    have G:=dnT hdn hbk [2,3,6,7,9,10,11,12,13,14,15,16,17,18,19,20,21,22,23,24,25,26] (by decide +kernel)
    simp only[allB,and_true] at H G
    refine .inl ⟨trivial,.inl (.inl ?_)⟩
    simp only[go_sem,upd,if_true,Bool.false_eq_true,if_false,hbk,H,G,E]
    refine fitG_of z (zj [] ?_ ?_)<;>simp only[go_sem,upd,if_true,Bool.false_eq_true,if_false,hbk,H,G,E]
   ·skip
    have H:=upT hdn hde [1,0] (by decide +kernel)
    have G:=dnT hdn hbk [3,6,7,9,10,11,12,13,14,15,16,17,18,19,20,21,22,23,24,25,26] (by decide +kernel)
    simp only[allB,and_true] at H G
    refine .inl ⟨trivial,.inl (.inl ?_)⟩
    simp only[go_sem,upd,if_true,Bool.false_eq_true,if_false,hbk,H,G,E]
    refine fitG_of z (zj [] ?_ ?_)<;>simp only[go_sem,upd,if_true,Bool.false_eq_true,if_false,hbk,H,G,E]
   ·skip
    have H:=upT hdn hde [2,1,0] (by decide +kernel)
    have G:=dnT hdn hbk [6,7,9,10,11,12,13,14,15,16,17,18,19,20,21,22,23,24,25,26] (by decide +kernel)
    simp only[allB,and_true] at H G
    refine .inl ⟨trivial,.inl (.inl ?_)⟩
    simp only[go_sem,upd,if_true,Bool.false_eq_true,if_false,hbk,H,G,E]
    refine fitG_of z (zj [] ?_ ?_)<;>simp only[go_sem,upd,if_true,Bool.false_eq_true,if_false,hbk,H,G,E]
   ·skip
    have G:=dnT hdn hbk [5,6,7,9,10,11,12,13,14,15,16,17,18,19,20,21,22,23,24,25,26] (by decide +kernel)
    simp only[allB,and_true] at G
    refine .inl ⟨trivial,.inl (.inl ?_)⟩
    simp only[go_sem,upd,if_true,Bool.false_eq_true,if_false,hbk,G,E]
    refine fitG_of z (zj [] ?_ ?_)<;>simp only[go_sem,upd,if_true,Bool.false_eq_true,if_false,hbk,G,E]
   ·skip
    have H:=upT hdn hde [4] (by decide +kernel)
    have G:=dnT hdn hbk [6,7,9,10,11,12,13,14,15,16,17,18,19,20,21,22,23,24,25,26] (by decide +kernel)
    simp only[allB,and_true] at H G
    refine .inl ⟨trivial,.inl (.inl ?_)⟩
    simp only[go_sem,upd,if_true,Bool.false_eq_true,if_false,hbk,H,G,E]
    refine fitG_of z (zj [] ?_ ?_)<;>simp only[go_sem,upd,if_true,Bool.false_eq_true,if_false,hbk,H,G,E]
   ·skip
    have H:=upT hdn hde [3,5,2,4,1,0] (by decide +kernel)
    have G:=dnT hdn hbk [7,9,10,11,12,13,14,15,16,17,18,19,20,21,22,23,24,25,26] (by decide +kernel)
    simp only[allB,and_true] at H G
    refine .inl ⟨trivial,.inl (.inl ?_)⟩
    simp only[go_sem,upd,if_true,Bool.false_eq_true,if_false,hbk,H,G,E]
    all_goals (try (refine⟨⟨by omega,by omega⟩,?_⟩))
    refine fitG_of z (zj [] ?_ ?_)<;>simp only[go_sem,upd,if_true,Bool.false_eq_true,if_false,hbk,H,G,E]
   ·skip
    have H:=upT hdn hde [6,3,5,2,4,1,0] (by decide +kernel)
    have G:=dnT hdn hbk [9,10,11,12,13,14,15,16,17,18,19,20,21,22,23,24,25,26] (by decide +kernel)
    simp only[allB,and_true] at H G
    refine .inl ⟨trivial,.inl (.inl ?_)⟩
    simp only[go_sem,upd,if_true,Bool.false_eq_true,if_false,hbk,H,G,E]
    refine fitG_of z (zj [] ?_ ?_)<;>simp only[go_sem,upd,if_true,Bool.false_eq_true,if_false,hbk,H,G,E]
   ·skip
    have G:=dnT hdn hbk [9,10,11,12,13,14,15,16,17,18,19,20,21,22,23,24,25,26] (by decide +kernel)
    simp only[allB,and_true] at G
    refine .inl ⟨trivial,.inl (.inl ?_)⟩
    simp only[go_sem,upd,if_true,Bool.false_eq_true,if_false,hbk,G,E]
    refine fitG_of z (zj [] ?_ ?_)<;>simp only[go_sem,upd,if_true,Bool.false_eq_true,if_false,hbk,G,E]
   ·skip
    have H:=upT hdn hde [7,8,6,3,5,2,4,1,0] (by decide +kernel)
    have G:=dnT hdn hbk [10,11,12,13,14,15,16,17,18,19,20,21,22,23,24,25,26] (by decide +kernel)
    simp only[allB,and_true] at H G
    refine .inl ⟨trivial,.inl (.inl ?_)⟩
    simp only[go_sem,upd,if_true,Bool.false_eq_true,if_false,hbk,H,G,E]
    all_goals (try (refine⟨⟨by omega,by omega⟩,?_⟩))
    refine fitG_of z (zj [] ?_ ?_)<;>simp only[go_sem,upd,if_true,Bool.false_eq_true,if_false,hbk,H,G,E]
   ·skip
    have H:=upT hdn hde [9,7,8,6,3,5,2,4,1,0] (by decide +kernel)
    have G:=dnT hdn hbk [11,12,13,14,15,16,17,18,19,20,21,22,23,24,25,26] (by decide +kernel)
    simp only[allB,and_true] at H G
    refine .inl ⟨trivial,.inl (.inl ?_)⟩
    simp only[go_sem,upd,if_true,Bool.false_eq_true,if_false,hbk,H,G,E]
    refine fitG_of z (zj [] ?_ ?_)<;>simp only[go_sem,upd,if_true,Bool.false_eq_true,if_false,hbk,H,G,E]
   ·skip
    have H:=upT hdn hde [10,9,7,8,6,3,5,2,4,1,0] (by decide +kernel)
    have G:=dnT hdn hbk [12,13,14,15,16,17,18,19,20,21,22,23,24,25,26] (by decide +kernel)
    simp only[allB,and_true] at H G
    refine .inl ⟨trivial,.inl (.inl ?_)⟩
    simp only[go_sem,upd,if_true,Bool.false_eq_true,if_false,hbk,H,G,E]
    refine fitG_of z (zj [] ?_ ?_)<;>simp only[go_sem,upd,if_true,Bool.false_eq_true,if_false,hbk,H,G,E]
   ·skip
    have H:=upT hdn hde [11,10,9,7,8,6,3,5,2,4,1,0] (by decide +kernel)
    have G:=dnT hdn hbk [13,14,15,16,17,18,19,20,21,22,23,24,25,26] (by decide +kernel)
    simp only[allB,and_true] at H G
    refine .inl ⟨trivial,.inl (.inl ?_)⟩
    simp only[go_sem,upd,if_true,Bool.false_eq_true,if_false,hbk,H,G,E]
    refine fitG_of z (zj [] ?_ ?_)<;>simp only[go_sem,upd,if_true,Bool.false_eq_true,if_false,hbk,H,G,E]
   ·skip
    have H:=upT hdn hde [12,11,10,9,7,8,6,3,5,2,4,1,0] (by decide +kernel)
    have G:=dnT hdn hbk [24,25,26] (by decide +kernel)
    simp only[allB,and_true] at H G
    refine .inr ⟨⟨35,by kernel_rfl,.inl (by simp only[go_sem,if_true,H])⟩,?_⟩
    simp only[go_sem,upd,if_true,Bool.false_eq_true,if_false,hbk,H,G,E]
    refine fitG_of z (zj [] ?_ ?_)<;>simp only[go_sem,upd,if_true,Bool.false_eq_true,if_false,hbk,H,G,E]
   ·skip
    have H:=upT hdn hde [12,11,10,9,7,8,6,3,5,2,4,1,0] (by decide +kernel)
    have G:=dnT hdn hbk [24,25,26] (by decide +kernel)
    simp only[allB,and_true] at H G
    refine .inr ⟨⟨35,by kernel_rfl,.inl (by simp only[go_sem,if_true,H])⟩,?_⟩
    simp only[go_sem,upd,if_true,Bool.false_eq_true,if_false,hbk,H,G,E]
    refine fitG_of z (zj [] ?_ ?_)<;>simp only[go_sem,upd,if_true,Bool.false_eq_true,if_false,hbk,H,G,E]
   ·skip
    have H:=upT hdn hde [12,11,10,9,7,8,6,3,5,2,4,1,0] (by decide +kernel)
    have G:=dnT hdn hbk [16,24,25,26] (by decide +kernel)
    simp only[allB,and_true] at H G
    refine .inr ⟨⟨35,by kernel_rfl,.inl (by simp only[go_sem,if_true,H])⟩,?_⟩
    simp only[go_sem,upd,if_true,Bool.false_eq_true,if_false,hbk,H,G,E]
    refine fitG_of z (zj [] ?_ ?_)<;>simp only[go_sem,upd,if_true,Bool.false_eq_true,if_false,hbk,H,G,E]
   ·skip
    have H:=upT hdn hde [12,15,11,10,9,7,8,6,3,5,2,4,1,0] (by decide +kernel)
    have G:=dnT hdn hbk [24,25,26] (by decide +kernel)
    simp only[allB,and_true] at H G
    refine .inr ⟨⟨35,by kernel_rfl,.inl (by simp only[go_sem,if_true,H])⟩,?_⟩
    simp only[go_sem,upd,if_true,Bool.false_eq_true,if_false,hbk,H,G,E]
    refine fitG_of z (zj [] ?_ ?_)<;>simp only[go_sem,upd,if_true,Bool.false_eq_true,if_false,hbk,H,G,E]
   ·skip
    have H:=upT hdn hde [12,11,10,9,7,8,6,3,5,2,4,1,0] (by decide +kernel)
    have G:=dnT hdn hbk [18,22,24,25,26] (by decide +kernel)
    simp only[allB,and_true] at H G
    refine .inr ⟨⟨35,by kernel_rfl,.inl (by simp only[go_sem,if_true,H])⟩,?_⟩
    simp only[go_sem,upd,if_true,Bool.false_eq_true,if_false,hbk,H,G,E]
    refine fitG_of z (zj [] ?_ ?_)<;>simp only[go_sem,upd,if_true,Bool.false_eq_true,if_false,hbk,H,G,E]
   ·skip
    have H:=upT hdn hde [12,12,17,11,10,9,7,8,6,3,5,2,4,1,0] (by decide +kernel)
    have G:=dnT hdn hbk [22,24,25,26] (by decide +kernel)
    simp only[allB,and_true] at H G
    refine .inr ⟨⟨35,by kernel_rfl,.inl (by simp only[go_sem,if_true,H])⟩,?_⟩
    simp only[go_sem,upd,if_true,Bool.false_eq_true,if_false,hbk,H,G,E]
    refine fitG_of z (zj [] ?_ ?_)<;>simp only[go_sem,upd,if_true,Bool.false_eq_true,if_false,hbk,H,G,E]
   ·skip
    have H:=upT hdn hde [12,11,10,9,7,8,6,3,5,2,4,1,0] (by decide +kernel)
    have G:=dnT hdn hbk [20,21,22,24,25,26] (by decide +kernel)
    simp only[allB,and_true] at H G
    refine .inr ⟨⟨35,by kernel_rfl,.inl (by simp only[go_sem,if_true,H])⟩,?_⟩
    simp only[go_sem,upd,if_true,Bool.false_eq_true,if_false,hbk,H,G,E]
    refine fitG_of z (zj [] ?_ ?_)<;>simp only[go_sem,upd,if_true,Bool.false_eq_true,if_false,hbk,H,G,E]
   ·skip
    have H:=upT hdn hde [12,19,11,10,9,7,8,6,3,5,2,4,1,0] (by decide +kernel)
    have G:=dnT hdn hbk [21,22,24,25,26] (by decide +kernel)
    simp only[allB,and_true] at H G
    refine .inr ⟨⟨35,by kernel_rfl,.inl (by simp only[go_sem,if_true,H])⟩,?_⟩
    simp only[go_sem,upd,if_true,Bool.false_eq_true,if_false,hbk,H,G,E]
    refine fitG_of z (zj [] ?_ ?_)<;>simp only[go_sem,upd,if_true,Bool.false_eq_true,if_false,hbk,H,G,E]
   ·skip
    have H:=upT hdn hde [12,20,11,19,10,9,7,8,6,3,5,2,4,1,0] (by decide +kernel)
    have G:=dnT hdn hbk [22,24,25,26] (by decide +kernel)
    simp only[allB,and_true] at H G
    refine .inr ⟨⟨35,by kernel_rfl,.inl (by simp only[go_sem,if_true,H])⟩,?_⟩
    simp only[go_sem,upd,if_true,Bool.false_eq_true,if_false,hbk,H,G,E]
    refine fitG_of z (zj [] ?_ ?_)<;>simp only[go_sem,upd,if_true,Bool.false_eq_true,if_false,hbk,H,G,E]
   ·skip
    have H:=upT hdn hde [12,18,18,21,11,17,20,10,19,9,7,8,6,3,5,2,4,1,0] (by decide +kernel)
    have G:=dnT hdn hbk [24,25,26] (by decide +kernel)
    simp only[allB,and_true] at H G
    refine .inr ⟨⟨35,by kernel_rfl,.inl (by simp only[go_sem,if_true,H])⟩,?_⟩
    simp only[go_sem,upd,if_true,Bool.false_eq_true,if_false,hbk,H,G,E]
    refine fitG_of z (zj [] ?_ ?_)<;>simp only[go_sem,upd,if_true,Bool.false_eq_true,if_false,hbk,H,G,E]
   ·skip
    have H:=upT hdn hde [12,11,10,9,7,8,6,3,5,2,4,1,0] (by decide +kernel)
    have G:=dnT hdn hbk [24,25,26] (by decide +kernel)
    simp only[allB,and_true] at H G
    refine .inr ⟨⟨35,by kernel_rfl,.inl (by simp only[go_sem,if_true,H])⟩,?_⟩
    simp only[go_sem,upd,if_true,Bool.false_eq_true,if_false,hbk,H,G,E]
    refine fitG_of z (zj [] ?_ ?_)<;>simp only[go_sem,upd,if_true,Bool.false_eq_true,if_false,hbk,H,G,E]
   ·skip
    have H:=upT hdn hde [12,13,14,16,22,22,23,11,15,18,21,10,17,20,9,19,7,8,6,3,5,2,4,1,0] (by decide +kernel)
    have G:=dnT hdn hbk [25,26] (by decide +kernel)
    simp only[allB,and_true] at H G
    refine .inr ⟨⟨35,by kernel_rfl,.inl (by simp only[go_sem,if_true,H])⟩,?_⟩
    simp only[go_sem,upd,if_true,Bool.false_eq_true,if_false,hbk,H,G,E]
    refine fitG_of z (zj [] ?_ ?_)<;>simp only[go_sem,upd,if_true,Bool.false_eq_true,if_false,hbk,H,G,E]
   ·skip
    have H:=upT hdn hde [12,24,11,13,14,16,22,23,10,15,18,21,9,17,20,7,8,19,6,3,5,2,4,1,0] (by decide +kernel)
    have G:=dnT hdn hbk [26] (by decide +kernel)
    simp only[allB,and_true] at H G
    refine .inr ⟨⟨35,by kernel_rfl,.inl (by simp only[go_sem,if_true,H])⟩,?_⟩
    simp only[go_sem,upd,if_true,Bool.false_eq_true,if_false,hbk,H,G,E]
    refine fitG_of z (zj [] ?_ ?_)<;>simp only[go_sem,upd,if_true,Bool.false_eq_true,if_false,hbk,H,G,E]
   ·skip
    have H:=upT hdn hde [12,25,11,24,10,13,14,16,22,23,9,15,18,21,7,8,17,20,6,19,3,5,2,4,1,0] (by decide +kernel)
    simp only[allB,and_true] at H
    refine .inl ⟨trivial,.inl (.inl ?_)⟩
    simp only[go_sem,upd,if_true,Bool.false_eq_true,if_false,hbk,H,E]
    refine fitG_of z (zj [] ?_ ?_)<;>simp only[go_sem,upd,if_true,Bool.false_eq_true,if_false,hbk,H,E]
   intro b vs z hb
   simp only[go_sem,ygF2,ygR2,vI,hb,if_true,cond_true,List.cons_append,List.nil_append];rw[hSA]
   apply zw (zk [10,49]);simp only[go_sem]
   repeat apply zq
   apply zc rfl<;>intro hc<;>(try simp only[go_sem] at hc)
   apply zx
   try simp only[go_sem]
   refine zj (F:=fun _=>[]) [] ?_ ?_
   ·try simp only[go_sem]
   ·try simp only[go_sem]
 ·intro vs us _
  have hTl:(T.map thrR).length=T.length:=List.length_map _
  rw[hTl,hrE]
  try simp only[go_sem]
  refine zw (sub_wake rfl) ?_
  repeat apply zq
  refine zb fun K hK=>?_;simp only[go_sem];(try simp (disch:=omega) only[zI]);repeat first|intro _|refine⟨by omega,?_⟩
  apply hK;clear hK K;apply zw (zk [10]);simp only[go_sem];apply ze;exact⟨true,ll,by simp only[go_sem],rfl⟩
theorem ways_ok (bs:List Int) (g:Int) (hB:∀ b∈bs,bedOk b=true∧0≤b∧b≤499) (m dn:Nat) (hm:m≤1000) (hdn:dn≤6):∀ (k s:Nat) (fi:List Int),s≤m→k≤dn→fi.length+k≤9 →
 YCalls Tryz.prog 106 (fun ll=>[brdP bs g (cntO g bs m dn),i64 (s:Int),i64 (k:Int),ints fi,.yl ll]) ((waysO g bs m k s fi).map fun w=>[ints w])
 | 0,s,fi,_,_,_=>ways_zero bs g m dn s fi
 | k+1,s,fi,hs,hk,hf=>ways_succ bs g hB m dn hm k s fi hs hk hf fun y x hy=>ways_ok bs g hB m dn hm hdn k y (fi++[x]) hy (by omega) (by simp;omega)
end Go.Proofs.YtgfbenanljjgaaaGreat.Du

namespace Go.Oc
open Go Go.RowKit
def IBCalls (P:Program) (z:Bool) (F:FuncId) (caps:List RV) (xs:List (List RV)):Prop :=
 callable P F=true∧∀ (w:World) (R:Nat→Prop) (vs:Array Value) (X:XS) (Ψ Θ:Nat→Prop),(∀ b,R b→b<w.heap.size)→RV.relV w R caps vs.toList→X.z=z→(z=false→∀ b,R b→X.R b)→X.n0≤w.heap.size→YOk P X →
  (∀ b,Ψ b→b<w.heap.size)→(∀ b,Θ b→b<w.heap.size)→(∀ b,R b→¬ Θ b)→X.X (some xs) w Ψ Θ →
  Calls P F (vs ++ #[.func (.yield X.l) #[] #[]]) w fun e w'=>(∃ v,e = .returned v)∧(∃ Ψ' Θ',X.X (some []) w' Ψ' Θ'∨X.X none w' Ψ' Θ')
theorem ibcalls_st {P:Program}{z:Bool}{f:FuncId}{fn:Func}{c:Code}{n:Nat}{caps:List RV}{xs:List (List RV)}(hf:P.funcs[f]? = some fn) (hb:fn.body=some c) (hc:callable P f=true) (hn:fn.ntmps=n) (hres:fn.results.toList=[])
 (hargs:caps.length+1≤n) (h:∀ C l,awp P C c (ipost P) (st n (argL 0 (caps++[.yl l])) (fun _=>0) [(999,.gh P l z (some xs))])):IBCalls P z f caps xs:=by
 refine⟨hc,fun w R vs0 X Ψ Θ hR hV0 hz hzR hn0 hY hΨ hΘ hRΘ hX=>?_⟩
 have hV:RV.relV w R (caps++[.yl X.l]) (vs0 ++ #[Value.func (.yield X.l) #[] #[]]).toList:=by
  rw[Array.toList_append]
  refine RV.relV_append hV0 ?_
  simp only[RV.relV];exact⟨Value.func (.yield X.l) #[] #[],[],by simp,by simp only[RV.rel],rfl⟩
 generalize vs0 ++ #[Value.func (.yield X.l) #[] #[]]=vs at hV
 have hlen:=RV.relV_length hV
 simp only[Array.length_toList,List.length_append,List.length_cons,List.length_nil] at hlen
 let C:Ctx:={ w0:=w,R0:=R,bor:=Θ,pin:=fun _=>none,X:=X }
 let p:Plan:={ R:=R,β:=fun _=>none,γ:=fun _=>1,X:=X,Ψ:=Ψ,Θ:=Θ }
 have hs:SR C p (st n (argL 0 (caps++[.yl X.l])) (fun _=>0) [(999,.gh P X.l z (some xs))]) { tmps:=vs++Array.replicate (fn.ntmps-vs.size) undef,defers:=[] } w:={
  base:=⟨rfl,rfl,rfl,Nat.le_refl _,fun _ _ _ _=>rfl⟩
  r0:=fun _ h=>h
  rn:=fun _ h=>.inl h
  rb:=hR
  tm:=fun t=>by
   show (look (argL 0 (caps++[.yl X.l])) t).rel _ _ _ _
   by_cases hmem:∃ x,(t,x)∈argL 0 (caps++[RV.yl X.l])
   ·cases e:(caps++[RV.yl X.l])[t]? with
    | none =>
      obtain⟨x,hx⟩:=hmem
      obtain⟨i,y,h1,h2⟩:=argL_mem _ hx
      simp only[Nat.zero_add,Prod.mk.injEq] at h1
      rw[← h1.1,e] at h2;cases h2
    | some x =>
      obtain⟨u,hu,hx⟩:=RV.relV_get hV e
      have:(vs++Array.replicate (fn.ntmps-vs.size) undef).getD t undef=u:=by
       have ht:t<vs.size:=by have:=(List.getElem?_eq_some_iff.1 hu).1;simpa using this
       rw[Array.getD_eq_getD_getElem?,Array.getElem?_append_left ht]
       simp only[Array.getElem?_toList] at hu
       rw[hu];rfl
      have e2:=argL_look (k:=0) e
      rw[Nat.zero_add] at e2
      rw[this,e2]
      simpa only[AV.rel] using hx
   ·rw[look_none hmem]
    exact AV.rel_un _ _ _ _
  sz:=by simp only[Array.size_append,Array.size_replicate,st];omega
  ex:={
   px:=rfl
   n0:=hn0
   ψ0:=fun hz' b hb=>hzR (hz▸hz') b hb
   ψl:=hΨ
   θl:=hΘ
   ψb:=fun k b h=>by cases h
   ψr:=hRΘ
   ψo:=fun b h=>h.elim
   θo:=fun b h _=>h
   bo:=fun b h=>h.elim (hΘ b) (fun h=>h.elim)
   ψn:=fun hn=>(hn _ _ _ _ hX).elim
   hd:=fun b h=>h.elim
   rm:=fun _=>rfl
   df:=⟨[],rfl,List.nodup_nil,fun D hD=>by cases hD⟩ }
  rw:=fun k=>by
   show zrl w p _ k (lookc [(999,RowC.gh P X.l z (some xs))] k)
   rw[zlc,lookc_nil]
   split
   ·rename_i e
    simp only[zrl];exact⟨e,rfl,rfl,rfl,hz,hY,hX⟩
   ·simp only[zrl];exact⟨rfl,rfl⟩
  bl:=fun k b h=>by simp [p] at h
  ij:=fun k k' b h=>by simp [p] at h
  cap:=fun k=>by simp [p,maxLen]
  pn:=fun k x h=>by cases h
  lk:=fun j km n l cur h _=>by
   have h':lookc [(999,RowC.gh P X.l z (some xs))] j = .mi km n l cur:=h
   rw[zlc,lookc_nil] at h'
   split at h'<;>cases h' }
 refine callsIn_wide.1 (callsIn_of_wp_marks (n:=0) hf hb trivial (wpIn_mono (h C X.l _ w ⟨p,hs⟩) ?_))
 rintro e a' w' ⟨s',⟨p',hs'⟩,hq⟩
 have fin:∀ (a':Act) (w':World),SR C p' s' a' w'→(∃ l z,(s'.rows 999).c = .gh P l z (some [])∨(s'.rows 999).c = .gh P l z none) →
  ∃ v,(results fn a'.tmps).run P w' = .ok v w'∧((∃ v',Ending.returned v = .returned v')∧∃ Ψ' Θ',X.X (some []) w' Ψ' Θ'∨X.X none w' Ψ' Θ'):=fun a' w' hs' ⟨l,z',hq⟩=>by
  have hm:(fn.results.mapM (resOp a'.tmps)).run P w' = .ok #[] w':=by
   rw[Array.mapM_eq_mapM_toList,hres]
   simp only[Sem.run_map,List.mapM_nil,Sem.run_pure,Result.andThen_ok]
  refine⟨.tuple #[],by rw[results_eq,Sem.run_bind,hm];simp,⟨_,rfl⟩,p'.Ψ,p'.Θ,?_⟩
  have hpx:p'.X=X:=hs'.ex.px
  have hr:=hs'.rw 999
  rcases hq with hq|hq
  ·rw[hq] at hr
   simp only[zrl] at hr
   rw[hpx] at hr
   exact .inl hr.2.2.2.2.2.2
  ·rw[hq] at hr
   simp only[zrl] at hr
   rw[hpx] at hr
   exact .inr hr.2.2.2.2.2.2
 cases e with
 | normal=>exact hs'.leave fun a'' w'' _ hs''=>fin a'' w'' hs'' hq
 | ret=>exact hs'.leave fun a'' w'' _ hs''=>fin a'' w'' hs'' hq
 | _=>exact hq.elim
section
variable {P:Program}{C:Ctx}{p:Plan}{s:AS}{a:Act}{w:World}
set_option maxHeartbeats 400000 in
theorem awp_rangeFuncB {g:Operand}{ps:Array Tmp}{assign body:Code}{Q:Exit→AS→Prop}(hrd:C.rd=none) (hC:C.X=XS.none) {F:FuncId}{args:List RV}{xs:List (List RV)}{z:Bool}
 (hF:s.ev g = .r (.bf F args)) (hI:IBCalls P z F args xs) (hdead:(s.rows 0).c = .dead) (ts:List Nat) (hps:∀ t∈ps.toList,t<s.n)
 (I:List (List RV)→List Value→AS→Prop) (J:Code→List Value→AS→Prop)
 (h0:∀ us,I xs us { n:=s.n,tm:=look [],rows:=upd s.rows 0 ⟨(s.rows 0).ver,.sus (ts.map s.tm) us⟩ })
 (round:∀ e rest us s',s'.n=s.n→I (e::rest) us s'→e.length=ps.size∧∃ avs,(s'.rows 0).c = .sus avs us∧∀ C,awp P C assign (fun x s2=>x = .normal∧∀ C,awp P C body (rpost s.n I J rest us) s2) ⟨s.n,psA ps.toList e (look (ts.zip avs)),s'.rows⟩)
 (done:∀ us s',s'.n=s.n→I [] us s'→∃ avs,(s'.rows 0).c = .sus avs us∧Q .normal ⟨s.n,look (ts.zip avs),s'.rows⟩)
 (stop:∀ c us s',s'.n=s.n→J c us s'→∃ avs,(s'.rows 0).c = .sus avs us∧awp P C c Q ⟨s.n,look (ts.zip avs),s'.rows⟩):awp P C (.rangeFunc g ps assign body) Q s:=by
 rintro a w ⟨p,hS⟩
 have hn:∀ o w Ψ Θ,¬ C.X.X o w Ψ Θ:=fun o w Ψ Θ h=>by rw[hC] at h;exact h
 have hF0:fnc C.rd=Fence.wide:=by rw[hrd];rfl
 rw[hF0]
 refine wpIn_rangeFunc fun fn _=>?_
 obtain⟨vsC,hgv,hcs⟩:∃ vs:Array Value,a.eval g = .func (.func F) vs #[]∧RV.relV w p.R args vs.toList:=by
  have:=hS.ev g
  rw[hF] at this
  simpa only[AV.rel,RV.rel] using this
 have hψ0:=hS.ex.ψn hn
 obtain⟨rec,hrec⟩:∃ rec:LoopState→Option Code→Loop,rec=fun st pe=>{ state:=st,pending:=pe,fn,tmps:=a.tmps,params:=ps,assign,body,defers:=w.heap.size }:=⟨_,rfl⟩
 obtain⟨w1,hw1⟩:∃ w1,(w.alloc (.deferred (some []))).alloc (.loop (rec .ready none))=w1:=⟨_,rfl⟩
 obtain⟨L,hLdef⟩:∃ L,L=w.heap.size+1:=⟨_,rfl⟩
 obtain⟨aL,haL⟩:∃ aL:Act,aL={ tmps:=a.tmps,defers:={ target:=.collected w.heap.size,args:=#[] }::a.defers }:=⟨_,rfl⟩
 have hS1:SR C p s aL w1:=by rw[haL,← hw1];exact hS.enter hrd _
 have hsz1:w1.heap.size=w.heap.size+2:=by rw[← hw1];simp
 have hL1:w1.heap[L]? = some (.loop (rec .ready none)):=by
  rw[← hw1,hLdef];have:=World.alloc_heap_new (w.alloc (.deferred (some []))) (.loop (rec .ready none));rwa [World.size_alloc] at this
 have hLR:¬ p.R L:=fun h=>by have:=hS.rb L h;omega
 have hLβ:∀ k,p.β k≠some L:=fun k h=>by have:=(hS.bl k L h).1;omega
 have hL0:C.w0.heap.size≤L:=by have:=hS.base.size;omega
 have hLm:∀ d∈aL.defers,d.target ≠ .collected L:=fun d hd e=>by
  obtain⟨Ds,g1,_,g3⟩:=hS1.ex.df
  rw[g1] at hd
  obtain⟨D,hD,rfl⟩:=List.mem_map.1 hd
  injection e with e
  subst e
  have:=(g3 _ hD).1
  rw[hL1] at this;cases this
 obtain⟨us,hus⟩:∃ us,us=ts.map fun t=>aL.tmps.getD t undef:=⟨_,rfl⟩
 have hS2:=hS1.wait hdead ts
 rw[← hus,← look_nil'] at hS2
 have htmps:aL.tmps=a.tmps:=by rw[haL]
 have hsn:s.n=aL.tmps.size:=by rw[htmps];exact hS.sz.symm
 let X:XS:={ l:=L,z:=z,n0:=w1.heap.size,R:=p.R,X:=XJ C aL L rec (fun left s'=>I left us s') (fun c s'=>J c us s'),st:=XJ.st hn }
 have hcap:RV.relV w1 p.R args vsC.toList:=RV.relV_mono (fun _ h=>h) (fun ad hr=>World.cell?_of_block (by rw[← hw1];exact (Below.heap_alloc _ _ _ (by have:=hS.rb _ hr;simp;omega)).trans (Below.heap_alloc _ _ _ (hS.rb _ hr)))) _ _ hcs
 have hY:YOk P X:=by
  intro e rest wv Ψ Θ R vs hX hR hV
  obtain⟨pv,sv,hSv,hsnv,⟨hIv,hLv⟩,hLRv,hLβv,hΨv,hΘv⟩:=hX
  have hψv:=hSv.ex.ψn hn
  obtain⟨hlen,avs,hrow,hround⟩:=round e rest us sv (hsnv.trans hsn.symm) hIv
  have hvs:vs.size=ps.size:=by have:=RV.relV_length hV;simp only[Array.length_toList] at this;omega
  have hltv:L<wv.heap.size:=(Array.getElem?_eq_some_iff.1 hLv).1
  have hy:=run_yield (P:=P) (args:=vs) hLv (by rw[hrec];exact hvs)
  rw[hrec] at hy
  refine⟨fn,_,assign,body,hy,?_⟩
  have hRβ:∀ b,R b→b<wv.heap.size∧∀ k,pv.β k≠some b:=fun b hb=>⟨(hR b hb).1,fun k hk=>(hR b hb).2.1 ((hΘv b).2 (.inl ⟨k,hk⟩))⟩
  have hRL:¬ R L:=fun hb=>(hR L hb).2.1 ((hΘv L).2 (.inr rfl))
  have hkv:Kept wv wv pv { pv with R:=fun b=>pv.R b∨R b } sv.ver sv.ver:=⟨fun _ h=>.inl h,fun _ _=>rfl,fun _=>Nat.le_refl _,fun _ _=>⟨rfl,rfl⟩⟩
  have haw:=hSv.awake (by rw[hrow,hus])
  have hzip:(ps.zip vs).foldl (fun tmps (x:Nat × Value)=>tmps.setIfInBounds x.1 x.2) a.tmps=(ps.toList.zip vs.toList).foldl (fun tmps (x:Nat × Value)=>tmps.setIfInBounds x.1 x.2) a.tmps:=by
   rw[← Array.foldl_toList,Array.toList_zip]
  obtain⟨hpsz,hprel⟩:=psA_rel (w:=wv) (p:={ pv with R:=fun b=>pv.R b∨R b }) (ver:=sv.ver) ps.toList e vs.toList (look (ts.zip avs)) a.tmps (RV.relV_mono (fun _ h=>.inr h) (fun _ _=>rfl) _ _ hV)
   (fun t ht=>by rw[← htmps,← hsn];exact hps t ht) (fun t=>by rw[← htmps];exact AV.rel_mono hkv _ _ (haw.tm t))
  let Hd:Nat→Prop:=fun b=>b=L∨∃ d∈aL.defers,d.target = .collected b
  have hHd:∀ b,Hd b→b<wv.heap.size∧¬ C.bor b∧¬ pv.R b∧¬ R b∧∀ k,pv.β k≠some b:=fun b hb=>by
   rcases hb with rfl|⟨d,hd,hdt⟩
   ·exact⟨hltv,fun hb=>by have:=hS.ex.bo b (.inl hb);omega,hLRv,hRL,hLβv⟩
   ·obtain⟨Ds,g1,_,g3⟩:=hSv.ex.df
    rw[g1] at hd
    obtain⟨D,hD,rfl⟩:=List.mem_map.1 hd
    injection hdt with hdt
    subst hdt
    obtain⟨k1,k2,k3,k4,k5,k6⟩:=g3 D hD
    refine⟨(Array.getElem?_eq_some_iff.1 k1).1,fun hb=>by have:=hS.ex.bo D (.inl hb);omega,k3,fun hr=>?_,k4⟩
    have hD1:D<w1.heap.size:=by
     obtain⟨Ds',q1,_,q3⟩:=hS1.ex.df
     have:Ds'=Ds:=marks_inj (q1.symm.trans g1)
     subst this
     exact (Array.getElem?_eq_some_iff.1 (q3 D hD).1).1
    rcases (hR D hr).2.2 with q|q
    ·obtain⟨Ds',q1,_,q3⟩:=hS1.ex.df
     have:Ds'=Ds:=marks_inj (q1.symm.trans g1)
     subst this
     exact (q3 D hD).2.2.1 q
    ·have q':w1.heap.size≤D:=q
     omega
  have hSa:=hSv.into (L:=L) (w2:=wv) (R:=R) (rd:=some L) (Hd:=Hd) (a':={ tmps:=(ps.zip vs).foldl (fun tmps (x:Nat × Value)=>tmps.setIfInBounds x.1 x.2) a.tmps,defers:=[] }) (tm':=psA ps.toList e (look (ts.zip avs)))
   hn rfl rfl rfl rfl (fun _ _=>rfl) hLRv hLβv hRβ (fun t=>by rw[hzip];exact hprel t) (by rw[hzip,hpsz,← htmps];exact hsnv.symm) rfl hHd hC
  have hna:=hsnv.trans hsn.symm
  refine roundIn_of_wpIn trivial ?_
  have hassign:=hround (Cin C pv R wv (some L) Hd) _ _ ⟨_,hna▸hSa⟩
  refine wpIn_mono hassign ?_
  rintro x a1 wa ⟨s1,⟨p1,hS1a⟩,rfl,hbody⟩
  have hLa:wa.heap[L]? = some (.loop (rec .ready none)):=(hS1a.base.block L hltv (fun ⟨hb,_⟩=>(hHd L (.inl rfl)).2.1 hb) (fun ⟨k,hk,_⟩=>hLβv k hk)).trans hLv
  have hlta:L<wa.heap.size:=(Array.getElem?_eq_some_iff.1 hLa).1
  refine⟨_,run_beginRound hLa (by rw[hrec]),?_⟩
  have hop1:=Hop.of (L:=L) (w:=wv) (w2:=wv) rfl rfl rfl rfl (fun _ _=>rfl) hS1a
  have hHd1:∀ b,Hd b→b<wa.heap.size∧¬ (Cin C pv R wv (some L) Hd).bor b∧¬ p1.R b∧¬ False∧∀ k,p1.β k≠some b:=fun b hb=>by
   obtain⟨_,q2,_,q4,q5,_,_,q8⟩:=hS1a.ex.hd b hb
   exact⟨q4,q2,q5,fun h=>h,q8⟩
  have hS1b:=hS1a.into (L:=L) (w2:=wa.putObj L (.loop { rec .ready none with state:=.busy })) (R:=fun _=>False) (rd:=some L) (Hd:=Hd) (a':=a1) (tm':=s1.tm) hn rfl rfl rfl World.putObj_size putObj_other
   (hHd1 L (.inl rfl)).2.2.1 (hHd1 L (.inl rfl)).2.2.2.2 (fun _ h=>h.elim) (fun t=>by
    have hk1:Kept wa (wa.putObj L (.loop { rec .ready none with state:=.busy })) p1 { p1 with R:=fun b=>p1.R b∨False } s1.ver s1.ver :=
     ⟨fun _ h=>.inl h,fun ad hr=>World.cell?_of_block (putObj_other _ fun e=>(hHd1 L (.inl rfl)).2.2.1 (e▸hr)),fun _=>Nat.le_refl _,fun _ _=>⟨rfl,rfl⟩⟩
    exact AV.rel_mono hk1 _ _ (hS1a.tm t)) hS1a.sz (hS1a.ex.rm rfl) hHd1 hC
  refine wpIn_mono (hbody _ _ _ ⟨_,hS1b⟩) ?_
  have hLb:(wa.putObj L (.loop { rec .ready none with state:=.busy })).heap[L]? = some (.loop { rec .ready none with state:=.busy }):=World.putObj_heap_same hlta
  have hRo:∀ b,R b→b<wv.heap.size∧(∀ d∈aL.defers,d.target ≠ .collected b)∧¬ C.hd b∧(C.R0 b∨C.w0.heap.size≤b∨C.own b):=fun b hb=>by
   have hsz0:=hS.base.size
   refine⟨(hR b hb).1,fun d hd hdt=>(hHd b (.inr ⟨d,hd,hdt⟩)).2.2.2.1 hb,fun hh=>?_,?_⟩
   ·obtain⟨q1,_,_,_,q5,_⟩:=hS.ex.hd b hh
    rcases (hR b hb).2.2 with q|q
    ·exact q5 q
    ·have q':w1.heap.size≤b:=q;omega
   ·rcases (hR b hb).2.2 with q|q
    ·exact hS.rn b q
    ·have q':w1.heap.size≤b:=q;exact .inr (.inl (by omega))
  have fin:∀ (jump:Option Code) (s3:AS) (p3:Plan) (a3:Act) (w3:World),SR (Cin (Cin C pv R wv (some L) Hd) p1 (fun _=>False) (wa.putObj L (.loop { rec .ready none with state:=.busy })) (some L) Hd) p3 s3 a3 w3 →
   (match jump with|none=>∃ s4,Sub s3 s4∧I rest us ⟨s.n,look [],s4.rows⟩|some c=>∃ s4,Sub s3 s4∧J c us ⟨s.n,look [],s4.rows⟩) →
   ∃ v w', (Instr.endRound L jump).run P w3 = .ok v w'∧(w'.os=wv.os∧w'.tape=wv.tape∧w'.output=wv.output∧wv.heap.size≤w'.heap.size∧(∀ b, b<wv.heap.size→¬ Θ b→w'.heap[b]? = wv.heap[b]?) ∧
     ∃ Ψ' Θ':Nat→Prop,(∀ b,Ψ' b→Ψ b∨R b∨wv.heap.size≤b)∧(∀ b,Θ' b→Θ b∨wv.heap.size≤b)∧(∀ b,Ψ' b→b<w'.heap.size)∧(∀ b,Θ' b→b<w'.heap.size) ∧
     ((Ending.returned v = .returned (.bool true)∧X.X (some rest) w' Ψ' Θ')∨(Ending.returned v = .returned (.bool false)∧X.X Option.none w' Ψ' Θ'))):=by
   intro jump s30 p30 a3 w3 h30 hj0
   obtain⟨s3,hsub,hj⟩:∃ s4,Sub s30 s4∧(match jump with|none=>I rest us ⟨s.n,look [],s4.rows⟩|some c=>J c us ⟨s.n,look [],s4.rows⟩):=by
    cases jump with
    | none=>exact hj0
    | some c=>exact hj0
   obtain⟨p3,h3⟩:=hsub _ _ _ ⟨p30,h30⟩
   have hL3:w3.heap[L]? = some (.loop { rec .ready none with state:=.busy }):=by
    refine (h3.base.block L (by show L<(wa.putObj L _).heap.size;rw[World.putObj_size];exact hlta) (fun ⟨hb,_⟩=>(hHd1 L (.inl rfl)).2.1 hb) (fun ⟨k,hk,_⟩=>(hHd1 L (.inl rfl)).2.2.2.2 k hk)).trans hLb
   obtain⟨_,_,_,_,e5,_,_,e8⟩:=h3.ex.hd L (.inl rfl)
   have hend:=run_endRound (P:=P) jump hL3
   have hlt3:L<w3.heap.size:=(Array.getElem?_eq_some_iff.1 hL3).1
   have hop2:=Hop.of (C:=Cin C pv R wv (some L) Hd) (p:=p1) (L:=L) (w:=wa) (w2:=wa.putObj L (.loop { rec .ready none with state:=.busy })) (R:=fun _=>False) rfl rfl rfl World.putObj_size putObj_other h3
   obtain⟨o4,ho4⟩:∃ o4,o4=Obj.loop { { rec .ready none with state:=.busy } with state:=if jump.isNone then .ready else .done,pending:=jump }:=⟨_,rfl⟩
   rw[← ho4] at hend
   have hop:=(Hop.trans (C':=Cin C pv R wv (some L) Hd) hop1 (fun _=>Iff.rfl) hop2).put (o:=o4)
   have hL4:(w3.putObj L o4).heap[L]? = some (.loop (rec (if jump.isNone then .ready else .done) jump)):=by
    rw[World.putObj_heap_same hlt3,ho4,hrec]
   have hS4:SR C p3 ⟨s.n,look [],s3.rows⟩ aL (w3.putObj L o4):=by
    have:=hSv.land (C':=Cin (Cin C pv R wv (some L) Hd) p1 (fun _=>False) (wa.putObj L (.loop { rec .ready none with state:=.busy })) (some L) Hd) hn hL0 hLm hop hRo rfl rfl h3 e5 e8 rfl rfl rfl World.putObj_size putObj_other
    rw[hna,← look_nil'] at this
    exact this
   have hψ4:=hS4.ex.ψn hn
   refine⟨_,_,hend,hop.os,hop.tape,hop.output,hop.size,fun b hb hθ=>hop.heap b hb (fun k hk=>hθ ((hΘv b).2 (.inl ⟨k,hk⟩))) (fun e=>hθ ((hΘv b).2 (.inr e))),
    fun b=>p3.R b∨(∃ k,p3.β k=some b)∨(b<C.w0.heap.size∧¬ C.bor b∧¬ C.own b)∨b=L∨C.hd b∨∃ d∈aL.defers,d.target = .collected b,fun b=>(∃ k,p3.β k=some b)∨b=L,fun b hb=>?_,fun b hb=>?_,fun b hb=>?_,fun b hb=>?_,?_⟩
   ·rcases hb with g|⟨k,g⟩|g|g|g|g
    ·rcases hop.rn b g with q|q|q|⟨k,q,_⟩
     ·exact .inl ((hΨv b).2 (.inl q))
     ·exact .inr (.inl q)
     ·exact .inr (.inr q)
     ·exact .inl ((hΨv b).2 (.inr (.inl ⟨k,q⟩)))
    ·rcases hop.bl k b g with q|⟨_,_,k',_,q⟩|⟨k',q,_⟩
     ·exact .inr (.inr q)
     ·exact .inl ((hΨv b).2 (.inr (.inl ⟨k',q⟩)))
     ·exact .inl ((hΨv b).2 (.inr (.inl ⟨k',q⟩)))
    ·exact .inl ((hΨv b).2 (.inr (.inr (.inl g))))
    ·exact .inl ((hΨv b).2 (.inr (.inr (.inr (.inl g)))))
    ·exact .inl ((hΨv b).2 (.inr (.inr (.inr (.inr (.inl g))))))
    ·exact .inl ((hΨv b).2 (.inr (.inr (.inr (.inr (.inr g))))))
   ·rcases hb with⟨k,g⟩|g
    ·rcases hop.bl k b g with q|⟨_,_,k',_,q⟩|⟨k',q,_⟩
     ·exact .inr q
     ·exact .inl ((hΘv b).2 (.inl ⟨k',q⟩))
     ·exact .inl ((hΘv b).2 (.inl ⟨k',q⟩))
    ·exact .inl ((hΘv b).2 (.inr g))
   ·have hsz4:=hS4.base.size
    rcases hb with g|⟨k,g⟩|g|rfl|g|⟨d,hd,hdt⟩
    ·exact hS4.rb b g
    ·exact (hS4.bl k b g).1
    ·omega
    ·rw[World.putObj_size];exact hlt3
    ·exact (hS4.ex.hd b g).2.2.2.1
    ·exact Nat.lt_of_lt_of_le (hHd b (.inr ⟨d,hd,hdt⟩)).1 hop.size
   ·rcases hb with⟨k,g⟩|rfl
    ·exact (hS4.bl k b g).1
    ·rw[World.putObj_size];exact hlt3
   ·cases jump with
    | none=>exact .inl ⟨rfl,p3,_,hS4,hsn,⟨hj,hL4⟩,e5,e8,fun _=>Iff.rfl,fun _=>Iff.rfl⟩
    | some c=>exact .inr ⟨rfl,p3,_,hS4,hsn,⟨c,hj,hL4⟩,e5,e8,fun _=>Iff.rfl,fun _=>Iff.rfl⟩
  rintro en a3 w3 ⟨s3,⟨p3,h3⟩,hq⟩
  cases en with
  | normal=>exact fin none s3 p3 a3 w3 h3 hq
  | ret=>exact fin (some .ret) s3 p3 a3 w3 h3 hq
  | exit id=>exact fin (some (.exit id)) s3 p3 a3 w3 h3 hq
  | goto l=>exact fin (some (.goto l)) s3 p3 a3 w3 h3 hq
  | panic ch=>exact hq.elim
  | outgrown=>exact hq.elim
 have hX0:X.X (some xs) w1 (fun b=>p.R b∨(∃ k,p.β k=some b)∨(b<C.w0.heap.size∧¬ C.bor b∧¬ C.own b)∨b=L∨C.hd b∨∃ d∈aL.defers,d.target = .collected b) (fun b=>(∃ k,p.β k=some b)∨b=L) :=
  ⟨p,_,hS2,hsn,⟨h0 us,hL1⟩,hLR,hLβ,fun _=>Iff.rfl,fun _=>Iff.rfl⟩
 have hlt1:L<w1.heap.size:=(Array.getElem?_eq_some_iff.1 hL1).1
 have hcall:=hI.2 w1 p.R vsC X _ _ hS1.rb hcap rfl (fun hz b hb=>hb) (Nat.le_refl _) hY (fun b hb=>by
  have hszw:=hS1.base.size
  rcases hb with g|⟨k,g⟩|g|rfl|g|⟨d,hd,hdt⟩
  ·exact hS1.rb b g
  ·exact (hS1.bl k b g).1
  ·omega
  ·exact hlt1
  ·exact (hS1.ex.hd b g).2.2.2.1
  ·obtain⟨Ds,g1,_,g3⟩:=hS1.ex.df
   rw[g1] at hd
   obtain⟨D,hD,rfl⟩:=List.mem_map.1 hd
   injection hdt with hdt
   subst hdt
   exact (Array.getElem?_eq_some_iff.1 (g3 D hD).1).1) (fun b hb=>by
  rcases hb with⟨k,g⟩|rfl
  ·exact (hS1.bl k b g).1
  ·exact hlt1) (fun b hb hθ=>by
  rcases hθ with⟨k,g⟩|rfl
  ·exact (hS1.bl k b g).2.1 hb
  ·exact hLR hb) hX0
 have e1:(Instr.enterLoop fn a.tmps ps assign body none).run P w = .ok (L,[{ target:=.collected w.heap.size,args:=#[] }]) w1:=by
  rw[run_enterLoop_outer,← hw1,hrec,hLdef]
 have e2:(resolve a.eval (rangeCall g L) 0).run P w1 = .ok { target:=.fn (.func F) #[],args:=vsC ++ #[.func (.yield L) #[] #[]] } w1:=by
  simp only[resolve,hgv,Sem.run_bind,Deferred.ofValue,Sem.run_pure,Result.andThen_ok]
  simp [Act.eval]
 have e3:(invoke (.fn (.func F) #[]) (vsC ++ #[.func (.yield L) #[] #[]])).run P w1 = .ok (.enter F (vsC ++ #[.func (.yield L) #[] #[]])) w1:=by
  simp only[invoke]
  have:=run_callFunc hI.1 (vsC ++ #[.func (.yield L) #[] #[]] ++ #[]) w1
  simpa using this
 have e4:Fence.wide.depth.isSome=true→1≤0:=fun h=>by simp [Fence.wide] at h
 refine⟨L,_,w1,_,w1,F,_,w1,e1,e2,?_,e3,e4,?_⟩
 ·intro f' _;exact trivial
 ·refine callsIn_wide.2 (hcall.mono ?_)
  have haL':({ a with defers:=[{ target:=.collected w.heap.size,args:=#[] }]++a.defers }:Act)=aL:=by rw[haL];rfl
  rintro e w' ⟨⟨v,rfl⟩,Ψ',Θ',hX|hX⟩
  ·obtain⟨p',s',hS',hsn',⟨hI',hL'⟩,hLR',hLβ',_⟩:=hX
   have hend:=run_endLoop (P:=P) hL' (by rw[hrec];simp)
   have hp:(rec .ready none).pending=none:=by rw[hrec]
   rw[hp] at hend
   refine⟨none,_,hend,?_⟩
   obtain⟨avs,hrow,hQ⟩:=done us s' (hsn'.trans hsn.symm) hI'
   have hS4:∀ o,SR C p' ⟨s.n,look (ts.zip avs),s'.rows⟩ aL (w'.putObj L o):=fun o=>by
    have:=(hS'.turn (o:=o) hLR' hLβ' hL0 (hS'.ex.ψn hn) hLm).awake (by rw[hrow,hus])
    rw[hsn'.trans hsn.symm] at this
    exact this
   rw[haL']
   exact⟨_,⟨_,hS4 _⟩,hQ⟩
  ·obtain⟨p',s',hS',hsn',⟨c,hJ',hL'⟩,hLR',hLβ',_⟩:=hX
   have hend:=run_endLoop (P:=P) hL' (by rw[hrec];simp)
   have hp:(rec .done (some c)).pending=some c:=by rw[hrec]
   rw[hp] at hend
   refine⟨some c,_,hend,?_⟩
   obtain⟨avs,hrow,hQ⟩:=stop c us s' (hsn'.trans hsn.symm) hJ'
   have hS4:∀ o,SR C p' ⟨s.n,look (ts.zip avs),s'.rows⟩ aL (w'.putObj L o):=fun o=>by
    have:=(hS'.turn (o:=o) hLR' hLβ' hL0 (hS'.ex.ψn hn) hLm).awake (by rw[hrow,hus])
    rw[hsn'.trans hsn.symm] at this
    exact this
   have hQ':=fun o=>hQ _ _ ⟨_,hS4 o⟩
   rw[hF0] at hQ'
   rw[haL']
   exact hQ' _
end
theorem awp_rangeFB {P:Program}{C:Ctx}{n:Nat}{s:AS}{t:Nat}{ps:Array Tmp}{assign body:Code}{Q:Exit→AS→Prop}(hC:C.rd=none∧C.X=XS.none) {f:FuncId}{caps:List RV}{z:Bool}(xs:List (List RV)) (hI:IBCalls P z f caps xs)
 (ts:List Nat) (hnd:ts.Nodup) (F:(Nat→Nat)→List (Nat × AV)) (R:Nat→(Nat→Nat)→List (Nat × RowC)) (I:Nat→Prop) (h0:FitV n F (R 0) s) (hi0:I 0)
 (hts:∀ vs,(F vs).map (·.1)=ts) (hg:∀ vs,look (F vs) t = .r (.bf f caps)) (hd:∀ i vs,lookc (R i vs) 0 = .dead) (hps:∀ t∈ps.toList,t<n) (hlen:∀ e∈xs,e.length=ps.size)
 (round:∀ i e vs us C,xs[i]? = some e→I i→awp P C assign (fun x s2=>x = .normal∧∀ C,awp P C body (rfpost n ts Q (fun s3=>I (i+1)∧∃ vs',Sub s3 (st n [] vs' ((0,.sus ((F vs').map (·.2)) us)::R (i+1) vs'))) us) s2)
  (st n (psL ps.toList e (F vs)) vs ((0,.sus ((F vs).map (·.2)) us)::R i vs)))
 (done:∀ vs us,I xs.length→Q .normal (st n (F vs) vs ((0,.sus ((F vs).map (·.2)) us)::R xs.length vs))):awp P C (.rangeFunc (.tmp t) ps assign body) Q s:=by
 obtain⟨vs0,h0⟩:=h0
 refine zw h0 ?_
 have hdrop:∀ i e rest,xs.drop i=e::rest→xs[i]? = some e∧xs.drop (i+1)=rest:=fun i e rest h=>by
  refine⟨?_,by rw[← List.drop_drop,h];rfl⟩
  have:(xs.drop i)[0]? = some e:=by rw[h];rfl
  simpa using this
 have hz:∀ vs,ts.zip ((F vs).map (·.2))=F vs:=fun vs=>by rw[← hts vs];exact zip_keys _
 refine awp_rangeFuncB hC.1 hC.2 (F:=f) (args:=caps) (xs:=xs) (z:=z) (by
  show look (F vs0) t=_
  rw[hg]) hI (hd 0 vs0) ts hps
  (fun left us s'=>∃ i vs,left=xs.drop i∧i≤xs.length∧I i∧s'=st n [] vs ((0,.sus ((F vs).map (·.2)) us)::R i vs))
  (fun c us s'=>∃ avs,(s'.rows 0).c = .sus avs us∧((c = .ret∧Q .ret ⟨n,look (ts.zip avs),s'.rows⟩)∨∃ id,c = .exit id∧Q (.exit id) ⟨n,look (ts.zip avs),s'.rows⟩))
  (fun us=>⟨0,vs0,rfl,Nat.zero_le _,hi0,?_⟩) ?_ ?_ ?_
 ·refine (upd_rows_st (c:=.sus (ts.map (st n (F vs0) vs0 (R 0 vs0)).tm) us)).trans ?_
  congr 3
  have hk:(F vs0).map (·.2)=ts.map (look (F vs0)):=by
   have:=look_keys (F vs0) (by rw[hts vs0];exact hnd)
   rw[hts vs0] at this
   exact this
  rw[hk];rfl
 ·rintro e rest us s' _ ⟨i,vs,hl,hle,hI',rfl⟩
  obtain⟨h1,h2⟩:=hdrop i e rest hl.symm
  refine⟨hlen e (List.mem_of_getElem? h1),(F vs).map (·.2),rfl,fun C'=>?_⟩
  have hr:=round i e vs us C' h1 hI'
  rw[hz,psA_look]
  refine awp_mono ?_ hr
  rintro x s2 ⟨hx,hbody⟩
  refine⟨hx,fun C''=>awp_mono ?_ (hbody C'')⟩
  intro x s3 hq
  cases x with
  | normal =>
    obtain⟨hI3,vs',hsub⟩:=hq
    refine⟨_,hsub,i+1,vs',h2.symm,?_,hI3,rfl⟩
    have:=(List.getElem?_eq_some_iff.1 h1).1
    omega
  | ret =>
    obtain⟨avs,h3,h4⟩:=hq
    exact⟨s3,Sub.refl _,avs,h3,.inl ⟨rfl,h4⟩⟩
  | exit id =>
    obtain⟨avs,h3,h4⟩:=hq
    exact⟨s3,Sub.refl _,avs,h3,.inr ⟨id,rfl,h4⟩⟩
  | goto l=>exact hq.elim
  | panic c=>exact hq.elim
  | outgrown=>exact hq.elim
 ·rintro us s' _ ⟨i,vs,hl,hle,hI',rfl⟩
  have hi:i=xs.length:=by
   have:(xs.drop i).length=0:=by rw[← hl];rfl
   rw[List.length_drop] at this;omega
  subst hi
  refine⟨(F vs).map (·.2),rfl,?_⟩
  have:=done vs us hI'
  rw[hz]
  exact this
 ·rintro c us s' _ ⟨avs,h3,h4⟩
  refine⟨avs,h3,?_⟩
  rcases h4 with⟨rfl,h4⟩|⟨id,rfl,h4⟩
  ·exact ze h4
  ·exact zf h4
theorem gop_method {P:Program}{s:AS}{o:Oper}{F:FuncId}{x:Operand}{K:AS→Prop}(ho:o.op = .makeFunc (.func F) #[x] #[]) {v:RV}(hx:s.ev x = .r v) (hK:K (s.put o.dst (.r (.bf F [v])))):gop P o K s:=by
 intro C p a w h hd hnd KW Q hKW
 have hv:v.rel w p.R (a.eval x):=by
  have:=h.ev x
  rw[hx] at this
  simpa only[AV.rel] using this
 have hr:(execOp a.eval o).run P w = .ok (.value (.func (.func F) #[a.eval x] #[])) w:=by
  simp [execOp,ho,Instr.makeFunc]
 refine wpIn_of_wp hnd ?_
 unfold Oper.wp
 rw[hr]
 have hput:=h.put' (d:=o.dst) (av:=.r (.bf F [v])) (v:=.func (.func F) #[a.eval x] #[]) (by simp only[AV.rel,RV.rel,RV.relV];exact⟨_,rfl,_,_,rfl,hv,rfl⟩) hd
 exact hKW _ _ p _ hput (app_n' _ _ _) hK
end Go.Oc

namespace Go.Proofs.YtgfbenanljjgaaaGreat.Du
open Go Go.Oc
set_option maxRecDepth 8000
set_option maxHeartbeats 4000000
def vH (b:Nat→Bool) (j:Nat) (v:AV):AV:=if b j then v else .r .un
def yhF (bs:List Int) (g dn s:Int) (cs:List (List Int)) (k1 k q:Int) (B:List Int) (ll:Nat) (gd:Bool) (b:Nat→Bool) (vs:Nat→Nat) (z:Bool):List (Nat × AV) :=
 [(1,.r (.yl ll)),(2,.r (.rp [brdP bs g cs,ints bs,i64 g,i64 dn,i64 s])),(4,.r (i64 k)),(7,.r (i64 dn)),(8,.r (i64 k)),
  (11,vH b 0 (.r (.rp [brdP bs g cs,ints bs,i64 g,i64 dn,i64 s]))),
  (12,vH b 1 (.r (brdP bs g cs))),
  (13,vH b 2 (.r (brdP bs g cs))),
  (14,vH b 3 (.r (.rp [tabR cs]))),
  (15,vH b 4 (.r (tabR cs))),
  (16,vH b 5 (.r (i64 k))),
  (17,vH b 6 (.r (i64 k1))),
  (18,vH b 7 (.r (.rp [ints B]))),
  (19,vH b 8 (.r (ints B))),
  (20,vH b 9 (.r (.rp [i64 s]))),
  (21,vH b 10 (.r (i64 s))),
  (22,vH b 11 (.r (.rp [i64 q]))),
  (23,vH b 12 (.r (i64 q))),
  (24,vH b 13 (.r (.bo gd))),
  (25,vH b 14 (.r (.bo gd))),
  (26,vH b 15 (.r (.rp [brdP bs g cs,ints bs,i64 g,i64 dn,i64 s]))),
  (27,vH b 16 (.r (brdP bs g cs))),
  (28,vH b 17 (.r (.rp [i64 s]))),
  (29,vH b 18 (.r (i64 s))),
  (30,vH b 19 (.r (i64 k))),
  (31,vH b 20 (.r (i64 k1))),
  (32,vH b 21 (.r (.yl ll))),
  (33,vH b 22 (.r (.bo z))),
  (34,vH b 23 (.r (.bo (!z)))),
  (35,vH b 24 (.r (.bo (!z))))]
def yhR (G:Bool→Bool→RowC) (b:Nat→Bool) (vs:Nat→Nat) (z:Bool):List (Nat × RowC):=[(999,G (b 22) z)]
attribute [go_sem] yhF yhR vH
theorem all_it (bs:List Int) (g:Int) (hB:∀ b∈bs,bedOk b=true∧0≤b∧b≤499) (dn s:Nat) (hdn:1≤dn∧dn≤6) (hs:1≤s∧s≤1000) :
 IBCalls Tryz.prog false 72 [.ag (finC bs g (dn:Int) dn s)] ((allO g bs s s dn).map fun w=>[ints w]):=by
 have hway:=fun (k:Nat) (hk:k≤dn)=>ways_ok bs g hB s dn (by omega) hdn.2 k s [] (Nat.le_refl _) hk (by simp;omega)
 have hBl0:=rowN_len g bs s
 have hck00:=fun (k:Nat) (hk:k≤dn)=>show (cntO g bs s dn)[k]? = some (rowN g bs s k) by
  unfold cntO
  rw[List.getElem?_map,List.getElem?_range (by omega)]
  rfl
 have hcl0:=cnt_len g bs s dn
 obtain⟨rem,hrem⟩:∃ rem:Nat→List (List RV),rem=fun i=>(((List.range dn).drop i).flatMap (partO g bs s s)).map fun w=>[ints w]:=⟨_,rfl⟩
 have hr0:(allO g bs s s dn).map (fun w=>[ints w])=rem 0:=by rw[hrem];rfl
 have hrE:rem dn=[]:=by
  rw[hrem]
  show (((List.range dn).drop dn).flatMap (partO g bs s s)).map (fun w=>[ints w])=[]
  rw[List.drop_eq_nil_of_le (by simp)]
  rfl
 have hrS:∀ i,i<dn→rem i=((if 0<(rowN g bs s (i+1)).getD s 0 then waysO g bs s (i+1) (s:Int) [] else []).map fun w=>[ints w])++rem (i+1):=fun i hi=>by
  have hd:(List.range dn).drop i=i::(List.range dn).drop (i+1):=by
   rw[List.drop_eq_getElem_cons (by simpa using hi),List.getElem_range]
  rw[hrem]
  simp only[hd,List.flatMap_cons,List.map_append]
  rfl
 rw[hr0]
 have hfin:finC bs g (dn:Int) dn s=[brdP bs g (cntO g bs s dn),ints bs,i64 g,i64 (dn:Int),i64 (s:Int)]:=rfl
 rw[hfin]
 generalize cntO g bs s dn=cs at *
 refine ibcalls_st Tryz.func72 rfl (by kernel_rfl) Tryz.ntmps72 rfl (by simp) fun C ll=>?_
 repeat apply zq
 refine zb fun K hK=>?_;simp only[go_sem,argL,List.cons_append,List.nil_append];(try simp (disch:=omega) only[zI]);repeat first|intro _|refine⟨by omega,?_⟩
 apply hK;clear hK K;refine zw (zfP 2 2 [brdP bs g cs,ints bs,i64 g,i64 (dn:Int),i64 (s:Int)] (by omega) rfl rfl) ?_;apply zw (zk [1,2]);simp only[go_sem]
 repeat apply zq
 refine zb fun K hK=>?_;simp only[go_sem];(try simp (disch:=omega) only[zI]);repeat first|intro _|refine⟨by omega,?_⟩
 apply hK;clear hK K;apply zw (zk [1,2,7,8]);simp only[go_sem]
 repeat apply zq
 apply zd
 refine zuv (n:=37) dn (fun i vs=>[(1,.r (.yl ll)),(2,.r (.rp [brdP bs g cs,ints bs,i64 g,i64 (dn:Int),i64 (s:Int)])),(7,.r (i64 (dn:Int))),(8,.r (i64 (i:Int)))])
  (fun i vs=>[(999,.gh Tryz.prog ll false (some (rem i)))]) (fun _=>True) 0 (zj [] ?_ ?_) (Nat.zero_le _) trivial ?_
 ·try simp only[go_sem]
 ·try simp only[go_sem]
 intro i vs hi _
 by_cases hin:i<dn
 ·have hst:=hrS i hin
  have hck0:=hck00 (i+1) (by omega)
  have hBl:=hBl0 (i+1)
  have hY:=hway (i+1) (by omega)
  have w1:IntKind.i64.wrap ((i:Int)+1)=((i+1:Nat):Int):=by rw[zI]<;>omega
  generalize hwy:waysO g bs s (i+1) (s:Int) []=W at *
  generalize rowN g bs s (i+1)=B at *
  obtain⟨q,hq⟩:=zol (show s<B.length by omega)
  have hqg:B.getD s 0=q:=by simp [List.getD,hq]
  rw[hqg] at hst
  have hBk:i+1<cs.length:=by omega
  have hsB:s<B.length:=by omega
  generalize rem (i+1)=rest at *
  rw[hst]
  clear hst
  have c1:decide ((i:Int)<(dn:Int))=true:=decide_eq_true (by omega)
  repeat apply zq
  refine zb fun K hK=>?_;simp only[go_sem,c1,hin];(try simp (disch:=omega) only[zI]);repeat first|intro _|refine⟨by omega,?_⟩
  apply hK;clear hK K;apply zw (zk [1,2,7,8,9]);simp only[go_sem]
  repeat apply zq
  apply zc rfl<;>intro hc<;>(try simp only[go_sem] at hc)
  apply zx
  try simp only[go_sem]
  repeat apply zq
  apply zd
  repeat apply zq
  refine zb fun K hK=>?_;simp only[go_sem];(try simp (disch:=omega) only[zI]);repeat first|intro _|refine⟨by omega,?_⟩
  apply hK;clear hK K;apply zw (zk [1,2,4,7,8]);simp only[go_sem]
  by_cases hp:0<q
  ·rw[if_pos hp]
   have hq1:decide (0<q)=true:=decide_eq_true hp
   generalize hXX:W.map (fun w=>[ints w])=X at *
   obtain⟨GG,hG0,hG1,hG2⟩:∃ GG:Bool→Bool→RowC,(∀ z,GG false z = .gh Tryz.prog ll false (some (X++rest)))∧GG true true = .gh Tryz.prog ll false (some rest)∧GG true false = .gh Tryz.prog ll false none :=
    ⟨fun x z=>bif x then (bif z then .gh Tryz.prog ll false (some rest) else .gh Tryz.prog ll false none) else .gh Tryz.prog ll false (some (X++rest)),fun _=>rfl,rfl,rfl⟩
   have E:=And.intro hck0 (And.intro hBk (And.intro hsB (And.intro hq (And.intro hq1 (And.intro w1 (And.intro hG0 (And.intro hG1 hG2)))))))
   repeat apply zq
   refine awp_invY (n:=37) (yhF bs g (dn:Int) (s:Int) cs ((i+1:Nat):Int) (i:Int) q B ll true) (yhR GG) follows (by kernel_rfl) (by decide +kernel) (fitG_of true (zj [] ?_ ?_)) ?_ ?_
   ·simp only[go_sem,yhF,vH,if_true,if_false,Bool.false_eq_true,cond_false]
   ·simp only[go_sem,yhR,cond_false,hG0,List.cons_append,List.nil_append]
    try exact congrArg _ (hG0 _).symm
   refine⟨fun b vs z hdn hbk hde=>?_,fun b vs z hdn hbk hde=>?_,fun b vs z hdn hbk hde=>?_,fun b vs z hdn hbk hde=>?_,fun b vs z hdn hbk hde=>?_,fun b vs z hdn hbk hde=>?_,fun b vs z hdn hbk hde=>?_,fun b vs z hdn hbk hde=>?_,fun b vs z hdn hbk hde=>?_,fun b vs z hdn hbk hde=>?_,fun b vs z hdn hbk hde=>?_,fun b vs z hdn hbk hde=>?_,fun b vs z hdn hbk hde=>?_,fun b vs z hdn hbk hde=>?_,fun b vs z hdn hbk hde=>?_,fun b vs z hdn hbk hde=>?_,fun b vs z hdn hbk hde=>?_,fun b vs z hdn hbk hde=>?_,fun b vs z hdn hbk hde=>?_,fun b vs z hdn hbk hde=>?_,fun b vs z hdn hbk hde=>?_,fun b vs z hdn hbk hde=>?_,fun b vs z hdn hbk hde=>?_,fun b vs z hdn hbk hde=>?_,fun b vs z hdn hbk hde=>?_,trivial⟩
   ·skip
    have G:=dnT hdn hbk [1,2,3,4,7,8,11,12,13,14,15,16,17,18,19,20,21,22,23,24] (by decide +kernel)
    simp only[allB,and_true] at G
    refine .inl ⟨trivial,.inl (.inl ?_)⟩
    simp only[go_sem,upd,if_true,Bool.false_eq_true,if_false,hbk,G,E]
    refine fitG_of z (zj [] ?_ ?_)<;>simp only[go_sem,upd,if_true,Bool.false_eq_true,if_false,hbk,G,E]
   ·skip
    have H:=upT hdn hde [0] (by decide +kernel)
    have G:=dnT hdn hbk [2,3,4,7,8,11,12,13,14,15,16,17,18,19,20,21,22,23,24] (by decide +kernel)
    simp only[allB,and_true] at H G
    refine .inl ⟨trivial,.inl (.inl ?_)⟩
    simp only[go_sem,upd,if_true,Bool.false_eq_true,if_false,hbk,H,G,E]
    refine fitG_of z (zj [] ?_ ?_)<;>simp only[go_sem,upd,if_true,Bool.false_eq_true,if_false,hbk,H,G,E]
   ·skip
    have H:=upT hdn hde [1,0] (by decide +kernel)
    have G:=dnT hdn hbk [3,4,7,8,11,12,13,14,15,16,17,18,19,20,21,22,23,24] (by decide +kernel)
    simp only[allB,and_true] at H G
    refine .inl ⟨trivial,.inl (.inl ?_)⟩
    simp only[go_sem,upd,if_true,Bool.false_eq_true,if_false,hbk,H,G,E]
    refine fitG_of z (zj [] ?_ ?_)<;>simp only[go_sem,upd,if_true,Bool.false_eq_true,if_false,hbk,H,G,E]
   ·skip
    have H:=upT hdn hde [2,1,0] (by decide +kernel)
    have G:=dnT hdn hbk [4,7,8,11,12,13,14,15,16,17,18,19,20,21,22,23,24] (by decide +kernel)
    simp only[allB,and_true] at H G
    refine .inl ⟨trivial,.inl (.inl ?_)⟩
    simp only[go_sem,upd,if_true,Bool.false_eq_true,if_false,hbk,H,G,E]
    refine fitG_of z (zj [] ?_ ?_)<;>simp only[go_sem,upd,if_true,Bool.false_eq_true,if_false,hbk,H,G,E]
   ·skip
    have H:=upT hdn hde [3,2,1,0] (by decide +kernel)
    have G:=dnT hdn hbk [7,8,11,12,13,14,15,16,17,18,19,20,21,22,23,24] (by decide +kernel)
    simp only[allB,and_true] at H G
    refine .inl ⟨trivial,.inl (.inl ?_)⟩
    simp only[go_sem,upd,if_true,Bool.false_eq_true,if_false,hbk,H,G,E]
    refine fitG_of z (zj [] ?_ ?_)<;>simp only[go_sem,upd,if_true,Bool.false_eq_true,if_false,hbk,H,G,E]
   ·skip
    have G:=dnT hdn hbk [6,7,8,11,12,13,14,15,16,17,18,19,20,21,22,23,24] (by decide +kernel)
    simp only[allB,and_true] at G
    refine .inl ⟨trivial,.inl (.inl ?_)⟩
    simp only[go_sem,upd,if_true,Bool.false_eq_true,if_false,hbk,G,E]
    refine fitG_of z (zj [] ?_ ?_)<;>simp only[go_sem,upd,if_true,Bool.false_eq_true,if_false,hbk,G,E]
   ·skip
    have H:=upT hdn hde [5] (by decide +kernel)
    have G:=dnT hdn hbk [7,8,11,12,13,14,15,16,17,18,19,20,21,22,23,24] (by decide +kernel)
    simp only[allB,and_true] at H G
    refine .inl ⟨trivial,.inl (.inl ?_)⟩
    simp only[go_sem,upd,if_true,Bool.false_eq_true,if_false,hbk,H,G,E]
    refine fitG_of z (zj [] ?_ ?_)<;>simp only[go_sem,upd,if_true,Bool.false_eq_true,if_false,hbk,H,G,E]
   ·skip
    have H:=upT hdn hde [4,6,3,5,2,1,0] (by decide +kernel)
    have G:=dnT hdn hbk [8,11,12,13,14,15,16,17,18,19,20,21,22,23,24] (by decide +kernel)
    simp only[allB,and_true] at H G
    refine .inl ⟨trivial,.inl (.inl ?_)⟩
    simp only[go_sem,upd,if_true,Bool.false_eq_true,if_false,hbk,H,G,E]
    all_goals (try (refine⟨⟨by omega,by omega⟩,?_⟩))
    refine fitG_of z (zj [] ?_ ?_)<;>simp only[go_sem,upd,if_true,Bool.false_eq_true,if_false,hbk,H,G,E]
   ·skip
    have H:=upT hdn hde [7,4,6,3,5,2,1,0] (by decide +kernel)
    have G:=dnT hdn hbk [11,12,13,14,15,16,17,18,19,20,21,22,23,24] (by decide +kernel)
    simp only[allB,and_true] at H G
    refine .inl ⟨trivial,.inl (.inl ?_)⟩
    simp only[go_sem,upd,if_true,Bool.false_eq_true,if_false,hbk,H,G,E]
    refine fitG_of z (zj [] ?_ ?_)<;>simp only[go_sem,upd,if_true,Bool.false_eq_true,if_false,hbk,H,G,E]
   ·skip
    have G:=dnT hdn hbk [10,11,12,13,14,15,16,17,18,19,20,21,22,23,24] (by decide +kernel)
    simp only[allB,and_true] at G
    refine .inl ⟨trivial,.inl (.inl ?_)⟩
    simp only[go_sem,upd,if_true,Bool.false_eq_true,if_false,hbk,G,E]
    refine fitG_of z (zj [] ?_ ?_)<;>simp only[go_sem,upd,if_true,Bool.false_eq_true,if_false,hbk,G,E]
   ·skip
    have H:=upT hdn hde [9] (by decide +kernel)
    have G:=dnT hdn hbk [11,12,13,14,15,16,17,18,19,20,21,22,23,24] (by decide +kernel)
    simp only[allB,and_true] at H G
    refine .inl ⟨trivial,.inl (.inl ?_)⟩
    simp only[go_sem,upd,if_true,Bool.false_eq_true,if_false,hbk,H,G,E]
    refine fitG_of z (zj [] ?_ ?_)<;>simp only[go_sem,upd,if_true,Bool.false_eq_true,if_false,hbk,H,G,E]
   ·skip
    have H:=upT hdn hde [8,10,7,9,4,6,3,5,2,1,0] (by decide +kernel)
    have G:=dnT hdn hbk [12,13,14,15,16,17,18,19,20,21,22,23,24] (by decide +kernel)
    simp only[allB,and_true] at H G
    refine .inl ⟨trivial,.inl (.inl ?_)⟩
    simp only[go_sem,upd,if_true,Bool.false_eq_true,if_false,hbk,H,G,E]
    all_goals (try (refine⟨⟨by omega,by omega⟩,?_⟩))
    refine fitG_of z (zj [] ?_ ?_)<;>simp only[go_sem,upd,if_true,Bool.false_eq_true,if_false,hbk,H,G,E]
   ·skip
    have H:=upT hdn hde [11,8,10,7,9,4,6,3,5,2,1,0] (by decide +kernel)
    have G:=dnT hdn hbk [13,14,15,16,17,18,19,20,21,22,23,24] (by decide +kernel)
    simp only[allB,and_true] at H G
    refine .inl ⟨trivial,.inl (.inl ?_)⟩
    simp only[go_sem,upd,if_true,Bool.false_eq_true,if_false,hbk,H,G,E]
    refine fitG_of z (zj [] ?_ ?_)<;>simp only[go_sem,upd,if_true,Bool.false_eq_true,if_false,hbk,H,G,E]
   ·skip
    have H:=upT hdn hde [12,11,8,10,7,9,4,6,3,5,2,1,0] (by decide +kernel)
    have G:=dnT hdn hbk [14,15,16,17,18,19,20,21,22,23,24] (by decide +kernel)
    simp only[allB,and_true] at H G
    refine .inl ⟨trivial,.inl (.inl ?_)⟩
    simp only[go_sem,upd,if_true,Bool.false_eq_true,if_false,hbk,H,G,E]
    refine fitG_of z (zj [] ?_ ?_)<;>simp only[go_sem,upd,if_true,Bool.false_eq_true,if_false,hbk,H,G,E]
   ·skip
    have H:=upT hdn hde [13,12,11,8,10,7,9,4,6,3,5,2,1,0] (by decide +kernel)
    have G:=dnT hdn hbk [15,16,17,18,19,20,21,22,23,24] (by decide +kernel)
    simp only[allB,and_true] at H G
    refine .inl ⟨trivial,.inl (.inl ?_)⟩
    simp only[go_sem,upd,if_true,Bool.false_eq_true,if_false,hbk,H,G,E]
    refine fitG_of z (zj [] ?_ ?_)<;>simp only[go_sem,upd,if_true,Bool.false_eq_true,if_false,hbk,H,G,E]
   ·skip
    have H:=upT hdn hde [14,13,12,11,8,10,7,9,4,6,3,5,2,1,0] (by decide +kernel)
    have G:=dnT hdn hbk [16,22,23,24] (by decide +kernel)
    simp only[allB,and_true] at H G
    refine .inl ⟨⟨25,by kernel_rfl,by simp only[go_sem,if_true,H]⟩,.inl (.inl ?_)⟩
    simp only[go_sem,upd,if_true,Bool.false_eq_true,if_false,hbk,H,G,E]
    refine fitG_of z (zj [] ?_ ?_)<;>simp only[go_sem,upd,if_true,Bool.false_eq_true,if_false,hbk,H,G,E]
   ·skip
    have H:=upT hdn hde [14,15,13,12,11,8,10,7,9,4,6,3,5,2,1,0] (by decide +kernel)
    have G:=dnT hdn hbk [22,23,24] (by decide +kernel)
    simp only[allB,and_true] at H G
    refine .inl ⟨⟨25,by kernel_rfl,by simp only[go_sem,if_true,H]⟩,.inl (.inl ?_)⟩
    simp only[go_sem,upd,if_true,Bool.false_eq_true,if_false,hbk,H,G,E]
    refine fitG_of z (zj [] ?_ ?_)<;>simp only[go_sem,upd,if_true,Bool.false_eq_true,if_false,hbk,H,G,E]
   ·skip
    have H:=upT hdn hde [14,13,12,11,8,10,7,9,4,6,3,5,2,1,0] (by decide +kernel)
    have G:=dnT hdn hbk [18,22,23,24] (by decide +kernel)
    simp only[allB,and_true] at H G
    refine .inl ⟨⟨25,by kernel_rfl,by simp only[go_sem,if_true,H]⟩,.inl (.inl ?_)⟩
    simp only[go_sem,upd,if_true,Bool.false_eq_true,if_false,hbk,H,G,E]
    refine fitG_of z (zj [] ?_ ?_)<;>simp only[go_sem,upd,if_true,Bool.false_eq_true,if_false,hbk,H,G,E]
   ·skip
    have H:=upT hdn hde [14,17,13,12,11,8,10,7,9,4,6,3,5,2,1,0] (by decide +kernel)
    have G:=dnT hdn hbk [22,23,24] (by decide +kernel)
    simp only[allB,and_true] at H G
    refine .inl ⟨⟨25,by kernel_rfl,by simp only[go_sem,if_true,H]⟩,.inl (.inl ?_)⟩
    simp only[go_sem,upd,if_true,Bool.false_eq_true,if_false,hbk,H,G,E]
    refine fitG_of z (zj [] ?_ ?_)<;>simp only[go_sem,upd,if_true,Bool.false_eq_true,if_false,hbk,H,G,E]
   ·skip
    have H:=upT hdn hde [14,13,12,11,8,10,7,9,4,6,3,5,2,1,0] (by decide +kernel)
    have G:=dnT hdn hbk [20,22,23,24] (by decide +kernel)
    simp only[allB,and_true] at H G
    refine .inl ⟨⟨25,by kernel_rfl,by simp only[go_sem,if_true,H]⟩,.inl (.inl ?_)⟩
    simp only[go_sem,upd,if_true,Bool.false_eq_true,if_false,hbk,H,G,E]
    refine fitG_of z (zj [] ?_ ?_)<;>simp only[go_sem,upd,if_true,Bool.false_eq_true,if_false,hbk,H,G,E]
   ·skip
    have H:=upT hdn hde [14,19,13,12,11,8,10,7,9,4,6,3,5,2,1,0] (by decide +kernel)
    have G:=dnT hdn hbk [22,23,24] (by decide +kernel)
    simp only[allB,and_true] at H G
    refine .inl ⟨⟨25,by kernel_rfl,by simp only[go_sem,if_true,H]⟩,.inl (.inl ?_)⟩
    simp only[go_sem,upd,if_true,Bool.false_eq_true,if_false,hbk,H,G,E]
    refine fitG_of z (zj [] ?_ ?_)<;>simp only[go_sem,upd,if_true,Bool.false_eq_true,if_false,hbk,H,G,E]
   ·skip
    have H:=upT hdn hde [14,13,12,11,8,10,7,9,4,6,3,5,2,1,0] (by decide +kernel)
    have G:=dnT hdn hbk [22,23,24] (by decide +kernel)
    simp only[allB,and_true] at H G
    refine .inl ⟨⟨25,by kernel_rfl,by simp only[go_sem,if_true,H]⟩,.inl (.inl ?_)⟩
    simp only[go_sem,upd,if_true,Bool.false_eq_true,if_false,hbk,H,G,E]
    refine fitG_of z (zj [] ?_ ?_)<;>simp only[go_sem,upd,if_true,Bool.false_eq_true,if_false,hbk,H,G,E]
   ·skip
    have H:=upT hdn hde [14,14,16,18,20,21,13,15,17,19,12,11,8,10,7,9,4,6,3,5,2,1,0] (by decide +kernel)
    have G:=dnT hdn hbk [23,24] (by decide +kernel)
    simp only[allB,and_true] at H G
    refine .inl ⟨⟨25,by kernel_rfl,by simp only[go_sem,if_true,H]⟩,?_⟩
    refine .inr ⟨106,[],_,_,rest,ll,rfl,?_,?_,?_,hY,?_,?_⟩
    ·(simp only[go_sem,upd,if_true,Bool.false_eq_true,if_false,hbk,H,G,E])
    ·(simp only[go_sem,upd,if_true,Bool.false_eq_true,if_false,hbk,H,G,E,evs,List.map_cons,List.map_nil])
     try rfl
    ·(simp only[go_sem,upd,if_true,Bool.false_eq_true,if_false,hbk,H,G,E,evs,List.map_cons,List.map_nil])
     first|exact leL_refl _|exact⟨rv_le _,rv_le _⟩|exact⟨rv_le _,rv_le _,rv_le _⟩|skip
    ·rw[row999_st]
     (simp only[go_sem,upd,if_true,Bool.false_eq_true,if_false,hbk,H,G,E])
     refine fitG_of true (zj [] ?_ ?_)<;>(simp only[go_sem,upd,if_true,Bool.false_eq_true,if_false,hbk,H,G,E])
    ·rw[row999_st]
     (simp only[go_sem,upd,if_true,Bool.false_eq_true,if_false,hbk,H,G,E])
     refine fitG_of false (zj [] ?_ ?_)<;>(simp only[go_sem,upd,if_true,Bool.false_eq_true,if_false,hbk,H,G,E])
   ·skip
    have H:=upT hdn hde [14,22,13,16,18,20,21,12,15,17,19,11,8,10,7,9,4,6,3,5,2,1,0] (by decide +kernel)
    have G:=dnT hdn hbk [24] (by decide +kernel)
    simp only[allB,and_true] at H G
    refine .inl ⟨⟨25,by kernel_rfl,by simp only[go_sem,if_true,H]⟩,.inl (.inl ?_)⟩
    simp only[go_sem,upd,if_true,Bool.false_eq_true,if_false,hbk,H,G,E]
    refine fitG_of z (zj [] ?_ ?_)<;>simp only[go_sem,upd,if_true,Bool.false_eq_true,if_false,hbk,H,G,E]
   ·skip
    have H:=upT hdn hde [14,23,13,22,12,16,18,20,21,11,15,17,19,8,10,7,9,4,6,3,5,2,1,0] (by decide +kernel)
    simp only[allB,and_true] at H
    refine .inl ⟨trivial,.inl (.inl ?_)⟩
    simp only[go_sem,upd,if_true,Bool.false_eq_true,if_false,hbk,H,E]
    refine fitG_of z (zj [] ?_ ?_)<;>simp only[go_sem,upd,if_true,Bool.false_eq_true,if_false,hbk,H,E]
   intro b vs z hb
   simp only[go_sem,yhF,yhR,vH,hb,if_true,cond_true,List.cons_append,List.nil_append]
   cases z
   ·rw[hG2]
    apply zw (zk [1,2,7,8,35]);simp only[go_sem]
    repeat apply zq
    apply zc rfl<;>intro hc<;>(try simp only[go_sem] at hc)
    apply ze;exact⟨ll,false,.inr rfl⟩
   ·rw[hG1]
    apply zw (zk [1,2,7,8,35]);simp only[go_sem]
    repeat apply zq
    apply zc rfl<;>intro hc<;>(try simp only[go_sem] at hc)
    apply zx
    try simp only[go_sem]
    repeat apply zq
    refine zb fun K hK=>?_;simp only[go_sem,w1];(try simp (disch:=omega) only[zI]);repeat first|intro _|refine⟨by omega,?_⟩
    apply hK;clear hK K
    try simp only[go_sem]
    refine⟨by omega,zj [] ?_ ?_⟩
    ·try simp only[go_sem]
    ·try simp only[go_sem]
  ·rw[if_neg hp]
   simp only[List.map_nil,List.nil_append]
   have hq1:decide (0<q)=false:=decide_eq_false hp
   repeat apply zq
   refine zg follows (by decide +kernel) (by kernel_rfl) fun K hK=>?_;simp only[go_sem,hck0,hBk,hsB,hq,hq1,w1,List.length_map];(try simp (disch:=omega) only[zI]);repeat first|intro _|refine⟨by omega,?_⟩
   repeat first|intro _|refine⟨by omega,?_⟩
   apply hK;clear hK K;apply zw (zk [1,2,7,8,35]);simp only[go_sem]
   repeat apply zq
   apply zc rfl<;>intro hc<;>(try simp only[go_sem] at hc)
   apply zx
   try simp only[go_sem]
   repeat apply zq
   refine zb fun K hK=>?_;simp only[go_sem,w1];(try simp (disch:=omega) only[zI]);repeat first|intro _|refine⟨by omega,?_⟩
   apply hK;clear hK K
   try simp only[go_sem]
   refine⟨by omega,zj [] ?_ ?_⟩
   ·try simp only[go_sem]
   ·try simp only[go_sem]
 ·have hie:i=dn:=by omega
  subst hie
  rw[hrE]
  repeat apply zq
  refine zb fun K hK=>?_;simp only[go_sem,Nat.lt_irrefl,Int.lt_irrefl];(try simp (disch:=omega) only[zI]);repeat first|intro _|refine⟨by omega,?_⟩
  apply hK;clear hK K;apply zw (zk [9]);simp only[go_sem]
  repeat apply zq
  apply zc rfl<;>intro hc<;>(try simp only[go_sem] at hc)
  apply zf;simp only[go_sem];exact⟨ll,false,.inl rfl⟩
theorem waysAll_ok (bs:List Int) (g:Int) (dn s:Nat) (h:BdsO bs) (hg:0≤g∧g≤2) (hk:1≤dn∧dn≤3) (hs:1≤s∧s≤1000) (hT:0<totO (cntO g bs s dn) s∧totO (cntO g bs s dn) s≤3000) :
 ACalls Tryz.prog 40 [ouR bs g (dn:Int),i64 (s:Int)] (.tu [.sl 1 ((allO g bs s s dn).map fun w=>[ints w]),i64 0]):=by
 have hnf:=newFinish_ok bs g dn s h hg (by omega) hs
 have hcl:=cnt_len g bs s dn
 have hto:=total_ok bs g (cntO g bs s dn) s (s+1) (by omega) (fun r hr=>by
  obtain⟨j,hj,rfl⟩:=List.mem_map.1 hr
  have hj:=List.mem_range.1 hj
  exact⟨rowN_len g bs s j,rowN_le6 g bs h.len s (by omega)⟩) (by omega)
 have hit:=all_it bs g (fun b hb=>h.bed b hb) dn s (by omega) hs
 have hAl:=all_len (g:=g) (m:=s) (s:=s) h.len dn hk.2
 have z0:((0:Int) != 0)=false:=rfl
 generalize totO (cntO g bs s dn) s=T at *
 generalize allO g bs s s dn=W at *
 have d1:(T == 0)=false:=by rw[beq_eq_false_iff_ne];omega
 have d2:decide (3000<T)=false:=decide_eq_false (by omega)
 refine acalls_stR (rs:=[.sl 1 (W.map fun w=>[ints w]),i64 0]) [.cell 4 81,.tmp 5] Tryz.func40 rfl (by kernel_rfl) Tryz.ntmps40 rfl (by simp) rfl fun C hC vs=>?_
 repeat apply zq
 refine zb fun K hK=>?_;simp only[go_sem];(try simp (disch:=omega) only[zI]);repeat first|intro _|refine⟨by omega,?_⟩
 apply hK;clear hK K;refine zw (zfP 2 2 [ints bs,i64 g,i64 (dn:Int)] (by omega) rfl rfl) ?_;apply zw (zk [1,2,4]);simp only[go_sem]
 repeat apply zq
 refine zb fun K hK=>?_;simp only[go_sem];(try simp (disch:=omega) only[zI])
 refine zh (hnf) rfl (by simp only[go_sem,i64,ints]) (by simp only[go_sem,i64,ints]) ?_
 (try simp only[go_sem]);(try simp (disch:=omega) only[zI]);repeat first|intro _|refine⟨by omega,?_⟩
 apply hK;clear hK K;refine zw (zfP 6 6 (finC bs g (dn:Int) dn s) (by omega) rfl rfl) ?_;apply zw (zk [1,4,5,6]);simp only[go_sem]
 repeat apply zq
 refine zb fun K hK=>?_;simp only[go_sem,z0];(try simp (disch:=omega) only[zI]);repeat first|intro _|refine⟨by omega,?_⟩
 apply hK;clear hK K;apply zw (zk [1,4,5,6,16]);simp only[go_sem]
 repeat apply zq
 apply zc rfl<;>intro hc<;>(try simp only[go_sem] at hc)
 apply zx
 try simp only[go_sem]
 repeat apply zq
 refine zb fun K hK=>?_;simp only[go_sem];(try simp (disch:=omega) only[zI])
 refine zh (hto) rfl (by simp only[go_sem,i64,ints]) (by simp only[go_sem,i64,ints]) ?_
 (try simp only[go_sem]);(try simp (disch:=omega) only[zI]);repeat first|intro _|refine⟨by omega,?_⟩
 apply hK;clear hK K;apply zw (zk [4,5,6,7]);simp only[go_sem]
 repeat apply zq
 apply zd
 repeat apply zq
 refine zb fun K hK=>?_;simp only[go_sem,d1];(try simp (disch:=omega) only[zI]);repeat first|intro _|refine⟨by omega,?_⟩
 apply hK;clear hK K;apply zw (zk [4,5,6,7,22]);simp only[go_sem]
 repeat apply zq
 apply zc rfl<;>intro hc<;>(try simp only[go_sem] at hc)
 repeat apply zq
 refine zb fun K hK=>?_;simp only[go_sem,d2];(try simp (disch:=omega) only[zI]);repeat first|intro _|refine⟨by omega,?_⟩
 apply hK;clear hK K;apply zw (zk [4,5,6,7,25]);simp only[go_sem]
 repeat apply zq
 apply zc rfl<;>intro hc<;>(try simp only[go_sem] at hc)
 apply zx
 try simp only[go_sem]
 repeat apply zq
 refine awp_long ?_
 refine sops_take 1 (by kernel_rfl) fun K hK=>?_
 simp only[go_sem,List.take_succ_cons,List.take_zero,List.drop_succ_cons,List.drop_zero,List.append_eq,List.cons_append,List.nil_append];(try simp (disch:=omega) only[zI]);repeat first|intro _|refine⟨by omega,?_⟩
 refine hK _ rfl ?_
 clear hK K
 refine sops_sub (zk [4,28]) ?_
 simp only[go_sem]
 refine sops_gop rfl (by intro t h;injection h with h;subst h;show 29<36;decide) (by intro c h;cases h) (gop_method rfl rfl ?_)
 try simp only[go_sem]
 refine sops_end (by kernel_rfl) fun K hK=>?_
 simp only[go_sem,List.drop_succ_cons,List.drop_zero,List.append_eq,List.cons_append,List.nil_append];(try simp (disch:=omega) only[zI]);repeat first|intro _|refine⟨by omega,?_⟩
 apply hK;clear hK K;refine zw (sub_ownB 4 0 34 65 1 (by omega) (by omega) rfl rfl) ?_;apply zw (zk [4,29]);simp only[go_sem]
 repeat apply zq
 apply zd
 refine awp_rangeFB hC (W.map fun w=>[ints w]) hit [4,29] (by decide) (fun vs=>[(4,.pt 4 (vs 4) 0),(29,.r (.bf 72 [.ag (finC bs g (dn:Int) dn s)]))])
  (fun i vs=>[(4,.box [.os 34 (vs 34) 1 0 i]),(34,.arr 65 1 ((W.take i).map fun w=>[ints w]))]) (fun _=>True) (zj [] ?_ ?_) trivial (fun _=>rfl) (fun _=>rfl) (fun _ _=>rfl) (by simp) (fun e he=>by obtain⟨x,_,rfl⟩:=List.mem_map.1 he;rfl) ?_ ?_
 ·try simp only[go_sem]
  try rfl
 ·try simp only[go_sem]
  try rfl
 ·intro i e vs us C' he _
  rw[List.getElem?_map] at he
  obtain⟨w,hw,rfl⟩:=Option.map_eq_some_iff.1 he
  have hi:=(List.getElem?_eq_some_iff.1 hw).1
  have hlt:((W.take i).map fun w=>[ints w]).length=i:=by rw[List.length_map,List.length_take];omega
  rw[zto hw,List.map_append]
  repeat apply zq
  refine zb fun K hK=>?_;simp only[go_sem];(try simp (disch:=omega) only[zI]);repeat first|intro _|refine⟨by omega,?_⟩
  apply hK;clear hK K
  refine⟨rfl,fun C'=>?_⟩
  apply zw (zk [4,8,29]);simp only[go_sem]
  repeat apply zq
  apply zd
  repeat apply zq
  refine zb fun K hK=>?_;simp only[go_sem,hlt];(try simp (disch:=omega) only[zI]);repeat first|intro _|refine⟨by omega,?_⟩
  repeat first|intro _|refine⟨by omega,?_⟩
  apply hK;clear hK K
  try simp only[go_sem]
  refine zj (F:=fun _=>[]) [] ?_ ?_
  ·try simp only[go_sem]
  ·try simp only[go_sem]
 ·intro vs us _
  have hWl:(W.map fun w=>[ints w]).length=W.length:=List.length_map _
  try simp only[go_sem]
  refine zw (sub_wake rfl) ?_
  try simp only[List.length_map,List.take_length]
  repeat apply zq
  refine zb fun K hK=>?_;simp only[go_sem];(try simp (disch:=omega) only[zI]);repeat first|intro _|refine⟨by omega,?_⟩
  apply hK;clear hK K;apply zw (zk [4,5]);simp only[go_sem];apply ze;simp only[go_sem]
  try simp
end Go.Proofs.YtgfbenanljjgaaaGreat.Du
